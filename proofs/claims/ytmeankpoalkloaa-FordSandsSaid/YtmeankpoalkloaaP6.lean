/- Part 6 of a proof: F7, F20, F21, F22, F23, F24, F25. -/
import Derived.Test.YtmeankpoalkloaaP5
section
namespace GA
open Go Go.RowKit Go.Proofs
set_option maxRecDepth 8000
set_option linter.unusedVariables false
set_option linter.unusedSimpArgs false

theorem getD_map' {α β : Type} (f : α → β) (l : List α) (i : Nat) (d : α) : (l.map f).getD i (f d) = f (l.getD i d) := by
  rw [List.getD_eq_getElem?_getD, List.getD_eq_getElem?_getD, List.getElem?_map]
  cases l[i]? <;> rfl
structure SnEq (s u : Sn) : Prop where
  places : s.places = u.places
  home : s.home = u.home
  bed : s.bed = u.bed
  last : s.last = u.last
  ways : s.ways = u.ways
  looks : s.looks.map (·.2) = u.looks.map (·.2)
  truths : s.truths.map (fun t => t.2.map (·.2)) = u.truths.map (fun t => t.2.map (·.2))
theorem SnEq.symm {s u : Sn} (e : SnEq s u) : SnEq u s := ⟨e.places.symm, e.home.symm, e.bed.symm, e.last.symm, e.ways.symm, e.looks.symm, e.truths.symm⟩
theorem SnEq.trans {s u v : Sn} (e : SnEq s u) (f : SnEq u v) : SnEq s v := ⟨e.places.trans f.places, e.home.trans f.home, e.bed.trans f.bed, e.last.trans f.last, e.ways.trans f.ways, e.looks.trans f.looks, e.truths.trans f.truths⟩
theorem SnEq.lenK {s u : Sn} (e : SnEq s u) : s.looks.length = u.looks.length := by have := congrArg List.length e.looks; simpa using this
theorem SnEq.lenT {s u : Sn} (e : SnEq s u) : s.truths.length = u.truths.length := by have := congrArg List.length e.truths; simpa using this
theorem lookZ_eq' (s : Sn) (t p : Nat) : lookZ s t p = ((s.looks.map (·.2)).getD t []).getD p default := by
  unfold lookZ; rw [show ([] : List Int) = (default : Rw).2 from rfl, getD_map' (fun r : Rw => r.2)]
theorem SnEq.look {s u : Sn} (e : SnEq s u) (t p : Nat) : lookZ s t p = lookZ u t p := by rw [lookZ_eq', lookZ_eq', e.looks]
theorem dryT_eq' (s : Sn) (t p m : Nat) : dryT s t p m = ((((s.truths.map fun t => t.2.map (·.2)).getD t []).getD p []).any fun x => inZ m x.1 x.2) := by
  unfold dryT
  rw [show ([] : List (List (Int × Int))) = (default : Tru).2.map (·.2) from rfl, getD_map' (fun t : Tru => t.2.map (·.2)), show ([] : List (Int × Int)) = (default : Sps).2 from rfl, getD_map' (fun t : Sps => t.2)]
theorem SnEq.dry {s u : Sn} (e : SnEq s u) (t p m : Nat) : dryT s t p m = dryT u t p m := by rw [dryT_eq', dryT_eq', e.truths]
theorem SnEq.drN {s u : Sn} (e : SnEq s u) (p m : Nat) : drN s p m = drN u p m := by unfold GA.drN; rw [e.lenT]; exact bsum_congr fun i _ => e.dry i p m
theorem SnEq.allN {s u : Sn} (e : SnEq s u) : allN s = allN u := by unfold GA.allN; rw [e.lenT]
theorem SnEq.partN {s u : Sn} (e : SnEq s u) (p l n : Nat) : partN s p l n = partN u p l n := by unfold GA.partN; rw [e.lenK]; exact bsum_congr fun i _ => by rw [e.look]
theorem SnEq.parts {s u : Sn} (e : SnEq s u) (p l : Nat) : partsL s p l = partsL u p l := by
  unfold partsL
  have : ∀ k, partsK s p l k = partsK u p l k := fun k => by
    induction k with
    | zero => rfl
    | succ k ih => rw [partsK, partsK, ih, e.partN]
  exact this 4
theorem SnEq.safe {s u : Sn} (e : SnEq s u) (x : Sta) : safeB s x = safeB u x := by unfold safeB; rw [e.drN]
theorem SnEq.waysL {s u : Sn} (e : SnEq s u) (p : Nat) : waysL s p = waysL u p := by
  unfold GA.waysL
  rw [e.places]
  have : ∀ k, waysK s p k = waysK u p k := fun k => by
    induction k with
    | zero => rfl
    | succ k ih => rw [waysK, waysK, ih]; unfold waysQ; rw [e.ways]
  exact this _
theorem SnEq.out {s u : Sn} (e : SnEq s u) (x : Sta) (t : Int × Int) : outS s x t = outS u x t := by unfold outS; rw [e.parts]
theorem SnEq.after {s u : Sn} (e : SnEq s u) (x : Sta) (t : Int × Int) : afterS s x t = afterS u x t := by
  unfold afterS
  rw [e.out, e.waysL, e.last, e.safe, show safeB s = safeB u from funext fun y => e.safe y]
theorem all_map2 {α β : Type} {f : α → β} {p : β → Bool} (l : List α) : l.all (fun x => p (f x)) = (l.map f).all p := by rw [List.all_map]; rfl
theorem SnEq.err {s u : Sn} (e : SnEq s u) : snE s = snE u := by
  have h1 : cntB s = cntB u := by
    unfold cntB
    rw [e.places, e.ways, e.lenK, e.lenT]
    have a1 : (s.looks.all fun l => decide ((l.2.length : Int) = u.places)) = (u.looks.all fun l => decide ((l.2.length : Int) = u.places)) := by
      rw [all_map2 (f := fun r : Rw => r.2) (p := fun l => decide ((l.length : Int) = u.places)), e.looks, ← all_map2 (f := fun r : Rw => r.2) (p := fun l => decide ((l.length : Int) = u.places))]
    have a2 : (s.truths.all fun t => decide ((t.2.length : Int) = u.places)) = (u.truths.all fun t => decide ((t.2.length : Int) = u.places)) := by
      have k : ∀ v : Sn, (v.truths.all fun t => decide ((t.2.length : Int) = u.places)) = ((v.truths.map fun t => t.2.map (·.2)).all fun l => decide ((l.length : Int) = u.places)) := fun v => by
        rw [← all_map2 (f := fun t : Tru => t.2.map (·.2)) (p := fun l => decide ((l.length : Int) = u.places))]
        simp only [List.length_map]
      rw [k s, k u, e.truths]
    rw [a1, a2]
  have h2 : (s.looks.all fun l => l.2.all fun n => inZ n 0 3) = (u.looks.all fun l => l.2.all fun n => inZ n 0 3) := by
    rw [all_map2 (f := fun r : Rw => r.2) (p := fun l => l.all fun n => inZ n 0 3), e.looks, ← all_map2 (f := fun r : Rw => r.2) (p := fun l => l.all fun n => inZ n 0 3)]
  have h3 : plB s = plB u := funext fun p => by unfold plB; rw [e.places]
  have h4 : agnB s = agnB u := by
    unfold agnB
    rw [show agnI s = agnI u from funext fun i => by unfold agnI wyB; rw [e.ways], e.ways]
  have h5 : s.truths.map (trE s) = u.truths.map (trE u) := by
    have k : ∀ v : Sn, v.last = u.last → v.truths.map (trE v) = (v.truths.map fun t => t.2.map (·.2)).map fun l => firstE (l.map fun r => spE u.last none r) := fun v hv => by
      rw [List.map_map]
      refine List.map_congr_left fun t _ => ?_
      show firstE _ = firstE _
      rw [List.map_map, hv]; rfl
    rw [k s e.last, k u rfl, e.truths]
  unfold snE
  rw [h1, h2, h3, h4, h5, e.last, e.ways, e.home, e.bed]
def ownR (r : Rw) : Rw := (false, r.2)
def ownT (t : Tru) : Tru := (false, t.2.map fun r => (false, r.2))
def ownS (s : Sn) : Sn := { s with nw := false, nk := false, nt := false, looks := s.looks.map ownR, truths := s.truths.map ownT }
theorem own_eq (s : Sn) : SnEq s (ownS s) := by
  refine ⟨rfl, rfl, rfl, rfl, rfl, ?_, ?_⟩
  · show _ = (s.looks.map ownR).map _
    rw [List.map_map]; rfl
  · show _ = (s.truths.map ownT).map _
    rw [List.map_map]
    refine List.map_congr_left fun t _ => ?_
    show _ = (t.2.map _).map _
    rw [List.map_map]; rfl
end GA
end

section
namespace GA
open Go Go.RowKit Go.Proofs
set_option pp.deepTerms true
set_option maxRecDepth 8000
set_option linter.unusedVariables false
set_option linter.unusedSimpArgs false

theorem wideWy (xs : List Wy) : wide 3 (xs.map wyA) = true := wide_map (f := wyA) (n := 3) (fun _ => rfl) (fun _ => rfl) xs
theorem wideSg (xs : List (Int × Int)) : wide 2 (xs.map sgA) = true := wide_map (f := sgA) (n := 2) (fun _ => rfl) (fun _ => rfl) xs
theorem wideTr (xs : List Tru) : wide 1 (xs.map trA) = true := wide_map (f := trA) (n := 1) (fun _ => rfl) (fun _ => rfl) xs
theorem dup_wy (nl : Bool) (xs : List Wy) (hx : xs.length ≤ 100000) : Comp Try.prog 77 [.sl nl (xs.map wyA)] (.sl false (xs.map wyA)) := by
  refine Comp.body (T := tab) (res := [.tmp 2]) tab_ok [] Try.func77 rfl (by kernel_rfl) Try.ntmps77 rfl (by simp only [List.length_cons, List.length_nil]; decide) (by simp only [lowL, AV.low, lowWy]; rfl) ?_; conv => whnf
  refine XHold.mk ⟨by omega, by simp, by unfold Room; simp; omega⟩ ?_
  conv => whnf
  refine XHold.mk (wideWy xs) ?_
  conv => whnf
  refine XHold.mk ⟨rfl, rfl, by unfold Room; simp; omega⟩ ?_
  conv => whnf
  exact ⟨Froz.grow rfl (by simp) (lowWy xs)⟩
theorem dup_sg (nl : Bool) (xs : List (Int × Int)) (hx : xs.length ≤ 100000) : Comp Try.prog 50 [.sl nl (xs.map sgA)] (.sl false (xs.map sgA)) := by
  refine Comp.body (T := tab) (res := [.tmp 2]) tab_ok [] Try.func50 rfl (by kernel_rfl) Try.ntmps50 rfl (by simp only [List.length_cons, List.length_nil]; decide) (by simp only [lowL, AV.low, lowSg]; rfl) ?_; conv => whnf
  refine XHold.mk ⟨by omega, by simp, by unfold Room; simp; omega⟩ ?_
  conv => whnf
  refine XHold.mk (wideSg xs) ?_
  conv => whnf
  refine XHold.mk ⟨rfl, rfl, by unfold Room; simp; omega⟩ ?_
  conv => whnf
  exact ⟨Froz.grow rfl (by simp) (lowSg xs)⟩
theorem renTr (f : Nat → Nat) (nl : Bool) (xs : List Tru) : Blk.ren f (.grow 58 nl (xs.map trA)) = .grow 58 nl (xs.map trA) := Blk.ren_low (n := 0) (fun i hi => by omega) (lowTr xs)
theorem dup_tr_g (nl : Bool) (xs : List Tru) (hx : xs.length ≤ 100000) : Gives Try.prog 78 [.sl nl (xs.map trA)] (.gr 0 xs.length) [.grow 58 false (xs.map trA)] := by
  refine Gives.body (T := tab) (res := [.tmp 2]) tab_ok [] Try.func78 rfl (by kernel_rfl) Try.ntmps78 rfl (by simp only [List.length_cons, List.length_nil]; decide) (by simp only [lowL, AV.low, lowTr]; rfl) rfl (fun x hx => by simp only [List.mem_cons, List.not_mem_nil, or_false] at hx; subst hx; exact lowTr _) ?_; conv => whnf
  refine XHold.mk ⟨by omega, by simp, by unfold Room; simp; omega⟩ ?_
  conv => whnf
  refine XHold.mk (wideTr xs) ?_
  conv => whnf
  refine XHold.mk ⟨rfl, rfl, by unfold Room; simp; omega⟩ ?_
  conv => whnf
  exact XGive.mk' [0] rfl (by decide) ⟨congrArg some (renTr _ _ _).symm, trivial⟩ (by show AV.gr 0 _ = AV.gr 0 _; congr 1; show 0 + (xs.map trA).length = _; rw [List.length_map, Nat.zero_add])
theorem XCall.dupTr {nl : Bool} {xs : List Tru} {H : List Blk} {k : AV → List Blk → Prop} (hx : xs.length ≤ 100000) (hk : k (.gr H.length xs.length) (H ++ [.grow 58 false (xs.map trA)])) : XCall Try.prog 78 [.sl nl (xs.map trA)] H k := by
  refine XCall.give (dup_tr_g nl xs hx) ?_
  rw [List.map_cons, renTr, List.map_nil]; exact hk
def ownP (r : Sps) : Sps := (false, r.2)
theorem dupRows_rw (nl : Bool) (xs : List Rw) (hx : xs.length ≤ 1000) (hr : ∀ r ∈ xs, r.2.length ≤ 1000) : Comp Try.prog 45 [.sl nl (xs.map rwA)] (.sl false ((xs.map ownR).map rwA)) := by
  have e1 : ((xs.map rwA).length : Int) = xs.length := by rw [List.length_map]
  refine Comp.body (T := tab) (res := [.tmp 2]) tab_ok [] Try.func45 rfl (by kernel_rfl) Try.ntmps45 rfl (by simp only [List.length_cons, List.length_nil]; decide) (by simp only [lowL, AV.low, lowRk]; rfl) ?_; conv => whnf
  refine XHold.mk ⟨by omega, by omega, by unfold Room; simp; omega⟩ ?_
  conv => whnf
  skip
  refine Walk.loopGK tab_ok [] [(2, _), (9, _), (10, _)] ⟨rfl, rfl, rfl, trivial⟩ (fun k : Nat => k ≤ xs.length) (fun k => [(3, .gr 0 k), (11, natA k)]) (fun k => [.grow 32 false (((xs.take k).map ownR).map rwA)]) (fun k => xs.length - k) 0 (Nat.zero_le _) rfl ⟨rfl, rfl, trivial⟩ ?_ (fun _ _ => (show (1 : Nat) ≤ 1 from Nat.le_refl 1)) ?_
  · intro k _
    refine ⟨fun z hz => ?_, fun z hz => ?_⟩
    · rw [List.mem_singleton] at hz; subst hz; exact lowRk _
    · simp only [List.cons_append, List.nil_append, List.mem_cons, List.not_mem_nil, or_false] at hz
      rcases hz with rfl | rfl | rfl | rfl | rfl <;> first | rfl | exact lowRk _
  intro k hk
  have hnx := fun h => take_next (xs := xs) (i := k) h
  have hall : k = xs.length → xs.take k = xs := fun h => by rw [h, List.take_length]
  have hkl : (xs.take k).length = k := by rw [List.length_take]; omega
  generalize xs.take k = R at hnx hall hkl
  have hRl : ((R.map ownR).map rwA).length = k := by rw [List.length_map, List.length_map]; exact hkl
  conv => whnf
  by_cases hlt : k < xs.length
  · have hd := dup_int (xs.getD k default).1 (xs.getD k default).2 (by have := hr _ (getD_mem (d := default) hlt); omega)
    repeat' first | ((with_reducible apply XBr.dec) <;> (intro h; first | (exfalso; omega) | ((try simp only [List.length_map] at h); first | (exfalso; omega) | (conv => whnf)))) | ((with_reducible refine XInt.i64 (by omega) (by omega) ?_); conv => whnf) | ((with_reducible refine XHold.mk ?_ ?_); (first | omega | rfl | decide | exact ⟨rfl, by decide, rfl⟩ | exact wideI _ | exact widePr _ | exact wideSk _ | (unfold Room; constructor <;> ((try simp) <;> omega)) | exact ⟨rfl, by simp only [List.length_map], by unfold Room; constructor <;> ((try simp) <;> omega)⟩ | exact ⟨by omega, by omega, by unfold Room; constructor <;> ((try simp) <;> omega)⟩); conv => whnf) | ((first | ((with_reducible refine XIx.nat ?_ ?_ ?_); omega; (intro _; rfl)) | (refine XCall.ret hd ?_)); conv => whnf) | fail
    refine XAgainG.go (k + 1) [] (by omega) (by omega) ?_ ⟨rfl, rfl, rfl, rfl, rfl, trivial⟩
    show [Blk.grow _ false (((xs.take (k + 1)).map ownR).map rwA)] ++ [] = _
    rw [hnx hlt, List.map_append, List.map_append]; rfl
  obtain rfl : k = xs.length := by omega
  obtain rfl := hall rfl
  repeat' first | ((with_reducible apply XBr.dec) <;> (intro h; first | (exfalso; omega) | ((try simp only [List.length_map] at h); first | (exfalso; omega) | (conv => whnf)))) | fail
  exact ⟨Froz.grow rfl hRl (lowRk _)⟩
theorem dupRows_sps (nl : Bool) (xs : List Sps) (hx : xs.length ≤ 1000) (hr : ∀ r ∈ xs, r.2.length ≤ 1000) : Comp Try.prog 79 [.sl nl (xs.map spsA)] (.sl false ((xs.map ownP).map spsA)) := by
  have e1 : ((xs.map spsA).length : Int) = xs.length := by rw [List.length_map]
  refine Comp.body (T := tab) (res := [.tmp 2]) tab_ok [] Try.func79 rfl (by kernel_rfl) Try.ntmps79 rfl (by simp only [List.length_cons, List.length_nil]; decide) (by simp only [lowL, AV.low, lowSps]; rfl) ?_; conv => whnf
  refine XHold.mk ⟨by omega, by omega, by unfold Room; simp; omega⟩ ?_
  conv => whnf
  skip
  refine Walk.loopGK tab_ok [] [(2, _), (9, _), (10, _)] ⟨rfl, rfl, rfl, trivial⟩ (fun k : Nat => k ≤ xs.length) (fun k => [(3, .gr 0 k), (11, natA k)]) (fun k => [.grow 55 false (((xs.take k).map ownP).map spsA)]) (fun k => xs.length - k) 0 (Nat.zero_le _) rfl ⟨rfl, rfl, trivial⟩ ?_ (fun _ _ => (show (1 : Nat) ≤ 1 from Nat.le_refl 1)) ?_
  · intro k _
    refine ⟨fun z hz => ?_, fun z hz => ?_⟩
    · rw [List.mem_singleton] at hz; subst hz; exact lowSps _
    · simp only [List.cons_append, List.nil_append, List.mem_cons, List.not_mem_nil, or_false] at hz
      rcases hz with rfl | rfl | rfl | rfl | rfl <;> first | rfl | exact lowSps _
  intro k hk
  have hnx := fun h => take_next (xs := xs) (i := k) h
  have hall : k = xs.length → xs.take k = xs := fun h => by rw [h, List.take_length]
  have hkl : (xs.take k).length = k := by rw [List.length_take]; omega
  generalize xs.take k = R at hnx hall hkl
  have hRl : ((R.map ownP).map spsA).length = k := by rw [List.length_map, List.length_map]; exact hkl
  conv => whnf
  by_cases hlt : k < xs.length
  · have hd := dup_sg (xs.getD k default).1 (xs.getD k default).2 (by have := hr _ (getD_mem (d := default) hlt); omega)
    repeat' first | ((with_reducible apply XBr.dec) <;> (intro h; first | (exfalso; omega) | ((try simp only [List.length_map] at h); first | (exfalso; omega) | (conv => whnf)))) | ((with_reducible refine XInt.i64 (by omega) (by omega) ?_); conv => whnf) | ((with_reducible refine XHold.mk ?_ ?_); (first | omega | rfl | decide | exact ⟨rfl, by decide, rfl⟩ | exact wideI _ | exact widePr _ | exact wideSk _ | (unfold Room; constructor <;> ((try simp) <;> omega)) | exact ⟨rfl, by simp only [List.length_map], by unfold Room; constructor <;> ((try simp) <;> omega)⟩ | exact ⟨by omega, by omega, by unfold Room; constructor <;> ((try simp) <;> omega)⟩); conv => whnf) | ((first | ((with_reducible refine XIx.nat ?_ ?_ ?_); omega; (intro _; rfl)) | (refine XCall.ret hd ?_)); conv => whnf) | fail
    refine XAgainG.go (k + 1) [] (by omega) (by omega) ?_ ⟨rfl, rfl, rfl, rfl, rfl, trivial⟩
    show [Blk.grow _ false (((xs.take (k + 1)).map ownP).map spsA)] ++ [] = _
    rw [hnx hlt, List.map_append, List.map_append]; rfl
  obtain rfl : k = xs.length := by omega
  obtain rfl := hall rfl
  repeat' first | ((with_reducible apply XBr.dec) <;> (intro h; first | (exfalso; omega) | ((try simp only [List.length_map] at h); first | (exfalso; omega) | (conv => whnf)))) | fail
  exact ⟨Froz.grow rfl hRl (lowSps _)⟩
theorem equalR_rw (n1 n2 : Bool) (xs : List Rw) (hx : xs.length ≤ 1000) (hr : ∀ r ∈ xs, r.2.length ≤ 1000) : Comp Try.prog 160 [.sl n1 ((xs.map ownR).map rwA), .sl n2 (xs.map rwA), .fn 106 []] (.bool true) := by
  have e1 : (((xs.map ownR).map rwA).length : Int) = xs.length := by rw [List.length_map, List.length_map]
  have e2 : ((xs.map rwA).length : Int) = xs.length := by rw [List.length_map]
  have e3 : (xs.map ownR).length = xs.length := List.length_map _
  refine Comp.body (T := tab) (res := [.tmp 6]) tab_ok [] Try.func160 rfl (by kernel_rfl) Try.ntmps160 rfl (by simp only [List.length_cons, List.length_nil]; decide) (by simp only [lowL, AV.low, lowRk]; rfl) ?_; conv => whnf
  repeat' first | ((with_reducible apply XBr.bne) <;> (intro h; first | (exfalso; omega) | (conv => whnf))) | fail
  refine Walk.loopK tab_ok [] [(1, _), (2, _), (15, _), (16, _)] ⟨rfl, rfl, rfl, rfl, trivial⟩ (fun i : Nat => i ≤ xs.length) (fun i => [(17, natA i)]) (fun _ => []) (fun i => xs.length - i) 0 (Nat.zero_le _) rfl ⟨rfl, trivial⟩ ?_
  intro i hi
  conv => whnf
  by_cases hlt : i < xs.length
  · have hq := equalI false (xs.getD i default).1 (xs.getD i default).2 (by have := hr _ (getD_mem (d := default) hlt); omega)
    have hg : (xs.map ownR).getD i default = ownR (xs.getD i default) := by
      rw [List.getD_eq_getElem?_getD, List.getD_eq_getElem?_getD, List.getElem?_map, List.getElem?_eq_getElem hlt]; rfl
    repeat' first | ((with_reducible apply XBr.tt); conv => whnf) | (with_reducible apply XBr.not) | ((with_reducible apply XBr.dec) <;> (intro h; first | (exfalso; omega) | ((try simp only [List.length_map] at h); first | (exfalso; omega) | (conv => whnf)))) | ((first | (with_reducible refine XInt.i64 (by omega) (by omega) ?_) | ((with_reducible refine XIx.nat ?_ ?_ ?_); omega; (intro _; rfl))); conv => whnf) | (rw [hg]; (refine XCall.ret hq ?_); conv => whnf) | fail
    exact XAgain.go (i + 1) (by omega) (by omega) rfl ⟨rfl, rfl, rfl, rfl, rfl, trivial⟩
  obtain rfl : i = xs.length := by omega
  repeat' first | ((with_reducible apply XBr.dec) <;> (intro h; first | (exfalso; omega) | ((try simp only [List.length_map] at h); first | (exfalso; omega) | (conv => whnf)))) | fail
  exact XOut.bool rfl
theorem eqR_rw (n1 n2 : Bool) (xs : List Rw) (hx : xs.length ≤ 1000) (hr : ∀ r ∈ xs, r.2.length ≤ 1000) : Comp Try.prog 101 [.sl n1 ((xs.map ownR).map rwA), .sl n2 (xs.map rwA)] (.bool true) := by
  refine Comp.body (T := tab) (res := [.tmp 4]) tab_ok [] Try.func101 rfl (by kernel_rfl) Try.ntmps101 rfl (by simp only [List.length_cons, List.length_nil]; decide) (by simp only [lowL, AV.low, lowRk]; rfl) ?_; conv => whnf
  repeat' first | ((refine XCall.ret (equalR_rw n1 n2 xs hx hr) ?_); conv => whnf) | fail
  exact XOut.bool rfl
theorem equal_sp (n1 n2 : Bool) (xs : List (Int × Int)) (hx : xs.length ≤ 100000) : Comp Try.prog 162 [.sl n1 (xs.map sgA), .sl n2 (xs.map sgA)] (.bool true) := by
  refine Comp.body (T := tab) (res := [.tmp 4]) tab_ok [] Try.func162 rfl (by kernel_rfl) Try.ntmps162 rfl (by simp only [List.length_cons, List.length_nil]; decide) (by simp only [lowL, AV.low, lowSg]; rfl) ?_; conv => whnf
  repeat' first | ((with_reducible apply XBr.bne) <;> (intro h; first | (exfalso; omega) | (conv => whnf))) | fail
  refine Walk.loopK tab_ok [] [(0, _), (1, _), (12, _)] ⟨rfl, rfl, rfl, trivial⟩ (fun i : Nat => i ≤ xs.length) (fun i => [(13, natA i)]) (fun _ => []) (fun i => xs.length - i) 0 (Nat.zero_le _) rfl ⟨rfl, trivial⟩ ?_
  intro i hi
  conv => whnf
  have e1 : ((xs.map sgA).length : Int) = xs.length := by rw [List.length_map]
  by_cases hlt : i < xs.length
  · skip
    repeat' first | ((with_reducible apply XBr.ff); conv => whnf) | ((with_reducible apply XBr.dec) <;> (intro h; first | (exfalso; omega) | ((try simp only [List.length_map] at h); first | (exfalso; omega) | (conv => whnf)))) | ((first | (with_reducible refine XInt.i64 (by omega) (by omega) ?_) | ((with_reducible refine XIx.nat ?_ ?_ ?_); omega; (intro _; rfl))); conv => whnf) | (with_reducible apply XAnd.mk) | ((first | (with_reducible apply Chk.go) | (with_reducible apply ChkA.go) | (with_reducible apply ChkF.go) | (with_reducible apply ChkB.go)); conv => whnf) | (exact XSame.mk rfl rfl) | (with_reducible exact trivial) | (apply Walk.drawN (id := 6) tab_ok mixed_ok [] [] (hsU _) [_, _, _, _, _, _, _, _, _] (by kernel_rfl) rfl) | ((with_reducible apply XNext.mk); conv => whnf) | ((refine XEqA.mk ⟨[(xs.getD i default).1, (xs.getD i default).2], [(xs.getD i default).1, (xs.getD i default).2], rfl, rfl, rfl, rfl, ?_⟩); exact XSame.mk (show AV.bool (!(_ == _)) = AV.bool false by simp) rfl) | fail
    exact XAgain.go (i + 1) (by omega) (by omega) rfl ⟨rfl, rfl, rfl, rfl, trivial⟩
  obtain rfl : i = xs.length := by omega
  repeat' first | ((with_reducible apply XBr.dec) <;> (intro h; first | (exfalso; omega) | ((try simp only [List.length_map] at h); first | (exfalso; omega) | (conv => whnf)))) | fail
  exact XOut.bool rfl
theorem equalR_sps (n1 n2 : Bool) (xs : List Sps) (hx : xs.length ≤ 1000) (hr : ∀ r ∈ xs, r.2.length ≤ 1000) : Comp Try.prog 161 [.sl n1 ((xs.map ownP).map spsA), .sl n2 (xs.map spsA), .fn 162 []] (.bool true) := by
  have e1 : (((xs.map ownP).map spsA).length : Int) = xs.length := by rw [List.length_map, List.length_map]
  have e2 : ((xs.map spsA).length : Int) = xs.length := by rw [List.length_map]
  have e3 : (xs.map ownP).length = xs.length := List.length_map _
  refine Comp.body (T := tab) (res := [.tmp 6]) tab_ok [] Try.func161 rfl (by kernel_rfl) Try.ntmps161 rfl (by simp only [List.length_cons, List.length_nil]; decide) (by simp only [lowL, AV.low, lowSps]; rfl) ?_; conv => whnf
  repeat' first | ((with_reducible apply XBr.bne) <;> (intro h; first | (exfalso; omega) | (conv => whnf))) | fail
  refine Walk.loopK tab_ok [] [(1, _), (2, _), (15, _), (16, _)] ⟨rfl, rfl, rfl, rfl, trivial⟩ (fun i : Nat => i ≤ xs.length) (fun i => [(17, natA i)]) (fun _ => []) (fun i => xs.length - i) 0 (Nat.zero_le _) rfl ⟨rfl, trivial⟩ ?_
  intro i hi
  conv => whnf
  by_cases hlt : i < xs.length
  · have hq := equal_sp false (xs.getD i default).1 (xs.getD i default).2 (by have := hr _ (getD_mem (d := default) hlt); omega)
    have hg : (xs.map ownP).getD i default = ownP (xs.getD i default) := by
      rw [List.getD_eq_getElem?_getD, List.getD_eq_getElem?_getD, List.getElem?_map, List.getElem?_eq_getElem hlt]; rfl
    repeat' first | ((with_reducible apply XBr.tt); conv => whnf) | (with_reducible apply XBr.not) | ((with_reducible apply XBr.dec) <;> (intro h; first | (exfalso; omega) | ((try simp only [List.length_map] at h); first | (exfalso; omega) | (conv => whnf)))) | ((first | (with_reducible refine XInt.i64 (by omega) (by omega) ?_) | ((with_reducible refine XIx.nat ?_ ?_ ?_); omega; (intro _; rfl))); conv => whnf) | (rw [hg]; (refine XCall.ret hq ?_); conv => whnf) | fail
    exact XAgain.go (i + 1) (by omega) (by omega) rfl ⟨rfl, rfl, rfl, rfl, rfl, trivial⟩
  obtain rfl : i = xs.length := by omega
  repeat' first | ((with_reducible apply XBr.dec) <;> (intro h; first | (exfalso; omega) | ((try simp only [List.length_map] at h); first | (exfalso; omega) | (conv => whnf)))) | fail
  exact XOut.bool rfl
theorem eqR_sps (n1 n2 : Bool) (xs : List Sps) (hx : xs.length ≤ 1000) (hr : ∀ r ∈ xs, r.2.length ≤ 1000) : Comp Try.prog 102 [.sl n1 ((xs.map ownP).map spsA), .sl n2 (xs.map spsA)] (.bool true) := by
  refine Comp.body (T := tab) (res := [.tmp 4]) tab_ok [] Try.func102 rfl (by kernel_rfl) Try.ntmps102 rfl (by simp only [List.length_cons, List.length_nil]; decide) (by simp only [lowL, AV.low, lowSps]; rfl) ?_; conv => whnf
  repeat' first | ((refine XCall.ret (equalR_sps n1 n2 xs hx hr) ?_); conv => whnf) | fail
  exact XOut.bool rfl
end GA
end

section
namespace GA
open Go Go.RowKit Go.Proofs
set_option pp.deepTerms true
set_option maxRecDepth 8000
set_option linter.unusedVariables false
set_option linter.unusedSimpArgs false

def grtT (t : Tru) : Bool := decide (8 < t.2.length) || t.2.any fun r => decide (10 < r.2.length)
def grtS (s : Sn) : Bool := decide (6 < s.truths.length) || decide (14 < s.ways.length) || decide (6 < s.looks.length) || s.looks.any (fun r => decide (8 < r.2.length)) || s.truths.any grtT
theorem grt_B {s : Sn} (h : grtS s = false) : SnB s ∧ s.truths.length ≤ 6 ∧ s.ways.length ≤ 14 ∧ s.looks.length ≤ 6 ∧ (∀ r ∈ s.looks, r.2.length ≤ 8) ∧ (∀ t ∈ s.truths, t.2.length ≤ 8 ∧ ∀ r ∈ t.2, r.2.length ≤ 10) := by
  unfold grtS at h
  simp only [Bool.or_eq_false_iff, decide_eq_false_iff_not, List.any_eq_false, decide_eq_true_eq, grtT] at h
  obtain ⟨⟨⟨⟨h1, h2⟩, h3⟩, h4⟩, h5⟩ := h
  have h4' : ∀ r ∈ s.looks, r.2.length ≤ 8 := fun r hr => by have := h4 r hr; omega
  have h5' : ∀ t ∈ s.truths, t.2.length ≤ 8 ∧ ∀ r ∈ t.2, r.2.length ≤ 10 := fun t ht => by
    have h6 := h5 t ht
    rw [Bool.or_eq_true, not_or, List.any_eq_true] at h6
    refine ⟨by have := h6.1; rw [decide_eq_true_eq] at this; omega, fun r hr => ?_⟩
    refine Classical.byContradiction fun e => h6.2 ⟨r, hr, by rw [decide_eq_true_eq]; omega⟩
  refine ⟨⟨by omega, by omega, by omega, fun r hr => ?_, fun t ht => ?_, fun t ht r hr => ?_⟩, by omega, by omega, by omega, h4', h5'⟩
  · have := h4' r hr; omega
  · have := (h5' t ht).1; omega
  · have := (h5' t ht).2 r hr; omega
theorem great02_c (s : Sn) : Comp Try.prog 26 [snA s] (.bool (grtS s)) := by
  have e1 : ((s.ways.map wyA).length : Int) = s.ways.length := by rw [List.length_map]
  have e2 : ((s.looks.map rwA).length : Int) = s.looks.length := by rw [List.length_map]
  have e3 : ((s.truths.map trA).length : Int) = s.truths.length := by rw [List.length_map]
  have hdef : grtS s = (decide (6 < s.truths.length) || decide (14 < s.ways.length) || decide (6 < s.looks.length) || s.looks.any (fun r => decide (8 < r.2.length)) || s.truths.any grtT) := rfl
  by_cases h1 : 6 < s.truths.length ∨ 14 < s.ways.length ∨ 6 < s.looks.length
  · have hg : grtS s = true := by
      rw [hdef]
      rcases h1 with h | h | h <;> rw [decide_eq_true h] <;> simp
    rw [hg]
    refine Comp.body (T := tab) (res := [.tmp 2]) tab_ok [] Try.func26 rfl (by kernel_rfl) Try.ntmps26 rfl (by simp only [List.length_cons, List.length_nil]; decide) (by simp only [lowL, snL]; rfl) ?_; conv => whnf
    repeat' first | ((first | (with_reducible apply XBr.tt) | (with_reducible apply XBr.ff)); conv => whnf) | ((with_reducible apply XBr.dec) <;> (intro h; first | (exfalso; omega) | ((try simp only [List.length_map] at h); first | (exfalso; omega) | (conv => whnf)))) | fail
    all_goals exact XOut.bool rfl
  have h1' := not_or.1 h1
  have h1'' := not_or.1 h1'.2
  rw [hdef, decide_eq_false h1'.1, decide_eq_false h1''.1, decide_eq_false h1''.2]
  simp only [Bool.false_or]
  refine Comp.body (T := tab) (res := [.tmp 2]) tab_ok [] Try.func26 rfl (by kernel_rfl) Try.ntmps26 rfl (by simp only [List.length_cons, List.length_nil]; decide) (by simp only [lowL, snL]; rfl) ?_; conv => whnf
  repeat' first | ((with_reducible apply XBr.ff); conv => whnf) | ((with_reducible apply XBr.dec) <;> (intro h; first | (exfalso; omega) | ((try simp only [List.length_map] at h); first | (exfalso; omega) | (conv => whnf)))) | fail
  refine Walk.loopK tab_ok [] [(1, _), (26, _), (27, _)] ⟨rfl, rfl, rfl, trivial⟩ (fun k : Nat => k ≤ s.looks.length ∧ (∀ j, j < k → decide (8 < (s.looks.getD j default).2.length) = false)) (fun k => [(28, natA k)]) (fun _ => []) (fun k => s.looks.length - k) 0 ⟨Nat.zero_le _, fun j hj => by omega⟩ rfl ⟨rfl, trivial⟩ ?_
  rintro k ⟨hk, hs⟩
  conv => whnf
  by_cases hlt : k < s.looks.length
  · have e4 : ((ints (s.looks.getD k default).2).length : Int) = (s.looks.getD k default).2.length := by rw [ints_len]
    repeat' first | ((with_reducible apply XBr.dec) <;> (intro h; first | (exfalso; omega) | ((try simp only [List.length_map] at h); first | (exfalso; omega) | (conv => whnf)))) | ((first | (with_reducible refine XInt.i64 (by omega) (by omega) ?_) | ((with_reducible refine XIx.nat ?_ ?_ ?_); omega; (intro _; rfl))); conv => whnf) | fail
    · rw [List.any_eq_true.2 ⟨_, getD_mem (d := default) hlt, decide_eq_true (by omega)⟩]
      exact XOut.bool rfl
    · refine XAgain.go (k + 1) ⟨by omega, fun j hj => ?_⟩ (by omega) rfl ⟨rfl, rfl, rfl, rfl, trivial⟩
      by_cases e : j = k
      · subst e; exact decide_eq_false (by omega)
      · exact hs j (by omega)
  obtain rfl : k = s.looks.length := by omega
  have q1 : s.looks.any (fun r => decide (8 < r.2.length)) = false := by
    rw [List.any_eq_false]
    intro r hr
    obtain ⟨j, hj, rfl⟩ := List.mem_iff_getElem.1 hr
    have := hs j hj
    rw [List.getD_eq_getElem?_getD, List.getElem?_eq_getElem hj] at this
    simpa using this
  rw [q1, Bool.false_or]
  clear hs
  repeat' first | ((with_reducible apply XBr.dec) <;> (intro h; first | (exfalso; omega) | ((try simp only [List.length_map] at h); first | (exfalso; omega) | (conv => whnf)))) | fail
  refine Walk.loopGK tab_ok [] [(37, _), (38, _)] ⟨rfl, rfl, trivial⟩ (fun k : Nat => k ≤ s.truths.length ∧ (∀ j, j < k → grtT (s.truths.getD j default) = false)) (fun k => [(39, natA k)]) (fun _ => []) (fun k => s.truths.length - k) 0 ⟨Nat.zero_le _, fun j hj => by omega⟩ rfl ⟨rfl, trivial⟩ ?_ (fun _ _ => Nat.le_refl _) ?_
  · intro k _
    refine ⟨by simp, fun z hz => ?_⟩
    simp only [List.cons_append, List.nil_append, List.mem_cons, List.not_mem_nil, or_false] at hz
    rcases hz with rfl | rfl | rfl <;> first | rfl | exact lowTr _
  rintro k ⟨hk, hs⟩
  conv => whnf
  by_cases hlt : k < s.truths.length
  · have e4 : (((s.truths.getD k default).2.map spsA).length : Int) = (s.truths.getD k default).2.length := by rw [List.length_map]
    have hgt : grtT (s.truths.getD k default) = (decide (8 < (s.truths.getD k default).2.length) || (s.truths.getD k default).2.any fun r => decide (10 < r.2.length)) := rfl
    have htr : grtT (s.truths.getD k default) = true → s.truths.any grtT = true := fun h => List.any_eq_true.2 ⟨_, getD_mem (d := default) hlt, h⟩
    by_cases h8 : 8 < (s.truths.getD k default).2.length
    · rw [htr (by rw [hgt, decide_eq_true h8]; rfl)]
      repeat' first | ((with_reducible apply XBr.dec) <;> (intro h; first | (exfalso; omega) | ((try simp only [List.length_map] at h); first | (exfalso; omega) | (conv => whnf)))) | (((with_reducible refine XIx.nat ?_ ?_ ?_); omega; (intro _; rfl)); conv => whnf) | fail
      exact XOut.bool rfl
    rw [decide_eq_false h8, Bool.false_or] at hgt
    repeat' first | ((with_reducible apply XBr.dec) <;> (intro h; first | (exfalso; omega) | ((try simp only [List.length_map] at h); first | (exfalso; omega) | (conv => whnf)))) | (((with_reducible refine XIx.nat ?_ ?_ ?_); omega; (intro _; rfl)); conv => whnf) | fail
    refine Walk.loopK tab_ok [] [(37, _), (38, _), (39, _), (48, _), (49, _)] ⟨rfl, rfl, rfl, rfl, rfl, trivial⟩ (fun i : Nat => i ≤ (s.truths.getD k default).2.length ∧ (∀ j, j < i → decide (10 < ((s.truths.getD k default).2.getD j default).2.length) = false)) (fun i => [(50, natA i)]) (fun _ => [.cells (trA (s.truths.getD k default)).cells]) (fun i => (s.truths.getD k default).2.length - i) 0 ⟨Nat.zero_le _, fun j hj => by omega⟩ rfl ⟨rfl, trivial⟩ ?_
    rintro i ⟨hi, his⟩
    conv => whnf
    by_cases hlt2 : i < (s.truths.getD k default).2.length
    · have e5 : ((((s.truths.getD k default).2.getD i default).2.map sgA).length : Int) = ((s.truths.getD k default).2.getD i default).2.length := by rw [List.length_map]
      repeat' first | ((with_reducible apply XBr.dec) <;> (intro h; first | (exfalso; omega) | ((try simp only [List.length_map] at h); first | (exfalso; omega) | (conv => whnf)))) | ((first | (with_reducible refine XInt.i64 (by omega) (by omega) ?_) | ((with_reducible refine XIx.nat ?_ ?_ ?_); omega; (intro _; rfl))); conv => whnf) | fail
      · rw [htr (by rw [hgt]; exact List.any_eq_true.2 ⟨_, getD_mem (d := default) hlt2, decide_eq_true (by omega)⟩)]
        exact XOut.bool rfl
      · refine XAgain.go (i + 1) ⟨by omega, fun j hj => ?_⟩ (by omega) rfl ⟨rfl, rfl, rfl, rfl, rfl, rfl, trivial⟩
        by_cases e : j = i
        · subst e; exact decide_eq_false (by omega)
        · exact his j (by omega)
    obtain rfl : i = (s.truths.getD k default).2.length := by omega
    have q2 : grtT (s.truths.getD k default) = false := by
      rw [hgt, List.any_eq_false]
      intro r hr
      obtain ⟨j, hj, rfl⟩ := List.mem_iff_getElem.1 hr
      have := his j hj
      rw [List.getD_eq_getElem?_getD, List.getElem?_eq_getElem hj] at this
      simpa using this
    clear his
    repeat' first | ((with_reducible apply XBr.dec) <;> (intro h; first | (exfalso; omega) | ((try simp only [List.length_map] at h); first | (exfalso; omega) | (conv => whnf)))) | ((with_reducible refine XInt.i64 (by omega) (by omega) ?_); conv => whnf) | fail
    refine XAgainG.go (k + 1) [.cells (trA (s.truths.getD k default)).cells] ⟨by omega, fun j hj => ?_⟩ (by omega) rfl ⟨rfl, rfl, rfl, trivial⟩
    by_cases e : j = k
    · subst e; exact q2
    · exact hs j (by omega)
  obtain rfl : k = s.truths.length := by omega
  have q3 : s.truths.any grtT = false := by
    rw [List.any_eq_false]
    intro r hr
    obtain ⟨j, hj, rfl⟩ := List.mem_iff_getElem.1 hr
    have := hs j hj
    rw [List.getD_eq_getElem?_getD, List.getElem?_eq_getElem hj] at this
    simpa using this
  rw [q3]
  clear hs
  repeat' first | ((with_reducible apply XBr.dec) <;> (intro h; first | (exfalso; omega) | ((try simp only [List.length_map] at h); first | (exfalso; omega) | (conv => whnf)))) | fail
  exact XOut.bool rfl
theorem same02_c (s : Sn) (hb : SnB s) : Comp Try.prog 33 [snA (ownS s), snA s] (.bool true) := by
  have b1 := hb.w; have b2 := hb.k; have b3 := hb.t
  have q1 := eq_wy false s.nw s.ways (by omega)
  have q2 := eqR_rw false s.nk s.looks b2 hb.kl
  have e1 : (((s.truths.map ownT).map trA).length : Int) = s.truths.length := by rw [List.length_map, List.length_map]
  have e3 : ((s.truths.map trA).length : Int) = s.truths.length := by rw [List.length_map]
  have e4 : (s.truths.map ownT).length = s.truths.length := List.length_map _
  have d1 : (ownS s).places = s.places := rfl
  have d2 : (ownS s).home = s.home := rfl
  have d3 : (ownS s).bed = s.bed := rfl
  have d4 : (ownS s).last = s.last := rfl
  have d5 : (ownS s).truths = s.truths.map ownT := rfl
  have d6 : ((((ownS s).truths).map trA).length : Int) = s.truths.length := e1
  refine Comp.body (T := tab) (res := [.tmp 4]) tab_ok [] Try.func33 rfl (by kernel_rfl) Try.ntmps33 rfl (by simp only [List.length_cons, List.length_nil]; decide) (by simp only [lowL, snL]; rfl) ?_; conv => whnf
  refine Walk.norm tab_ok [] [(2, _), (3, _)] ⟨rfl, rfl, trivial⟩ ?_
  conv => whnf
  repeat' first | ((first | (with_reducible apply XBr.tt) | (with_reducible apply XBr.ff)); conv => whnf) | (with_reducible apply XBr.not) | ((with_reducible apply XBr.bne) <;> (intro h; first | (exfalso; omega) | (conv => whnf))) | ((first | (refine XCall.ret q1 ?_) | (refine XCall.ret q2 ?_)); conv => whnf) | fail
  refine Walk.loopGK tab_ok [] [(3, _), (59, _), (60, _)] ⟨rfl, rfl, rfl, trivial⟩ (fun k : Nat => k ≤ s.truths.length) (fun k => [(61, natA k)]) (fun _ => []) (fun k => s.truths.length - k) 0 (Nat.zero_le _) rfl ⟨rfl, trivial⟩ ?_ (fun _ _ => Nat.le_refl _) ?_
  · intro k _
    refine ⟨by simp, fun z hz => ?_⟩
    simp only [List.cons_append, List.nil_append, List.mem_cons, List.not_mem_nil, or_false] at hz
    rcases hz with rfl | rfl | rfl | rfl <;> first | rfl | exact lowTr _ | exact snCL s
  intro k hk
  conv => whnf
  by_cases hlt : k < s.truths.length
  · have hg : (s.truths.map ownT).getD k default = ownT (s.truths.getD k default) := by
      rw [List.getD_eq_getElem?_getD, List.getD_eq_getElem?_getD, List.getElem?_map, List.getElem?_eq_getElem hlt]; rfl
    have hq := eqR_sps false (s.truths.getD k default).1 (s.truths.getD k default).2 (hb.tl _ (getD_mem (d := default) hlt)) (hb.sl _ (getD_mem (d := default) hlt))
    repeat' first | ((with_reducible apply XBr.tt); conv => whnf) | (with_reducible apply XBr.not) | ((with_reducible apply XBr.dec) <;> (intro h; first | (exfalso; omega) | ((try simp only [List.length_map] at h); first | (exfalso; omega) | (conv => whnf)))) | ((first | (with_reducible refine XInt.i64 (by omega) (by omega) ?_) | ((with_reducible refine XIx.nat ?_ ?_ ?_); omega; (intro _; rfl))); conv => whnf) | (with_reducible apply XAnd.mk) | ((first | (with_reducible apply Chk.go) | (with_reducible apply ChkA.go) | (with_reducible apply ChkF.go) | (with_reducible apply ChkB.go)); conv => whnf) | (exact XSame.mk rfl rfl) | (with_reducible exact trivial) | (apply Walk.drawN (id := 6) tab_ok mixed_ok [] [] (hsU _) [_, _, _, _, _, _, _, _, _, _] (by kernel_rfl) rfl) | ((with_reducible apply XNext.mk); conv => whnf) | (rw [d5, hg]; (refine XCall.ret hq ?_); conv => whnf) | fail
    exact XAgainG.go (k + 1) [_] (by omega) (by omega) rfl ⟨rfl, rfl, rfl, rfl, trivial⟩
  obtain rfl : k = s.truths.length := by omega
  repeat' first | ((with_reducible apply XBr.dec) <;> (intro h; first | (exfalso; omega) | ((try simp only [List.length_map] at h); first | (exfalso; omega) | (conv => whnf)))) | fail
  exact XOut.bool rfl
def tdA (t : Tru) : AV := .sl t.1 (t.2.map spsA)
def rsC (s : Sn) : List AV := [.int .i64 s.places, .int .i64 s.home, .int .i64 s.bed, .int .i64 s.last, .sl s.nw (s.ways.map wyA), .sl s.nk (s.looks.map rwA), .sl s.truths.isEmpty (s.truths.map tdA)]
def rsA (s : Sn) : AV := .agg (rsC s)
theorem tdL {n : Nat} (t : Tru) : (tdA t).low n = true := lowSps _
theorem lowTd {n : Nat} (xs : List Tru) : lowL n (xs.map tdA) = true := lowL_map (fun _ => tdL _) xs
theorem rsCL {n : Nat} (s : Sn) : lowL n (rsC s) = true := by
  show (true && (true && (true && (true && (lowL n (s.ways.map wyA) && (lowL n (s.looks.map rwA) && (lowL n (s.truths.map tdA) && true))))))) = true
  rw [lowWy, lowRk, lowTd]; rfl
theorem rsL {n : Nat} (s : Sn) : (rsA s).low n = true := rsCL s
theorem rsOne (s : Sn) : ∀ x ∈ rsC s, x.one = true := by simp [rsC, AV.one]
theorem theirs02_c (s : Sn) (hb : SnB s) : Comp Try.prog 27 [snA s] (rsA s) := by
  have b3 := hb.t
  have e3 : ((s.truths.map trA).length : Int) = s.truths.length := by rw [List.length_map]
  refine Comp.body (T := tab) (res := [.cell 2 68]) tab_ok [] Try.func27 rfl (by kernel_rfl) Try.ntmps27 rfl (by simp only [List.length_cons, List.length_nil]; decide) (by simp only [lowL, snL]; rfl) ?_; conv => whnf
  skip
  refine Walk.nilcell 1 6 56 rfl rfl ?_
  refine Walk.loopGK tab_ok [] [(2, _), (3, _), (20, _), (21, _)] ⟨rfl, rfl, rfl, rfl, trivial⟩ (fun k : Nat => k ≤ s.truths.length) (fun k => [(22, natA k)]) (fun k => [.cells [.int .i64 0, .int .i64 0, .int .i64 0, .int .i64 0, .sl true [], .sl true [], .sl true []], .cells [.int .i64 s.places, .int .i64 s.home, .int .i64 s.bed, .int .i64 s.last, .sl s.nw (s.ways.map wyA), .sl s.nk (s.looks.map rwA), .gr 2 k], .grow 56 (s.truths.take k).isEmpty ((s.truths.take k).map tdA)]) (fun k => s.truths.length - k) 0 (Nat.zero_le _) rfl ⟨rfl, trivial⟩ ?_ (fun _ _ => (show (3 : Nat) ≤ 3 from Nat.le_refl 3)) ?_
  · intro k _
    refine ⟨fun z hz => ?_, fun z hz => ?_⟩
    · simp only [List.mem_cons, List.not_mem_nil, or_false] at hz
      rcases hz with rfl | rfl | rfl
      · rfl
      · show (true && (true && (true && (true && (lowL 3 (s.ways.map wyA) && (lowL 3 (s.looks.map rwA) && (true && true))))))) = true
        rw [lowWy, lowRk]; rfl
      · exact lowTd _
    · simp only [List.cons_append, List.nil_append, List.mem_cons, List.not_mem_nil, or_false] at hz
      rcases hz with rfl | rfl | rfl | rfl | rfl <;> first | rfl | exact lowTr _
  intro k hk
  have hnx := fun h => take_next (xs := s.truths) (i := k) h
  have hall : k = s.truths.length → s.truths.take k = s.truths := fun h => by rw [h, List.take_length]
  have hkl : (s.truths.take k).length = k := by rw [List.length_take]; omega
  generalize s.truths.take k = R at hnx hall hkl
  have hRl : (R.map tdA).length = k := by rw [List.length_map]; exact hkl
  conv => whnf
  by_cases hlt : k < s.truths.length
  · skip
    repeat' first | ((with_reducible apply XBr.dec) <;> (intro h; first | (exfalso; omega) | ((try simp only [List.length_map] at h); first | (exfalso; omega) | (conv => whnf)))) | ((with_reducible refine XInt.i64 (by omega) (by omega) ?_); conv => whnf) | ((with_reducible refine XHold.mk ?_ ?_); (first | omega | rfl | decide | exact ⟨rfl, by decide, rfl⟩ | exact wideI _ | exact widePr _ | exact wideSk _ | (unfold Room; constructor <;> ((try simp) <;> omega)) | exact ⟨rfl, by simp only [List.length_map], by unfold Room; constructor <;> ((try simp) <;> omega)⟩ | exact ⟨by omega, by omega, by unfold Room; constructor <;> ((try simp) <;> omega)⟩); conv => whnf) | (((with_reducible refine XIx.nat ?_ ?_ ?_); omega; (intro _; rfl)); conv => whnf) | fail
    refine XAgainG.go (k + 1) [.cells (trA (s.truths.getD k default)).cells] (by omega) (by omega) ?_ ⟨rfl, rfl, rfl, rfl, rfl, trivial⟩
    show [Blk.cells _, Blk.cells _, Blk.grow _ (s.truths.take (k + 1)).isEmpty ((s.truths.take (k + 1)).map tdA)] ++ _ = _
    rw [hnx hlt, isEmpty_app, List.map_append]; rfl
  obtain rfl : k = s.truths.length := by omega
  have hR := hall rfl
  repeat' first | ((with_reducible apply XBr.dec) <;> (intro h; first | (exfalso; omega) | ((try simp only [List.length_map] at h); first | (exfalso; omega) | (conv => whnf)))) | fail
  rw [hR] at hRl ⊢
  exact ⟨Froz.agg (rs' := rsC s) (rsOne s) (.cons (.low rfl) (.cons (.low rfl) (.cons (.low rfl) (.cons (.low rfl) (.cons (.low (lowWy _)) (.cons (.low (lowRk _)) (.cons (Froz.grow rfl hRl (lowTd _)) .nil)))))))⟩
def owT (t : Tru) : AV := .sl false ((t.2.map ownP).map spsA)
theorem owTL {n : Nat} (t : Tru) : (owT t).low n = true := lowSps _
def owE (s : Sn) (k : Nat) : List AV := (s.truths.take k).map owT ++ (s.truths.drop k).map trA
theorem owE_len (s : Sn) {k : Nat} (hk : k ≤ s.truths.length) : (owE s k).length = s.truths.length := by unfold owE; rw [List.length_append, List.length_map, List.length_map, List.length_take, List.length_drop]; omega
theorem owE_low {n : Nat} (s : Sn) (k : Nat) : lowL n (owE s k) = true := lowL_app (lowL_map (fun _ => owTL _) _) (lowTr _)
theorem owE_set (s : Sn) {k : Nat} (hk : k < s.truths.length) : (owE s k).set k (owT (s.truths.getD k default)) = owE s (k + 1) := by
  unfold owE
  have hl : ((s.truths.take k).map owT).length = k := by rw [List.length_map, List.length_take]; omega
  rw [List.set_append_right _ _ (by omega), hl, Nat.sub_self, drop_next hk, List.map_cons, List.set_cons_zero, take_next hk, List.map_append, List.append_assoc]; rfl
def ow (s : Sn) (els : List AV) : List Blk := [.cells [.int .i64 s.places, .int .i64 s.home, .int .i64 s.bed, .int .i64 s.last, .sl false (s.ways.map wyA), .sl false ((s.looks.map ownR).map rwA), .gr 2 s.truths.length], .cells [.int .i64 0, .int .i64 0, .int .i64 0, .int .i64 0, .sl true [], .sl true [], .sl true []], .grow 58 false els]
theorem own02_c (s : Sn) (hb : SnB s) : Comp Try.prog 23 [snA s] (snA (ownS s)) := by
  have b1 := hb.w; have b2 := hb.k; have b3 := hb.t
  have q1 := dup_wy s.nw s.ways (by omega)
  have q2 := dupRows_rw s.nk s.looks b2 hb.kl
  have e3 : ((s.truths.map trA).length : Int) = s.truths.length := by rw [List.length_map]
  refine Comp.body (T := tab) (res := [.cell 2 27]) tab_ok [1] Try.func23 rfl (by kernel_rfl) Try.ntmps23 rfl (by simp only [List.length_cons, List.length_nil]; decide) (by simp only [lowL, snL]; rfl) ?_; conv => whnf
  skip
  apply Walk.drawX tab_ok mixed_ok [1] [8, 10, 12, 14] (hsC [_, _, _, _, ow s (s.truths.map trA)]) [_, _, _, _, _, _, _, _, .gr 2 s.truths.length, _, _, _, _, _, _] (by kernel_rfl) rfl
  · skip
    repeat' first | (with_reducible apply XAnd.mk) | ((first | (with_reducible apply Chk.go) | (with_reducible apply ChkA.go)); conv => whnf) | (exact XSame.mk rfl rfl) | (with_reducible exact trivial) | ((first | (refine XCall.ret q1 ?_) | (refine XCall.ret q2 ?_) | (refine XCall.dupTr (by omega) ?_)); conv => whnf) | fail
  · skip
    repeat' first | (with_reducible apply XAnd.mk) | ((first | (with_reducible apply Chk.go) | (with_reducible apply ChkF.go) | (with_reducible apply ChkB.go)); conv => whnf) | (exact XSame.mk rfl rfl) | (with_reducible exact trivial) | ((refine XCall.ret q1 ?_); conv => whnf) | fail
  conv => whnf
  repeat' first | ((with_reducible refine XHold.mk ?_ ?_); (first | omega | rfl | decide | exact ⟨rfl, by decide, rfl⟩ | exact wideI _ | exact widePr _ | exact wideSk _ | (unfold Room; constructor <;> ((try simp) <;> omega)) | exact ⟨rfl, by simp only [List.length_map], by unfold Room; constructor <;> ((try simp) <;> omega)⟩ | exact ⟨by omega, by omega, by unfold Room; constructor <;> ((try simp) <;> omega)⟩); conv => whnf) | fail
  refine Walk.loopGK tab_ok [] [(1, _), (2, _), (18, _), (19, _)] ⟨rfl, rfl, rfl, rfl, trivial⟩ (fun k : Nat => k ≤ s.truths.length) (fun k => [(20, natA k)]) (fun k => ow s (owE s k)) (fun k => s.truths.length - k) 0 (Nat.zero_le _) rfl ⟨rfl, trivial⟩ ?_ (fun _ _ => (show (3 : Nat) ≤ 3 from Nat.le_refl 3)) ?_
  · intro k _
    refine ⟨fun z hz => ?_, fun z hz => ?_⟩
    · simp only [ow, List.mem_cons, List.not_mem_nil, or_false] at hz
      rcases hz with rfl | rfl | rfl
      · show (true && (true && (true && (true && (lowL 3 (s.ways.map wyA) && (lowL 3 ((s.looks.map ownR).map rwA) && (true && true))))))) = true
        rw [lowWy, lowRk]; rfl
      · rfl
      · exact owE_low s k
    · simp only [List.cons_append, List.nil_append, List.mem_cons, List.not_mem_nil, or_false] at hz
      rcases hz with rfl | rfl | rfl | rfl | rfl <;> first | rfl | exact lowTr _
  intro k hk
  have hel := owE_len s hk
  conv => whnf
  by_cases hlt : k < s.truths.length
  · have hget : (owE s k).getD (k : Int).toNat default = trA (s.truths.getD k default) := by
      rw [Int.toNat_natCast]
      unfold owE
      have hl : ((s.truths.take k).map owT).length = k := by rw [List.length_map, List.length_take]; omega
      rw [List.getD_eq_getElem?_getD, List.getElem?_append_right (by omega), hl, Nat.sub_self, drop_next hlt]; rfl
    have hq := dupRows_sps (s.truths.getD k default).1 (s.truths.getD k default).2 (hb.tl _ (getD_mem (d := default) hlt)) (hb.sl _ (getD_mem (d := default) hlt))
    repeat' first | ((with_reducible apply XBr.dec) <;> (intro h; first | (exfalso; omega) | ((try simp only [List.length_map] at h); first | (exfalso; omega) | (conv => whnf)))) | ((with_reducible refine XInt.i64 (by omega) (by omega) ?_); conv => whnf) | (with_reducible apply XAnd.mk) | ((first | (with_reducible apply Chk.go) | (with_reducible apply ChkA.go) | (with_reducible apply ChkF.go) | (with_reducible apply ChkB.go)); conv => whnf) | (exact XSame.mk rfl rfl) | (with_reducible exact trivial) | (apply Walk.drawN (id := 5) tab_ok mixed_ok [1] [8] (hsC [_, _]) [_, _, _, _, _, _, _, _, _] (by kernel_rfl) rfl) | ((first | (with_reducible apply XNext.mk) | (first | refine XHold.mk ⟨hel, rfl, by omega, by omega⟩ ?_ | refine XHold.mk ⟨owE_len s (show k + 1 ≤ s.truths.length by omega), rfl, by omega, by omega⟩ ?_) | ((refine XGet.mk hel.symm (by omega) ?_); rw [hget]) | (refine XCall.ret hq ?_) | ((refine XPut.mk hel.symm (by omega) ?_); rw [show (owE s k).set (k : Int).toNat (AV.sl false (((s.truths.getD k default).2.map ownP).map spsA)) = owE s (k + 1) from owE_set s hlt])); conv => whnf) | fail
    exact XAgainG.go (k + 1) [_] (by omega) (by omega) rfl ⟨rfl, rfl, rfl, rfl, rfl, trivial⟩
  obtain rfl : k = s.truths.length := by omega
  have hfin : owE s s.truths.length = s.truths.map owT := by unfold owE; rw [List.take_length, List.drop_length]; simp
  rw [hfin]
  repeat' first | ((with_reducible apply XBr.dec) <;> (intro h; first | (exfalso; omega) | ((try simp only [List.length_map] at h); first | (exfalso; omega) | (conv => whnf)))) | fail
  refine ⟨Froz.agg (rs' := snC (ownS s)) (snOne _) (.cons (.low rfl) (.cons (.low rfl) (.cons (.low rfl) (.cons (.low rfl) (.cons (.low (lowWy _)) (.cons (.low (lowRk _)) (.cons ?_ .nil)))))))⟩
  have hfl : flat ((s.truths.map ownT).map trA) = flat (s.truths.map owT) := by
    unfold flat
    rw [List.map_map, List.flatMap_map, List.flatMap_map]; rfl
  refine Froz.gr (i := 2) (els := s.truths.map owT) (nl := false) (els' := (s.truths.map ownT).map trA) rfl (List.length_map _) (by simp only [List.length_map]) (fun e he => ?_) (fun e he => ?_) (by rw [hfl]; exact .low (by
    have : flat (s.truths.map owT) = s.truths.map owT := flat_one fun e he => by obtain ⟨t, -, rfl⟩ := List.mem_map.1 he; rfl
    rw [this]; exact lowL_map (fun _ => owTL _) _))
  · obtain ⟨t, -, rfl⟩ := List.mem_map.1 he
    show 1 = sz Try.prog 58
    kernel_rfl
  · rw [hfl] at he
    have : flat (s.truths.map owT) = s.truths.map owT := flat_one fun e he => by obtain ⟨t, -, rfl⟩ := List.mem_map.1 he; rfl
    rw [this] at he
    obtain ⟨t, -, rfl⟩ := List.mem_map.1 he; rfl
end GA
end

section
namespace GA
open Go Go.RowKit Go.Proofs
set_option pp.deepTerms true
set_option maxRecDepth 8000
set_option linter.unusedVariables false
set_option linter.unusedSimpArgs false

theorem off02_c (n lo hi : Int) : Comp Try.prog 83 [.int .i64 n, .int .i64 lo, .int .i64 hi] (.bool (!inZ n lo hi)) := by
  refine Comp.body (T := tab) (res := [.tmp 6]) tab_ok [] Try.func83 rfl (by kernel_rfl) Try.ntmps83 rfl (by simp only [List.length_cons, List.length_nil]; decide) (by rfl) ?_; conv => whnf
  repeat' first | ((first | (with_reducible apply XBr.tt) | (with_reducible apply XBr.ff)); conv => whnf) | ((with_reducible apply XBr.dec) <;> (intro h; first | (exfalso; omega) | ((try simp only [List.length_map] at h); first | (exfalso; omega) | (conv => whnf)))) | fail
  all_goals (refine XOut.bool ?_; rw [Bool.eq_iff_iff]; simp [inZ]; try omega)
theorem leads_c (w : Wy) (p q : Int) : Comp Try.prog 84 [wyA w, .int .i64 p, .int .i64 q] (.bool (leadB w p q)) := by
  refine Comp.body (T := tab) (res := [.tmp 6]) tab_ok [] Try.func84 rfl (by kernel_rfl) Try.ntmps84 rfl (by simp only [List.length_cons, List.length_nil]; decide) (by rfl) ?_; conv => whnf
  refine Walk.norm tab_ok [] [(1, _), (2, _), (3, _)] ⟨rfl, rfl, rfl, trivial⟩ ?_
  conv => whnf
  repeat' first | ((first | (with_reducible apply XBr.tt) | (with_reducible apply XBr.ff)); conv => whnf) | ((with_reducible apply XBr.beq) <;> (intro h; first | (exfalso; omega) | (conv => whnf))) | ((first | (with_reducible apply XArr.pim0) | (with_reducible apply XArr.pim1)); conv => whnf) | fail
  all_goals (refine XOut.bool ?_; unfold leadB; simp_all)
theorem rIs_c (a t : Nat) (ha : a ≤ 1000000) (ht : t ≤ 1000) : Comp Try.prog 103 [natA a, natA t] (.bool (a.testBit t)) := by
  refine Comp.body (T := tab) (res := [.tmp 4]) tab_ok [] Try.func103 rfl (by kernel_rfl) Try.ntmps103 rfl (by simp only [List.length_cons, List.length_nil]; decide) (by rfl) ?_; conv => whnf
  skip
  refine Walk.loopK tab_ok [] [(1, _), (4, _)] ⟨rfl, rfl, trivial⟩ (fun k : Nat => k ≤ t) (fun k => [(0, natA (a / 2 ^ k)), (5, natA k)]) (fun _ => []) (fun k => t - k) 0 (Nat.zero_le _) rfl ⟨by show some (natA a) = some (natA (a / 2 ^ 0)); simp, rfl, trivial⟩ ?_
  intro k hk
  have hv : a / 2 ^ k ≤ a := Nat.div_le_self _ _
  have hnx : a / 2 ^ (k + 1) = a / 2 ^ k / 2 := by rw [Nat.pow_succ, Nat.div_div_eq_div_mul]
  have hend : k = t → a.testBit t = decide (a / 2 ^ k % 2 = 1) := fun h => by rw [← h, Nat.testBit_eq_decide_div_mod_eq]
  generalize a / 2 ^ k = v at hv hnx hend
  have q1 : (v : Int).tdiv 2 = ((v / 2 : Nat) : Int) := by rw [Int.tdiv_eq_ediv_of_nonneg (by omega)]; omega
  have q2 : (v : Int).tmod 2 = ((v % 2 : Nat) : Int) := by rw [Int.tmod_eq_emod_of_nonneg (by omega)]; omega
  conv => whnf
  by_cases hlt : k < t
  · skip
    repeat' first | ((with_reducible apply XBr.dec) <;> (intro h; first | (exfalso; omega) | ((try simp only [List.length_map] at h); first | (exfalso; omega) | (conv => whnf)))) | ((with_reducible refine XInt.i64 (by omega) (by omega) ?_); conv => whnf) | ((with_reducible refine XHold.mk ?_ ?_); (first | omega | rfl | decide | exact ⟨rfl, by decide, rfl⟩ | exact wideI _ | exact widePr _ | exact wideSk _ | (unfold Room; constructor <;> ((try simp) <;> omega)) | exact ⟨rfl, by simp only [List.length_map], by unfold Room; constructor <;> ((try simp) <;> omega)⟩ | exact ⟨by omega, by omega, by unfold Room; constructor <;> ((try simp) <;> omega)⟩); conv => whnf) | fail
    exact XAgain.go (k + 1) (by omega) (by omega) rfl ⟨rfl, rfl, (by rw [hnx]; rfl), rfl, trivial⟩
  obtain rfl : k = t := by omega
  rw [hend rfl]
  repeat' first | ((with_reducible apply XBr.dec) <;> (intro h; first | (exfalso; omega) | ((try simp only [List.length_map] at h); first | (exfalso; omega) | (conv => whnf)))) | ((with_reducible refine XHold.mk ?_ ?_); (first | omega | rfl | decide | exact ⟨rfl, by decide, rfl⟩ | exact wideI _ | exact widePr _ | exact wideSk _ | (unfold Room; constructor <;> ((try simp) <;> omega)) | exact ⟨rfl, by simp only [List.length_map], by unfold Room; constructor <;> ((try simp) <;> omega)⟩ | exact ⟨by omega, by omega, by unfold Room; constructor <;> ((try simp) <;> omega)⟩); conv => whnf) | fail
  all_goals (refine XOut.bool ?_; rw [Bool.eq_iff_iff]; simp [q2]; try omega)
theorem rOne_c (t : Nat) (ht : t ≤ 40) : Comp Try.prog 105 [natA t] (natA (2 ^ t)) := by
  refine Comp.body (T := tab) (res := [.tmp 2]) tab_ok [] Try.func105 rfl (by kernel_rfl) Try.ntmps105 rfl (by simp only [List.length_cons, List.length_nil]; decide) (by rfl) ?_; conv => whnf
  skip
  refine Walk.loopK tab_ok [] [(0, _), (2, _)] ⟨rfl, rfl, trivial⟩ (fun k : Nat => k ≤ t) (fun k => [(3, natA (2 ^ k)), (4, natA k)]) (fun _ => []) (fun k => t - k) 0 (Nat.zero_le _) rfl ⟨rfl, rfl, trivial⟩ ?_
  intro k hk
  have hp : 2 ^ k ≤ 2 ^ 40 := Nat.pow_le_pow_right (by omega) (by omega)
  have hnx : 2 ^ (k + 1) = 2 * 2 ^ k := by rw [Nat.pow_succ, Nat.mul_comm]
  have hend : k = t → 2 ^ k = 2 ^ t := fun h => by rw [h]
  have h40 : (2 : Nat) ^ 40 = 1099511627776 := by decide
  rw [h40] at hp
  generalize 2 ^ k = v at hp hnx hend
  conv => whnf
  by_cases hlt : k < t
  · skip
    repeat' first | ((with_reducible apply XBr.dec) <;> (intro h; first | (exfalso; omega) | ((try simp only [List.length_map] at h); first | (exfalso; omega) | (conv => whnf)))) | ((with_reducible refine XInt.i64 (by omega) (by omega) ?_); conv => whnf) | fail
    exact XAgain.go (k + 1) (by omega) (by omega) rfl ⟨rfl, rfl, (by rw [hnx]; exact congrArg (fun z => some (AV.int .i64 z)) (by omega)), rfl, trivial⟩
  obtain rfl : k = t := by omega
  rw [← hend rfl]
  repeat' first | ((with_reducible apply XBr.dec) <;> (intro h; first | (exfalso; omega) | ((try simp only [List.length_map] at h); first | (exfalso; omega) | (conv => whnf)))) | fail
  exact XOut.int rfl
theorem rAll_c (s : Sn) (hT : s.truths.length ≤ 10) : Comp Try.prog 37 [rsA s] (natA (allN s)) := by
  have e3 : ((s.truths.map tdA).length : Int) = s.truths.length := by rw [List.length_map]
  refine Comp.body (T := tab) (res := [.tmp 2]) tab_ok [] Try.func37 rfl (by kernel_rfl) Try.ntmps37 rfl (by simp only [List.length_cons, List.length_nil]; decide) (by simp only [lowL, rsL]; rfl) ?_; conv => whnf
  skip
  refine Walk.loopK tab_ok [] [(1, _), (2, _)] ⟨rfl, rfl, trivial⟩ (fun k : Nat => k ≤ s.truths.length) (fun k => [(3, natA (2 ^ k)), (4, natA k)]) (fun _ => []) (fun k => s.truths.length - k) 0 (Nat.zero_le _) rfl ⟨rfl, rfl, trivial⟩ ?_
  intro k hk
  have hp : 2 ^ k ≤ 2 ^ 10 := Nat.pow_le_pow_right (by omega) (by omega)
  have hp0 : 0 < 2 ^ k := Nat.two_pow_pos _
  have hnx : 2 ^ (k + 1) = 2 * 2 ^ k := by rw [Nat.pow_succ, Nat.mul_comm]
  have hend : k = s.truths.length → allN s = 2 ^ k - 1 := fun h => by rw [h]; rfl
  generalize 2 ^ k = v at hp hp0 hnx hend
  conv => whnf
  by_cases hlt : k < s.truths.length
  · skip
    repeat' first | ((with_reducible apply XBr.dec) <;> (intro h; first | (exfalso; omega) | ((try simp only [List.length_map] at h); first | (exfalso; omega) | (conv => whnf)))) | ((with_reducible refine XInt.i64 (by omega) (by omega) ?_); conv => whnf) | fail
    exact XAgain.go (k + 1) (by omega) (by omega) rfl ⟨rfl, rfl, (by rw [hnx]; exact congrArg (fun z => some (AV.int .i64 z)) (by omega)), rfl, trivial⟩
  obtain rfl : k = s.truths.length := by omega
  rw [hend rfl]
  repeat' first | ((with_reducible apply XBr.dec) <;> (intro h; first | (exfalso; omega) | ((try simp only [List.length_map] at h); first | (exfalso; omega) | (conv => whnf)))) | ((with_reducible refine XInt.i64 (by omega) (by omega) ?_); conv => whnf) | fail
  exact XOut.int (by omega)
theorem rWet_c (s : Sn) (hb : SnB s) (t p m : Nat) (ht : t < s.truths.length) (hp : p < (s.truths.getD t default).2.length) : Comp Try.prog 104 [rsA s, natA t, natA p, natA m] (.bool (!dryT s t p m)) := by
  have hlen := hb.sl _ (getD_mem (d := default) ht) _ (getD_mem (d := default) hp)
  have e5 : ((((s.truths.getD t default).2.getD p default).2.map sgA).length : Int) = ((s.truths.getD t default).2.getD p default).2.length := by rw [List.length_map]
  have hdef : dryT s t p m = ((s.truths.getD t default).2.getD p default).2.any fun x => inZ m x.1 x.2 := rfl
  rw [hdef]
  refine Comp.body (T := tab) (res := [.tmp 8]) tab_ok [] Try.func104 rfl (by kernel_rfl) Try.ntmps104 rfl (by simp only [List.length_cons, List.length_nil]; decide) (by simp only [lowL, AV.low, rsL]; rfl) ?_; conv => whnf
  repeat' first | (((with_reducible refine XIx.nat ?_ ?_ ?_); omega; (intro _; rfl)); conv => whnf) | fail
  generalize (s.truths.getD t default).2.getD p default = r at hlen e5
  refine Walk.loopK tab_ok [] [(3, _), (9, _)] ⟨rfl, rfl, trivial⟩ (fun k : Nat => k ≤ r.2.length ∧ ∀ j, j < k → inZ m (r.2.getD j default).1 (r.2.getD j default).2 = false) (fun k => [(8, .bool false), (10, natA k)]) (fun _ => []) (fun k => r.2.length - k) 0 ⟨Nat.zero_le _, fun j hj => by omega⟩ rfl ⟨rfl, rfl, trivial⟩ ?_
  rintro k ⟨hk, hs⟩
  conv => whnf
  by_cases hlt : k < r.2.length
  · cases hb : inZ m (r.2.getD k default).1 (r.2.getD k default).2 with
    | true =>
      repeat' first | ((with_reducible apply XBr.tt); conv => whnf) | (with_reducible apply XBr.not) | ((with_reducible apply XBr.dec) <;> (intro h; first | (exfalso; omega) | ((try simp only [List.length_map] at h); first | (exfalso; omega) | (conv => whnf)))) | (((with_reducible refine XIx.nat ?_ ?_ ?_); omega; (intro _; rfl)); conv => whnf) | (with_reducible apply XAnd.mk) | ((first | (with_reducible apply Chk.go) | (with_reducible apply ChkA.go) | (with_reducible apply ChkF.go) | (with_reducible apply ChkB.go)); conv => whnf) | (exact XSame.mk rfl rfl) | (with_reducible exact trivial) | (apply Walk.drawN (id := 5) tab_ok mixed_ok [] [] (hsU _) [_, _, _, _, _, _, _, _, _, _, _, _, _] (by kernel_rfl) rfl) | ((first | (with_reducible apply XNext.mk) | ((refine XCall.ret (off02_c _ _ _) ?_); rw [hb])); conv => whnf) | fail
      rw [List.any_eq_true.2 ⟨_, getD_mem (d := default) hlt, hb⟩]
      exact XOut.bool rfl
    | false =>
      repeat' first | ((with_reducible apply XBr.ff); conv => whnf) | (with_reducible apply XBr.not) | ((with_reducible apply XBr.dec) <;> (intro h; first | (exfalso; omega) | ((try simp only [List.length_map] at h); first | (exfalso; omega) | (conv => whnf)))) | ((first | (with_reducible refine XInt.i64 (by omega) (by omega) ?_) | ((with_reducible refine XIx.nat ?_ ?_ ?_); omega; (intro _; rfl))); conv => whnf) | (with_reducible apply XAnd.mk) | ((first | (with_reducible apply Chk.go) | (with_reducible apply ChkA.go) | (with_reducible apply ChkF.go) | (with_reducible apply ChkB.go)); conv => whnf) | (exact XSame.mk rfl rfl) | (with_reducible exact trivial) | (apply Walk.drawN (id := 5) tab_ok mixed_ok [] [] (hsU _) [_, _, _, _, _, _, _, _, _, _, _, _, _] (by kernel_rfl) rfl) | ((first | (with_reducible apply XNext.mk) | ((refine XCall.ret (off02_c _ _ _) ?_); rw [hb])); conv => whnf) | fail
      refine XAgain.go (k + 1) ⟨by omega, fun j hj => ?_⟩ (by omega) rfl ⟨rfl, rfl, rfl, rfl, trivial⟩
      by_cases e : j = k
      · subst e; exact hb
      · exact hs j (by omega)
  obtain rfl : k = r.2.length := by omega
  have q : r.2.any (fun x => inZ m x.1 x.2) = false := by
    rw [List.any_eq_false]
    intro x hx
    obtain ⟨j, hj, rfl⟩ := List.mem_iff_getElem.1 hx
    have := hs j hj
    rw [List.getD_eq_getElem?_getD, List.getElem?_eq_getElem hj] at this
    simpa using this
  rw [q]
  clear hs
  repeat' first | ((with_reducible apply XBr.dec) <;> (intro h; first | (exfalso; omega) | ((try simp only [List.length_map] at h); first | (exfalso; omega) | (conv => whnf)))) | fail
  exact XOut.bool rfl
theorem rDry_c (s : Sn) (hb : SnB s) (ok : SnOk s) (p m : Nat) (hp : (p : Int) < s.places) : Comp Try.prog 36 [rsA s, natA p, natA m] (natA (drN s p m)) := by
  have t2 := ok.t2
  have e3 : ((s.truths.map tdA).length : Int) = s.truths.length := by rw [List.length_map]
  refine Comp.body (T := tab) (res := [.tmp 6]) tab_ok [] Try.func36 rfl (by kernel_rfl) Try.ntmps36 rfl (by simp only [List.length_cons, List.length_nil]; decide) (by simp only [lowL, AV.low, rsL]; rfl) ?_; conv => whnf
  skip
  refine Walk.loopK tab_ok [] [(1, _), (2, _), (3, _), (6, _)] ⟨rfl, rfl, rfl, rfl, trivial⟩ (fun k : Nat => k ≤ s.truths.length) (fun k => [(7, natA (bsum (fun t => dryT s t p m) k)), (8, natA k)]) (fun _ => []) (fun k => s.truths.length - k) 0 (Nat.zero_le _) rfl ⟨rfl, rfl, trivial⟩ ?_
  intro k hk
  have hl : bsum (fun t => dryT s t p m) k < 2 ^ k := bsum_lt _ _
  have hp2 : 2 ^ k ≤ 2 ^ 4 := Nat.pow_le_pow_right (by omega) (by omega)
  have hnx : bsum (fun t => dryT s t p m) (k + 1) = bsum (fun t => dryT s t p m) k + if dryT s k p m = true then 2 ^ k else 0 := rfl
  have hend : k = s.truths.length → bsum (fun t => dryT s t p m) k = drN s p m := fun h => by rw [h]; rfl
  generalize bsum (fun t => dryT s t p m) k = v at hl hnx hend
  conv => whnf
  by_cases hlt : k < s.truths.length
  · have hw := rWet_c s hb k p m hlt (by have := ok.tl _ (getD_mem (d := default) hlt); omega)
    have ho := rOne_c k (by omega)
    generalize 2 ^ k = q at hl hp2 hnx ho
    cases hd : dryT s k p m with
    | true =>
      rw [hd] at hw hnx
      repeat' first | ((with_reducible apply XBr.tt); conv => whnf) | (with_reducible apply XBr.not) | ((with_reducible apply XBr.dec) <;> (intro h; first | (exfalso; omega) | ((try simp only [List.length_map] at h); first | (exfalso; omega) | (conv => whnf)))) | ((first | (with_reducible refine XInt.i64 (by omega) (by omega) ?_) | (refine XCall.ret hw ?_) | (refine XCall.ret ho ?_)); conv => whnf) | fail
      exact XAgain.go (k + 1) (by omega) (by omega) rfl ⟨rfl, rfl, rfl, rfl, (by rw [hnx, if_pos rfl]; exact congrArg (fun z => some (AV.int .i64 z)) (by omega)), rfl, trivial⟩
    | false =>
      rw [hd] at hw hnx
      repeat' first | ((with_reducible apply XBr.ff); conv => whnf) | (with_reducible apply XBr.not) | ((with_reducible apply XBr.dec) <;> (intro h; first | (exfalso; omega) | ((try simp only [List.length_map] at h); first | (exfalso; omega) | (conv => whnf)))) | ((first | (with_reducible refine XInt.i64 (by omega) (by omega) ?_) | (refine XCall.ret hw ?_)); conv => whnf) | fail
      exact XAgain.go (k + 1) (by omega) (by omega) rfl ⟨rfl, rfl, rfl, rfl, (by rw [hnx, if_neg (by simp)]; rfl), rfl, trivial⟩
  obtain rfl : k = s.truths.length := by omega
  rw [← hend rfl]
  repeat' first | ((with_reducible apply XBr.dec) <;> (intro h; first | (exfalso; omega) | ((try simp only [List.length_map] at h); first | (exfalso; omega) | (conv => whnf)))) | fail
  exact XOut.int rfl
end GA
end

section
namespace GA
open Go Go.RowKit Go.Proofs
set_option pp.deepTerms true
set_option maxRecDepth 8000
set_option linter.unusedVariables false
set_option linter.unusedSimpArgs false

theorem rSeen_c (s : Sn) (ok : SnOk s) (p left : Nat) (hp : (p : Int) < s.places) (hl : left ≤ 1000) : Comp Try.prog 38 [rsA s, natA p, natA left] (nsA (partsL s p left)) := by
  have p2 := ok.p2; have k1 := ok.k1; have t2 := ok.t2
  have e1 : ((s.looks.map rwA).length : Int) = s.looks.length := by rw [List.length_map]
  refine Comp.body (T := tab) (res := [.tmp 6]) tab_ok [] Try.func38 rfl (by kernel_rfl) Try.ntmps38 rfl (by simp only [List.length_cons, List.length_nil]; decide) (by simp only [lowL, AV.low, rsL]; rfl) ?_; conv => whnf
  skip
  refine Walk.nilgr 7 3 rfl ?_
  refine Walk.loopGK tab_ok [] [(1, _), (2, _), (3, _), (6, _)] ⟨rfl, rfl, rfl, rfl, trivial⟩ (fun n : Nat => n ≤ 4) (fun n => [(7, .gr 0 (partsK s p left n).length), (8, natA n)]) (fun n => [.grow 3 (partsK s p left n).isEmpty ((partsK s p left n).map natA)]) (fun n => 4 - n) 0 (by omega) rfl ⟨rfl, rfl, trivial⟩ ?_ (fun _ _ => (show (1 : Nat) ≤ 1 from Nat.le_refl 1)) ?_
  · intro n _
    refine ⟨fun z hz => ?_, fun z hz => ?_⟩
    · rw [List.mem_singleton] at hz; subst hz; exact nsL _
    · simp only [List.cons_append, List.nil_append, List.mem_cons, List.not_mem_nil, or_false] at hz
      rcases hz with rfl | rfl | rfl | rfl | rfl | rfl <;> first | rfl | exact rsCL s
  intro n hn
  have hlen : (partsK s p left n).length ≤ n := by
    clear hn
    induction n with
    | zero => exact Nat.le_refl _
    | succ n ih => rw [partsK, List.length_append]; split <;> simp only [List.length_cons, List.length_nil] <;> omega
  have hnx : partsK s p left (n + 1) = partsK s p left n ++ if partN s p left n = 0 then [] else [partN s p left n] := rfl
  have hend : n = 4 → partsK s p left n = partsL s p left := fun h => by rw [h]; rfl
  generalize partsK s p left n = R at hlen hnx hend
  have hRl : (R.map natA).length = R.length := List.length_map _
  conv => whnf
  by_cases hlt : n < 4
  · skip
    repeat' first | ((with_reducible apply XBr.dec) <;> (intro h; first | (exfalso; omega) | ((try simp only [List.length_map] at h); first | (exfalso; omega) | (conv => whnf)))) | fail
    refine Walk.loopK tab_ok [] [(1, _), (2, _), (3, _), (6, _), (7, _), (8, _)] ⟨rfl, rfl, rfl, rfl, rfl, rfl, trivial⟩ (fun i : Nat => i ≤ s.looks.length) (fun i => [(9, natA (partI s p left n i)), (10, natA i)]) (fun _ => [.grow 3 R.isEmpty (R.map natA)]) (fun i => s.looks.length - i) 0 (Nat.zero_le _) rfl ⟨rfl, rfl, trivial⟩ ?_
    intro i hi
    conv => whnf
    by_cases hlt2 : i < s.looks.length
    · have hll := ok.kl _ (getD_mem (d := default) hlt2)
      have hlk : lookZ s i p = (s.looks.getD i default).2.getD p default := rfl
      have b1 := partI_lt s p left n i
      have b2 : 2 ^ i ≤ 2 ^ 4 := Nat.pow_le_pow_right (by omega) (by omega)
      have hnx2 : partI s p left n (i + 1) = partI s p left n i + if (lookZ s i p == (n : Int) && left.testBit i) = true then 2 ^ i else 0 := rfl
      have his := rIs_c left i (by omega) (by omega)
      have ho := rOne_c i (by omega)
      generalize partI s p left n i = v at b1 hnx2
      generalize 2 ^ i = q at b1 b2 hnx2 ho
      by_cases hc : left.testBit i = true ∧ lookZ s i p = (n : Int)
      · have h2 : partI s p left n (i + 1) = v + q := by rw [hnx2, if_pos (by rw [hc.1, hc.2]; simp)]
        have h3 := hc.2
        rw [hlk] at h3
        rw [hc.1] at his
        repeat' first | ((with_reducible apply XBr.tt); conv => whnf) | ((with_reducible apply XBr.dec) <;> (intro h; first | (exfalso; omega) | ((try simp only [List.length_map] at h); first | (exfalso; omega) | (conv => whnf)))) | ((with_reducible apply XBr.beq) <;> (intro h; first | (exfalso; omega) | (conv => whnf))) | ((first | (with_reducible refine XInt.i64 (by omega) (by omega) ?_) | ((with_reducible refine XIx.nat ?_ ?_ ?_); omega; (intro _; rfl)) | (refine XCall.ret his ?_) | (refine XCall.ret ho ?_)); conv => whnf) | fail
        exact XAgain.go (i + 1) (by omega) (by omega) rfl ⟨rfl, rfl, rfl, rfl, rfl, rfl, (by rw [h2]; exact congrArg (fun z => some (AV.int .i64 z)) (by omega)), rfl, trivial⟩
      · have h2 : partI s p left n (i + 1) = v := by
          rw [hnx2, if_neg (fun h => hc ?_)]; · rfl
          simp only [Bool.and_eq_true, beq_iff_eq] at h
          exact ⟨h.2, h.1⟩
        cases hb1 : left.testBit i with
        | false =>
          rw [hb1] at his
          repeat' first | ((with_reducible apply XBr.ff); conv => whnf) | ((with_reducible apply XBr.dec) <;> (intro h; first | (exfalso; omega) | ((try simp only [List.length_map] at h); first | (exfalso; omega) | (conv => whnf)))) | ((first | (with_reducible refine XInt.i64 (by omega) (by omega) ?_) | (refine XCall.ret his ?_)); conv => whnf) | fail
          exact XAgain.go (i + 1) (by omega) (by omega) rfl ⟨rfl, rfl, rfl, rfl, rfl, rfl, (by rw [h2]; rfl), rfl, trivial⟩
        | true =>
          rw [hb1] at his hc
          have h3 : ¬ lookZ s i p = (n : Int) := fun e => hc ⟨rfl, e⟩
          rw [hlk] at h3
          repeat' first | ((with_reducible apply XBr.tt); conv => whnf) | ((with_reducible apply XBr.dec) <;> (intro h; first | (exfalso; omega) | ((try simp only [List.length_map] at h); first | (exfalso; omega) | (conv => whnf)))) | ((with_reducible apply XBr.beq) <;> (intro h; first | (exfalso; omega) | (conv => whnf))) | ((first | (with_reducible refine XInt.i64 (by omega) (by omega) ?_) | ((with_reducible refine XIx.nat ?_ ?_ ?_); omega; (intro _; rfl)) | (refine XCall.ret his ?_)); conv => whnf) | fail
          exact XAgain.go (i + 1) (by omega) (by omega) rfl ⟨rfl, rfl, rfl, rfl, rfl, rfl, (by rw [h2]; rfl), rfl, trivial⟩
    obtain rfl : i = s.looks.length := by omega
    have hpN : partI s p left n s.looks.length = partN s p left n := rfl
    rw [hpN]
    generalize partN s p left n = v at hnx
    repeat' first | ((with_reducible apply XBr.dec) <;> (intro h; first | (exfalso; omega) | ((try simp only [List.length_map] at h); first | (exfalso; omega) | (conv => whnf)))) | ((with_reducible refine XInt.i64 (by omega) (by omega) ?_); conv => whnf) | ((with_reducible refine XHold.mk ?_ ?_); (first | omega | rfl | decide | exact ⟨rfl, by decide, rfl⟩ | exact wideI _ | exact widePr _ | exact wideSk _ | (unfold Room; constructor <;> ((try simp) <;> omega)) | exact ⟨rfl, by simp only [List.length_map], by unfold Room; constructor <;> ((try simp) <;> omega)⟩ | exact ⟨by omega, by omega, by unfold Room; constructor <;> ((try simp) <;> omega)⟩); conv => whnf) | fail
    · have hx : partsK s p left (n + 1) = R ++ [v] := by rw [hnx, if_neg (by omega)]
      refine XAgainG.go (n + 1) [] (by omega) (by omega) ?_ ⟨rfl, rfl, rfl, rfl, (by show some (AV.gr 0 (R.length + 1)) = _; rw [hx, List.length_append]; rfl), rfl, trivial⟩
      show [Blk.grow _ (partsK s p left (n + 1)).isEmpty ((partsK s p left (n + 1)).map natA)] ++ [] = _
      rw [hx, isEmpty_app, List.map_append]; rfl
    · have hx : partsK s p left (n + 1) = R := by rw [hnx, if_pos (by omega), List.append_nil]
      refine XAgainG.go (n + 1) [] (by omega) (by omega) ?_ ⟨rfl, rfl, rfl, rfl, (by rw [hx]; rfl), rfl, trivial⟩
      show [Blk.grow _ (partsK s p left (n + 1)).isEmpty ((partsK s p left (n + 1)).map natA)] ++ [] = _
      rw [hx]; rfl
  obtain rfl : n = 4 := by omega
  rw [← hend rfl]
  repeat' first | ((with_reducible apply XBr.dec) <;> (intro h; first | (exfalso; omega) | ((try simp only [List.length_map] at h); first | (exfalso; omega) | (conv => whnf)))) | fail
  exact ⟨Froz.grow rfl hRl (nsL _)⟩
theorem safe_ref {s : Sn} (ok : SnOk s) {x : Sta} (hl : x.l ≤ allN s) : safeB s x = (x.l != 0 && !((List.range s.truths.length).any fun t => x.l.testBit t && !dryT s t x.p x.m)) := by
  rw [Bool.eq_iff_iff, safeB_iff, Bool.and_eq_true, bne_iff_ne]
  refine and_congr Iff.rfl ?_
  rw [Bool.not_eq_true', List.any_eq_false]
  constructor
  · intro h t ht
    cases hb : x.l.testBit t with
    | false => simp
    | true => rw [(h t hb).2]; simp
  · intro h t hb
    have ht : t < s.truths.length := by
      refine Classical.byContradiction fun e => ?_
      have h1 : x.l < 2 ^ t := by
        have h2 : 2 ^ s.truths.length ≤ 2 ^ t := Nat.pow_le_pow_right (by omega) (by omega)
        have h3 : 0 < 2 ^ s.truths.length := Nat.two_pow_pos _
        unfold allN at hl
        omega
      rw [Nat.testBit_lt_two_pow h1] at hb; cases hb
    refine ⟨ht, ?_⟩
    have := h t (List.mem_range.2 ht)
    rw [hb] at this
    simpa using this
theorem any_range_true {f : Nat → Bool} {n k : Nat} (hk : k < n) (h : f k = true) : (List.range n).any f = true := List.any_eq_true.2 ⟨k, List.mem_range.2 hk, h⟩
theorem any_range_false {f : Nat → Bool} {n : Nat} (h : ∀ k, k < n → f k = false) : (List.range n).any f = false := by
  rw [List.any_eq_false]
  intro k hk
  rw [h k (List.mem_range.1 hk)]; simp
theorem rSafe_c (s : Sn) (hb : SnB s) (ok : SnOk s) (x : Sta) (hp : (x.p : Int) < s.places) (hl : x.l ≤ allN s) : Comp Try.prog 35 [rsA s, staA x] (.bool (safeB s x)) := by
  have t2 := ok.t2
  have hal := allN16 ok
  have e3 : ((s.truths.map tdA).length : Int) = s.truths.length := by rw [List.length_map]
  rw [safe_ref ok hl]
  by_cases h0 : x.l = 0
  · have hz : (x.l != 0 && !((List.range s.truths.length).any fun t => x.l.testBit t && !dryT s t x.p x.m)) = false := by rw [h0]; rfl
    rw [hz]
    refine Comp.body (T := tab) (res := [.tmp 4]) tab_ok [] Try.func35 rfl (by kernel_rfl) Try.ntmps35 rfl (by simp only [List.length_cons, List.length_nil]; decide) (by simp only [lowL, staL, rsL]; rfl) ?_; conv => whnf
    repeat' first | ((with_reducible apply XBr.beq) <;> (intro h; first | (exfalso; omega) | (conv => whnf))) | fail
    exact XOut.bool rfl
  have hz : (x.l != 0 && !((List.range s.truths.length).any fun t => x.l.testBit t && !dryT s t x.p x.m)) = !((List.range s.truths.length).any fun t => x.l.testBit t && !dryT s t x.p x.m) := by rw [bne_iff_ne.2 h0]; rfl
  rw [hz]
  refine Comp.body (T := tab) (res := [.tmp 4]) tab_ok [] Try.func35 rfl (by kernel_rfl) Try.ntmps35 rfl (by simp only [List.length_cons, List.length_nil]; decide) (by simp only [lowL, staL, rsL]; rfl) ?_; conv => whnf
  repeat' first | ((with_reducible apply XBr.beq) <;> (intro h; first | (exfalso; omega) | (conv => whnf))) | fail
  refine Walk.loopK tab_ok [] [(2, _), (3, _)] ⟨rfl, rfl, trivial⟩ (fun k : Nat => k ≤ s.truths.length ∧ ∀ j, j < k → (x.l.testBit j && !dryT s j x.p x.m) = false) (fun k => [(5, natA k)]) (fun _ => []) (fun k => s.truths.length - k) 0 ⟨Nat.zero_le _, fun j hj => by omega⟩ rfl ⟨rfl, trivial⟩ ?_
  rintro k ⟨hk, hs⟩
  conv => whnf
  by_cases hlt : k < s.truths.length
  · have hw := rWet_c s hb k x.p x.m hlt (by have := ok.tl _ (getD_mem (d := default) hlt); omega)
    have his := rIs_c x.l k (by omega) (by omega)
    cases hb1 : x.l.testBit k with
    | false =>
      rw [hb1] at his
      repeat' first | ((with_reducible apply XBr.ff); conv => whnf) | ((with_reducible apply XBr.dec) <;> (intro h; first | (exfalso; omega) | ((try simp only [List.length_map] at h); first | (exfalso; omega) | (conv => whnf)))) | ((first | (with_reducible refine XInt.i64 (by omega) (by omega) ?_) | (refine XCall.ret his ?_)); conv => whnf) | fail
      refine XAgain.go (k + 1) ⟨by omega, fun j hj => ?_⟩ (by omega) rfl ⟨rfl, rfl, rfl, trivial⟩
      by_cases e : j = k
      · subst e; rw [hb1]; rfl
      · exact hs j (by omega)
    | true =>
      rw [hb1] at his
      cases hb2 : dryT s k x.p x.m with
      | true =>
        rw [hb2] at hw
        repeat' first | ((with_reducible apply XBr.tt); conv => whnf) | (with_reducible apply XBr.not) | ((with_reducible apply XBr.dec) <;> (intro h; first | (exfalso; omega) | ((try simp only [List.length_map] at h); first | (exfalso; omega) | (conv => whnf)))) | ((first | (with_reducible refine XInt.i64 (by omega) (by omega) ?_) | (refine XCall.ret his ?_) | (refine XCall.ret hw ?_)); conv => whnf) | fail
        refine XAgain.go (k + 1) ⟨by omega, fun j hj => ?_⟩ (by omega) rfl ⟨rfl, rfl, rfl, trivial⟩
        by_cases e : j = k
        · subst e; rw [hb2]; simp
        · exact hs j (by omega)
      | false =>
        rw [hb2] at hw
        repeat' first | ((first | (with_reducible apply XBr.tt) | (with_reducible apply XBr.ff)); conv => whnf) | (with_reducible apply XBr.not) | ((with_reducible apply XBr.dec) <;> (intro h; first | (exfalso; omega) | ((try simp only [List.length_map] at h); first | (exfalso; omega) | (conv => whnf)))) | ((first | (refine XCall.ret his ?_) | (refine XCall.ret hw ?_)); conv => whnf) | fail
        rw [any_range_true hlt (by rw [hb1, hb2]; rfl)]
        exact XOut.bool rfl
  obtain rfl : k = s.truths.length := by omega
  rw [any_range_false hs]
  clear hs
  repeat' first | ((with_reducible apply XBr.dec) <;> (intro h; first | (exfalso; omega) | ((try simp only [List.length_map] at h); first | (exfalso; omega) | (conv => whnf)))) | fail
  exact XOut.bool rfl
end GA
end

section
namespace GA
open Go Go.RowKit Go.Proofs
set_option pp.deepTerms true
set_option maxRecDepth 8000
set_option linter.unusedVariables false
set_option linter.unusedSimpArgs false

theorem upto' {P : Nat → Prop} {k : Nat} (h : ∀ j, j < k → P j) (hk : P k) : ∀ j, j < k + 1 → P j := fun j hj => by
  by_cases e : j = k
  · exact e ▸ hk
  · exact h j (by omega)
theorem allE {α : Type} {p : α → Bool} {xs : List α} {d : α} (h : ∀ j, j < xs.length → p (xs.getD j d) = true) : xs.all p = true := by
  rw [List.all_eq_true]; intro x hx
  obtain ⟨j, hj, rfl⟩ := List.mem_iff_getElem.1 hx
  have := h j hj
  rwa [List.getD_eq_getElem?_getD, List.getElem?_eq_getElem hj] at this
theorem allDf {α : Type} {p : α → Bool} {xs : List α} {d : α} {i : Nat} (hi : i < xs.length) (h : p (xs.getD i d) = false) : xs.all p = false := by
  rw [List.all_eq_false]; exact ⟨_, getD_mem hi, by rw [h]; simp⟩
def baseB (s : Sn) : Prop := inZ s.places 1 5 = true ∧ inZ s.truths.length 1 4 = true ∧ (s.ways.length : Int) ≤ 10 ∧ (s.looks.length : Int) = s.truths.length
theorem cnt_base {s : Sn} (h : ¬ baseB s) : cntB s = false := by
  rw [← Bool.not_eq_true]
  intro e
  unfold cntB at e
  simp only [Bool.and_eq_true, decide_eq_true_eq] at e
  exact h ⟨e.1.1.1.1.1, e.1.1.1.1.2, e.1.1.1.2, e.1.1.2⟩
theorem cnt_all {s : Sn} (h : baseB s) (h1 : s.looks.all (fun l => decide ((l.2.length : Int) = s.places)) = true) (h2 : s.truths.all (fun t => decide ((t.2.length : Int) = s.places)) = true) : cntB s = true := by
  obtain ⟨a, b, c, d⟩ := h
  unfold cntB
  rw [a, b, decide_eq_true c, decide_eq_true d, h1, h2]; rfl
theorem cnt_no {s : Sn} (h : s.looks.all (fun l => decide ((l.2.length : Int) = s.places)) = false ∨ s.truths.all (fun t => decide ((t.2.length : Int) = s.places)) = false) : cntB s = false := by
  unfold cntB
  rcases h with h | h <;> rw [h] <;> simp
theorem any_take_t {α : Type} {f : α → Bool} {xs : List α} {d : α} {k j : Nat} (hj : j < k) (hk : k ≤ xs.length) (h : f (xs.getD j d) = true) : (xs.take k).any f = true := by
  rw [List.any_eq_true]
  refine ⟨xs.getD j d, ?_, h⟩
  rw [List.getD_eq_getElem?_getD, List.getElem?_eq_getElem (by omega)]
  exact List.mem_take_iff_getElem.2 ⟨j, by omega, rfl⟩
theorem any_take_f {α : Type} {f : α → Bool} {xs : List α} {d : α} {k : Nat} (hk : k ≤ xs.length) (h : ∀ j, j < k → f (xs.getD j d) = false) : (xs.take k).any f = false := by
  rw [List.any_eq_false]
  intro x hx
  obtain ⟨j, hj, rfl⟩ := List.mem_take_iff_getElem.1 hx
  have := h j (by omega)
  rw [List.getD_eq_getElem?_getD, List.getElem?_eq_getElem (by omega)] at this
  simpa using this
set_option maxHeartbeats 4000000 in
theorem rCheck_c (s : Sn) (hb : SnB s) : Comp Try.prog 28 [rsA s] (.int .i64 (snE s)) := by
  have b1 := hb.w; have b2 := hb.k; have b3 := hb.t
  have e1 : ((s.ways.map wyA).length : Int) = s.ways.length := by rw [List.length_map]
  have e2 : ((s.looks.map rwA).length : Int) = s.looks.length := by rw [List.length_map]
  have e3 : ((s.truths.map tdA).length : Int) = s.truths.length := by rw [List.length_map]
  by_cases hbase : baseB s
  rotate_left
  · rw [snE_1 (cnt_base hbase)]
    unfold baseB at hbase
    rw [← e3] at hbase
    refine Comp.body (T := tab) (res := [.tmp 2]) tab_ok [] Try.func28 rfl (by kernel_rfl) Try.ntmps28 rfl (by simp only [List.length_cons, List.length_nil]; decide) (by simp only [lowL, rsL]; rfl) ?_; conv => whnf
    skip
    refine Walk.norm tab_ok [] [(1, _)] ⟨rfl, trivial⟩ ?_
    conv => whnf
    repeat' first | ((first | (with_reducible apply XBr.tt) | (with_reducible apply XBr.ff)); conv => whnf) | (with_reducible apply XBr.not) | ((with_reducible apply XBr.dec) <;> (intro h; first | (exfalso; omega) | ((try simp only [List.length_map] at h); first | (exfalso; omega) | (conv => whnf)))) | ((with_reducible apply XBr.bne) <;> (intro h; first | (exfalso; omega) | (conv => whnf))) | ((refine XCall.ret (off02_c _ _ _) ?_); conv => whnf) | ((with_reducible apply XBr.mk') <;> (intro h; conv => whnf)) | fail
    all_goals first
      | exact XOut.int rfl
      | (exfalso; exact hbase ⟨by assumption, by assumption, by omega, by omega⟩)
  obtain ⟨p1, t1, w1, k1⟩ := hbase
  have hbase : baseB s := ⟨p1, t1, w1, k1⟩
  have p1' := inZ_iff.1 p1
  have t1' := inZ_iff.1 t1
  refine Comp.body (T := tab) (res := [.tmp 2]) tab_ok [] Try.func28 rfl (by kernel_rfl) Try.ntmps28 rfl (by simp only [List.length_cons, List.length_nil]; decide) (by simp only [lowL, rsL]; rfl) ?_; conv => whnf
  skip
  refine Walk.norm tab_ok [] [(1, _)] ⟨rfl, trivial⟩ ?_
  conv => whnf
  have t1e : inZ ((s.truths.map tdA).length : Int) 1 4 = true := by rw [e3]; exact t1
  repeat' first | ((first | (with_reducible apply XBr.tt) | (with_reducible apply XBr.ff)); conv => whnf) | (with_reducible apply XBr.not) | ((with_reducible apply XBr.dec) <;> (intro h; first | (exfalso; omega) | ((try simp only [List.length_map] at h); first | (exfalso; omega) | (conv => whnf)))) | ((with_reducible apply XBr.bne) <;> (intro h; first | (exfalso; omega) | (conv => whnf))) | (((refine XCall.ret (off02_c _ _ _) ?_); (first | rw [p1] | rw [t1e])); conv => whnf) | fail
  -- as many things as there must be
  refine Walk.loopK tab_ok [] [(1, _)] ⟨rfl, trivial⟩ (fun k : Nat => k ≤ s.truths.length ∧ ∀ j, j < k → ((s.looks.getD j default).2.length : Int) = s.places ∧ ((s.truths.getD j default).2.length : Int) = s.places) (fun k => [(3, natA k)]) (fun _ => []) (fun k => s.truths.length - k) 0 ⟨Nat.zero_le _, fun j hj => by omega⟩ rfl ⟨rfl, trivial⟩ ?_
  rintro k ⟨hk, hs⟩
  conv => whnf
  by_cases hlt : k < s.truths.length
  · have e4 : ((ints (s.looks.getD k default).2).length : Int) = (s.looks.getD k default).2.length := by rw [ints_len]
    have e5 : (((s.truths.getD k default).2.map spsA).length : Int) = (s.truths.getD k default).2.length := by rw [List.length_map]
    have hltk : k < s.looks.length := by omega
    by_cases c1 : ((s.looks.getD k default).2.length : Int) = s.places
    · by_cases c2 : ((s.truths.getD k default).2.length : Int) = s.places
      · skip
        repeat' first | ((with_reducible apply XBr.dec) <;> (intro h; first | (exfalso; omega) | ((try simp only [List.length_map] at h); first | (exfalso; omega) | (conv => whnf)))) | ((with_reducible apply XBr.bne) <;> (intro h; first | (exfalso; omega) | (conv => whnf))) | ((first | (with_reducible refine XInt.i64 (by omega) (by omega) ?_) | ((with_reducible refine XIx.nat ?_ ?_ ?_); omega; (intro _; rfl))); conv => whnf) | (with_reducible apply XAnd.mk) | ((first | (with_reducible apply Chk.go) | (with_reducible apply ChkA.go) | (with_reducible apply ChkF.go) | (with_reducible apply ChkB.go)); conv => whnf) | (exact XSame.mk rfl rfl) | (with_reducible exact trivial) | (apply Walk.drawN (id := 6) tab_ok mixed_ok [] [] (hsU _) [_, _, _, _, _, _, _, _, _, _, _, _, _, _, _, _, _, _, _, _] (by kernel_rfl) rfl) | ((with_reducible apply XNext.mk); conv => whnf) | fail
        exact XAgain.go (k + 1) ⟨by omega, upto' hs ⟨c1, c2⟩⟩ (by omega) rfl ⟨rfl, rfl, trivial⟩
      · rw [snE_1 (cnt_no (.inr (allDf hlt (decide_eq_false c2))))]
        repeat' first | ((with_reducible apply XBr.dec) <;> (intro h; first | (exfalso; omega) | ((try simp only [List.length_map] at h); first | (exfalso; omega) | (conv => whnf)))) | ((with_reducible apply XBr.bne) <;> (intro h; first | (exfalso; omega) | (conv => whnf))) | (((with_reducible refine XIx.nat ?_ ?_ ?_); omega; (intro _; rfl)); conv => whnf) | (with_reducible apply XAnd.mk) | ((first | (with_reducible apply Chk.go) | (with_reducible apply ChkA.go) | (with_reducible apply ChkF.go) | (with_reducible apply ChkB.go)); conv => whnf) | (exact XSame.mk rfl rfl) | (with_reducible exact trivial) | (apply Walk.drawN (id := 6) tab_ok mixed_ok [] [] (hsU _) [_, _, _, _, _, _, _, _, _, _, _, _, _, _, _, _, _, _, _, _] (by kernel_rfl) rfl) | ((with_reducible apply XNext.mk); conv => whnf) | fail
        exact XOut.int rfl
    · rw [snE_1 (cnt_no (.inl (allDf hltk (decide_eq_false c1))))]
      repeat' first | ((with_reducible apply XBr.tt); conv => whnf) | ((with_reducible apply XBr.dec) <;> (intro h; first | (exfalso; omega) | ((try simp only [List.length_map] at h); first | (exfalso; omega) | (conv => whnf)))) | ((with_reducible apply XBr.bne) <;> (intro h; first | (exfalso; omega) | (conv => whnf))) | (((with_reducible refine XIx.nat ?_ ?_ ?_); omega; (intro _; rfl)); conv => whnf) | (with_reducible apply XAnd.mk) | ((first | (with_reducible apply Chk.go) | (with_reducible apply ChkA.go) | (with_reducible apply ChkF.go) | (with_reducible apply ChkB.go)); conv => whnf) | (exact XSame.mk rfl rfl) | (with_reducible exact trivial) | (apply Walk.drawN (id := 6) tab_ok mixed_ok [] [] (hsU _) [_, _, _, _, _, _, _, _, _, _, _, _, _, _, _, _, _, _, _, _] (by kernel_rfl) rfl) | ((with_reducible apply XNext.mk); conv => whnf) | fail
      exact XOut.int rfl
  obtain rfl : k = s.truths.length := by omega
  have q1 : cntB s = true := cnt_all hbase (allE (d := default) fun j hj => decide_eq_true (hs j (by omega)).1) (allE (d := default) fun j hj => decide_eq_true (hs j hj).2)
  have hkl : ∀ j, j < s.looks.length → ((s.looks.getD j default).2.length : Int) = s.places := fun j hj => (hs j (by omega)).1
  have htl : ∀ j, j < s.truths.length → ((s.truths.getD j default).2.length : Int) = s.places := fun j hj => (hs j hj).2
  clear hs
  -- the last minute
  cases q2 : inZ s.last 1 60
  · rw [snE_2 q1 (.inl q2)]
    repeat' first | ((with_reducible apply XBr.ff); conv => whnf) | (with_reducible apply XBr.not) | ((with_reducible apply XBr.dec) <;> (intro h; first | (exfalso; omega) | ((try simp only [List.length_map] at h); first | (exfalso; omega) | (conv => whnf)))) | (((refine XCall.ret (off02_c _ _ _) ?_); rw [q2]); conv => whnf) | fail
    exact XOut.int rfl
  have q2' := inZ_iff.1 q2
  repeat' first | ((with_reducible apply XBr.tt); conv => whnf) | (with_reducible apply XBr.not) | ((with_reducible apply XBr.dec) <;> (intro h; first | (exfalso; omega) | ((try simp only [List.length_map] at h); first | (exfalso; omega) | (conv => whnf)))) | (((refine XCall.ret (off02_c _ _ _) ?_); rw [q2]); conv => whnf) | fail
  -- the minutes of the ways
  refine Walk.loopK tab_ok [] [(1, _)] ⟨rfl, trivial⟩ (fun k : Nat => k ≤ s.ways.length ∧ ∀ j, j < k → inZ (s.ways.getD j default).2.2 1 20 = true) (fun k => [(4, natA k)]) (fun _ => []) (fun k => s.ways.length - k) 0 ⟨Nat.zero_le _, fun j hj => by omega⟩ rfl ⟨rfl, trivial⟩ ?_
  rintro k ⟨hk, hs⟩
  conv => whnf
  by_cases hlt : k < s.ways.length
  · cases c1 : inZ (s.ways.getD k default).2.2 1 20
    · rw [snE_2 q1 (.inr (allDf hlt c1))]
      repeat' first | ((with_reducible apply XBr.ff); conv => whnf) | (with_reducible apply XBr.not) | ((with_reducible apply XBr.dec) <;> (intro h; first | (exfalso; omega) | ((try simp only [List.length_map] at h); first | (exfalso; omega) | (conv => whnf)))) | ((first | ((with_reducible refine XIx.nat ?_ ?_ ?_); omega; (intro _; rfl)) | (refine XArr.at _ (by omega) (by omega) rfl ?_) | ((refine XCall.ret (off02_c _ _ _) ?_); rw [c1])); conv => whnf) | fail
      exact XOut.int rfl
    · skip
      repeat' first | ((with_reducible apply XBr.tt); conv => whnf) | (with_reducible apply XBr.not) | ((with_reducible apply XBr.dec) <;> (intro h; first | (exfalso; omega) | ((try simp only [List.length_map] at h); first | (exfalso; omega) | (conv => whnf)))) | ((first | (with_reducible refine XInt.i64 (by omega) (by omega) ?_) | ((with_reducible refine XIx.nat ?_ ?_ ?_); omega; (intro _; rfl)) | (refine XArr.at _ (by omega) (by omega) rfl ?_) | ((refine XCall.ret (off02_c _ _ _) ?_); rw [c1])); conv => whnf) | fail
      exact XAgain.go (k + 1) ⟨by omega, upto' hs c1⟩ (by omega) rfl ⟨rfl, rfl, trivial⟩
  obtain rfl : k = s.ways.length := by omega
  have n2 : ¬ (inZ s.last 1 60 = false ∨ s.ways.all (fun w => inZ w.2.2 1 20) = false) := by rw [q2, allE (d := default) hs]; simp
  clear hs
  repeat' first | ((with_reducible apply XBr.dec) <;> (intro h; first | (exfalso; omega) | ((try simp only [List.length_map] at h); first | (exfalso; omega) | (conv => whnf)))) | fail
  -- what is seen
  refine Walk.loopK tab_ok [] [(1, _)] ⟨rfl, trivial⟩ (fun k : Nat => k ≤ s.looks.length ∧ ∀ j, j < k → ((s.looks.getD j default).2.all fun n => inZ n 0 3) = true) (fun k => [(5, natA k)]) (fun _ => []) (fun k => s.looks.length - k) 0 ⟨Nat.zero_le _, fun j hj => by omega⟩ rfl ⟨rfl, trivial⟩ ?_
  rintro k ⟨hk, hs⟩
  conv => whnf
  by_cases hlt : k < s.looks.length
  · have hln := hkl k hlt
    repeat' first | ((with_reducible apply XBr.dec) <;> (intro h; first | (exfalso; omega) | ((try simp only [List.length_map] at h); first | (exfalso; omega) | (conv => whnf)))) | fail
    refine Walk.loopK tab_ok [] [(1, _), (5, _)] ⟨rfl, rfl, trivial⟩ (fun i : Nat => (i : Int) ≤ s.places ∧ ∀ j, j < i → inZ ((s.looks.getD k default).2.getD j default) 0 3 = true) (fun i => [(6, natA i)]) (fun _ => []) (fun i => s.places.toNat - i) 0 ⟨by omega, fun j hj => by omega⟩ rfl ⟨rfl, trivial⟩ ?_
    rintro i ⟨hi, his⟩
    conv => whnf
    by_cases hlt2 : (i : Int) < s.places
    · cases c1 : inZ ((s.looks.getD k default).2.getD i default) 0 3
      · rw [snE_3 q1 n2 (allDf hlt (allDf (by omega) c1))]
        repeat' first | ((with_reducible apply XBr.ff); conv => whnf) | (with_reducible apply XBr.not) | ((with_reducible apply XBr.dec) <;> (intro h; first | (exfalso; omega) | ((try simp only [List.length_map] at h); first | (exfalso; omega) | (conv => whnf)))) | ((first | ((with_reducible refine XIx.nat ?_ ?_ ?_); omega; (intro _; rfl)) | ((refine XCall.ret (off02_c _ _ _) ?_); rw [c1])); conv => whnf) | fail
        exact XOut.int rfl
      · skip
        repeat' first | ((with_reducible apply XBr.tt); conv => whnf) | (with_reducible apply XBr.not) | ((with_reducible apply XBr.dec) <;> (intro h; first | (exfalso; omega) | ((try simp only [List.length_map] at h); first | (exfalso; omega) | (conv => whnf)))) | ((first | (with_reducible refine XInt.i64 (by omega) (by omega) ?_) | ((with_reducible refine XIx.nat ?_ ?_ ?_); omega; (intro _; rfl)) | ((refine XCall.ret (off02_c _ _ _) ?_); rw [c1])); conv => whnf) | fail
        exact XAgain.go (i + 1) ⟨by omega, upto' his c1⟩ (by omega) rfl ⟨rfl, rfl, rfl, trivial⟩
    have hall := allE (p := fun n => inZ n 0 3) (d := default) (xs := (s.looks.getD k default).2) fun j hj => his j (by omega)
    clear his
    repeat' first | ((with_reducible apply XBr.dec) <;> (intro h; first | (exfalso; omega) | ((try simp only [List.length_map] at h); first | (exfalso; omega) | (conv => whnf)))) | ((with_reducible refine XInt.i64 (by omega) (by omega) ?_); conv => whnf) | fail
    exact XAgain.go (k + 1) ⟨by omega, upto' hs hall⟩ (by omega) rfl ⟨rfl, rfl, trivial⟩
  obtain rfl : k = s.looks.length := by omega
  have q4 : s.looks.all (fun l => l.2.all fun n => inZ n 0 3) = true := allE (d := default) hs
  clear hs
  have hpd : ∀ x, inZ x 0 (s.places - 1) = plB s x := fun _ => rfl
  -- home and bed
  cases q51 : plB s s.home
  · rw [snE_4 q1 n2 q4 (.inl q51)]
    repeat' first | ((first | (with_reducible apply XBr.tt) | (with_reducible apply XBr.ff)); conv => whnf) | (with_reducible apply XBr.not) | ((with_reducible apply XBr.dec) <;> (intro h; first | (exfalso; omega) | ((try simp only [List.length_map] at h); first | (exfalso; omega) | (conv => whnf)))) | ((first | (with_reducible refine XInt.i64 (by omega) (by omega) ?_) | ((refine XCall.ret (off02_c _ _ _) ?_); rw [hpd, q51])); conv => whnf) | fail
    exact XOut.int rfl
  cases q52 : plB s s.bed
  · rw [snE_4 q1 n2 q4 (.inr (.inl q52))]
    repeat' first | ((first | (with_reducible apply XBr.tt) | (with_reducible apply XBr.ff)); conv => whnf) | (with_reducible apply XBr.not) | ((with_reducible apply XBr.dec) <;> (intro h; first | (exfalso; omega) | ((try simp only [List.length_map] at h); first | (exfalso; omega) | (conv => whnf)))) | ((first | (with_reducible refine XInt.i64 (by omega) (by omega) ?_) | ((refine XCall.ret (off02_c _ _ _) ?_); (first | rw [hpd, q51] | rw [hpd, q52]))); conv => whnf) | fail
    exact XOut.int rfl
  repeat' first | ((first | (with_reducible apply XBr.tt) | (with_reducible apply XBr.ff)); conv => whnf) | (with_reducible apply XBr.not) | ((with_reducible apply XBr.dec) <;> (intro h; first | (exfalso; omega) | ((try simp only [List.length_map] at h); first | (exfalso; omega) | (conv => whnf)))) | ((first | (with_reducible refine XInt.i64 (by omega) (by omega) ?_) | ((refine XCall.ret (off02_c _ _ _) ?_); (first | rw [hpd, q51] | rw [hpd, q52]))); conv => whnf) | fail
  -- the places of the ways
  refine Walk.loopK tab_ok [] [(1, _)] ⟨rfl, trivial⟩ (fun k : Nat => k ≤ s.ways.length ∧ ∀ j, j < k → (plB s (s.ways.getD j default).1 && plB s (s.ways.getD j default).2.1) = true) (fun k => [(7, natA k)]) (fun _ => []) (fun k => s.ways.length - k) 0 ⟨Nat.zero_le _, fun j hj => by omega⟩ rfl ⟨rfl, trivial⟩ ?_
  rintro k ⟨hk, hs⟩
  conv => whnf
  by_cases hlt : k < s.ways.length
  · cases c1 : plB s (s.ways.getD k default).1
    · rw [snE_4 q1 n2 q4 (.inr (.inr (allDf hlt (by rw [c1]; rfl))))]
      repeat' first | ((first | (with_reducible apply XBr.tt) | (with_reducible apply XBr.ff)); conv => whnf) | (with_reducible apply XBr.not) | ((with_reducible apply XBr.dec) <;> (intro h; first | (exfalso; omega) | ((try simp only [List.length_map] at h); first | (exfalso; omega) | (conv => whnf)))) | ((first | (with_reducible refine XInt.i64 (by omega) (by omega) ?_) | ((with_reducible refine XIx.nat ?_ ?_ ?_); omega; (intro _; rfl))); conv => whnf) | (with_reducible apply XAnd.mk) | ((first | (with_reducible apply Chk.go) | (with_reducible apply ChkA.go) | (with_reducible apply ChkF.go) | (with_reducible apply ChkB.go)); conv => whnf) | (exact XSame.mk rfl rfl) | (with_reducible exact trivial) | (apply Walk.drawN (id := 28) tab_ok mixed_ok [] [] (hsU _) [_, _, _, _, _, _, _, _, _, _, _, _, _, _, _, _, _, _, _, _, _, _] (by kernel_rfl) rfl) | ((first | (with_reducible apply XNext.mk) | (refine XArr.at _ (by omega) (by omega) rfl ?_) | ((refine XCall.ret (off02_c _ _ _) ?_); rw [hpd, c1])); conv => whnf) | fail
      exact XOut.int rfl
    cases c2 : plB s (s.ways.getD k default).2.1
    · rw [snE_4 q1 n2 q4 (.inr (.inr (allDf hlt (by rw [c2, Bool.and_false]))))]
      repeat' first | ((first | (with_reducible apply XBr.tt) | (with_reducible apply XBr.ff)); conv => whnf) | (with_reducible apply XBr.not) | ((with_reducible apply XBr.dec) <;> (intro h; first | (exfalso; omega) | ((try simp only [List.length_map] at h); first | (exfalso; omega) | (conv => whnf)))) | ((first | (with_reducible refine XInt.i64 (by omega) (by omega) ?_) | ((with_reducible refine XIx.nat ?_ ?_ ?_); omega; (intro _; rfl))); conv => whnf) | (with_reducible apply XAnd.mk) | ((first | (with_reducible apply Chk.go) | (with_reducible apply ChkA.go) | (with_reducible apply ChkF.go) | (with_reducible apply ChkB.go)); conv => whnf) | (exact XSame.mk rfl rfl) | (with_reducible exact trivial) | (apply Walk.drawN (id := 28) tab_ok mixed_ok [] [] (hsU _) [_, _, _, _, _, _, _, _, _, _, _, _, _, _, _, _, _, _, _, _, _, _] (by kernel_rfl) rfl) | ((first | (with_reducible apply XNext.mk) | (refine XArr.at _ (by omega) (by omega) rfl ?_) | ((refine XCall.ret (off02_c _ _ _) ?_); (first | rw [hpd, c1] | rw [hpd, c2]))); conv => whnf) | fail
      exact XOut.int rfl
    repeat' first | ((with_reducible apply XBr.tt); conv => whnf) | (with_reducible apply XBr.not) | ((with_reducible apply XBr.dec) <;> (intro h; first | (exfalso; omega) | ((try simp only [List.length_map] at h); first | (exfalso; omega) | (conv => whnf)))) | ((first | (with_reducible refine XInt.i64 (by omega) (by omega) ?_) | ((with_reducible refine XIx.nat ?_ ?_ ?_); omega; (intro _; rfl))); conv => whnf) | (with_reducible apply XAnd.mk) | ((first | (with_reducible apply Chk.go) | (with_reducible apply ChkA.go) | (with_reducible apply ChkF.go) | (with_reducible apply ChkB.go)); conv => whnf) | (exact XSame.mk rfl rfl) | (with_reducible exact trivial) | (apply Walk.drawN (id := 28) tab_ok mixed_ok [] [] (hsU _) [_, _, _, _, _, _, _, _, _, _, _, _, _, _, _, _, _, _, _, _, _, _] (by kernel_rfl) rfl) | ((first | (with_reducible apply XNext.mk) | (refine XArr.at _ (by omega) (by omega) rfl ?_) | ((refine XCall.ret (off02_c _ _ _) ?_); (first | rw [hpd, c1] | rw [hpd, c2]))); conv => whnf) | fail
    exact XAgain.go (k + 1) ⟨by omega, upto' hs (by rw [c1, c2]; rfl)⟩ (by omega) rfl ⟨rfl, rfl, trivial⟩
  obtain rfl : k = s.ways.length := by omega
  have n5 : ¬ (plB s s.home = false ∨ plB s s.bed = false ∨ s.ways.all (fun w => plB s w.1 && plB s w.2.1) = false) := by rw [q51, q52, allE (d := default) hs]; simp
  clear hs
  by_cases q6 : s.home = s.bed
  · rw [snE_5 q1 n2 q4 n5 q6]
    repeat' first | ((with_reducible apply XBr.dec) <;> (intro h; first | (exfalso; omega) | ((try simp only [List.length_map] at h); first | (exfalso; omega) | (conv => whnf)))) | ((with_reducible apply XBr.beq) <;> (intro h; first | (exfalso; omega) | (conv => whnf))) | fail
    exact XOut.int rfl
  repeat' first | ((with_reducible apply XBr.dec) <;> (intro h; first | (exfalso; omega) | ((try simp only [List.length_map] at h); first | (exfalso; omega) | (conv => whnf)))) | ((with_reducible apply XBr.beq) <;> (intro h; first | (exfalso; omega) | (conv => whnf))) | fail
  -- ways that come again
  refine Walk.loopK tab_ok [] [(1, _)] ⟨rfl, trivial⟩ (fun k : Nat => k ≤ s.ways.length ∧ ∀ j, j < k → agnI s j = false) (fun k => [(8, natA k)]) (fun _ => []) (fun k => s.ways.length - k) 0 ⟨Nat.zero_le _, fun j hj => by omega⟩ rfl ⟨rfl, trivial⟩ ?_
  rintro k ⟨hk, hs⟩
  conv => whnf
  by_cases hlt : k < s.ways.length
  · have hag : agnI s k = ((s.ways.getD k default).1 == (s.ways.getD k default).2.1 || (s.ways.take k).any fun x => leadB x (s.ways.getD k default).1 (s.ways.getD k default).2.1) := rfl
    have hE : agnI s k = true → snE s = 5 := fun h => snE_6 q1 n2 q4 n5 q6 (by unfold agnB; rw [List.any_eq_true]; exact ⟨k, List.mem_range.2 hlt, h⟩)
    by_cases c1 : (s.ways.getD k default).1 = (s.ways.getD k default).2.1
    · rw [hE (by rw [hag, beq_iff_eq.2 c1]; rfl)]
      repeat' first | ((with_reducible apply XBr.dec) <;> (intro h; first | (exfalso; omega) | ((try simp only [List.length_map] at h); first | (exfalso; omega) | (conv => whnf)))) | ((with_reducible apply XBr.beq) <;> (intro h; first | (exfalso; omega) | (conv => whnf))) | (((with_reducible refine XIx.nat ?_ ?_ ?_); omega; (intro _; rfl)); conv => whnf) | (with_reducible apply XAnd.mk) | ((first | (with_reducible apply Chk.go) | (with_reducible apply ChkA.go) | (with_reducible apply ChkF.go) | (with_reducible apply ChkB.go)); conv => whnf) | (exact XSame.mk rfl rfl) | (with_reducible exact trivial) | (apply Walk.drawN (id := 35) tab_ok mixed_ok [] [] (hsU _) [_, _, _, _, _, _, _, _, _, _, _, _, _] (by kernel_rfl) rfl) | ((first | (with_reducible apply XNext.mk) | (refine XArr.at _ (by omega) (by omega) rfl ?_)); conv => whnf) | fail
      exact XOut.int rfl
    rw [beq_eq_false_iff_ne.2 c1, Bool.false_or] at hag
    repeat' first | ((with_reducible apply XBr.dec) <;> (intro h; first | (exfalso; omega) | ((try simp only [List.length_map] at h); first | (exfalso; omega) | (conv => whnf)))) | ((with_reducible apply XBr.beq) <;> (intro h; first | (exfalso; omega) | (conv => whnf))) | (((with_reducible refine XIx.nat ?_ ?_ ?_); omega; (intro _; rfl)); conv => whnf) | (with_reducible apply XAnd.mk) | ((first | (with_reducible apply Chk.go) | (with_reducible apply ChkA.go) | (with_reducible apply ChkF.go) | (with_reducible apply ChkB.go)); conv => whnf) | (exact XSame.mk rfl rfl) | (with_reducible exact trivial) | (apply Walk.drawN (id := 35) tab_ok mixed_ok [] [] (hsU _) [_, _, _, _, _, _, _, _, _, _, _, _, _] (by kernel_rfl) rfl) | ((first | (with_reducible apply XNext.mk) | (refine XArr.at _ (by omega) (by omega) rfl ?_)); conv => whnf) | fail
    refine Walk.loopK tab_ok [] [(1, _), (8, _)] ⟨rfl, rfl, trivial⟩ (fun i : Nat => i ≤ k ∧ ∀ j, j < i → leadB (s.ways.getD j default) (s.ways.getD k default).1 (s.ways.getD k default).2.1 = false) (fun i => [(9, natA i)]) (fun _ => []) (fun i => k - i) 0 ⟨Nat.zero_le _, fun j hj => by omega⟩ rfl ⟨rfl, trivial⟩ ?_
    rintro i ⟨hi, his⟩
    conv => whnf
    by_cases hlt2 : i < k
    · have hld := leads_c (s.ways.getD i default) (s.ways.getD k default).1 (s.ways.getD k default).2.1
      cases c2 : leadB (s.ways.getD i default) (s.ways.getD k default).1 (s.ways.getD k default).2.1
      · rw [c2] at hld
        repeat' first | ((with_reducible apply XBr.ff); conv => whnf) | ((with_reducible apply XBr.dec) <;> (intro h; first | (exfalso; omega) | ((try simp only [List.length_map] at h); first | (exfalso; omega) | (conv => whnf)))) | ((first | (with_reducible refine XInt.i64 (by omega) (by omega) ?_) | ((with_reducible refine XIx.nat ?_ ?_ ?_); omega; (intro _; rfl))); conv => whnf) | (with_reducible apply XAnd.mk) | ((first | (with_reducible apply Chk.go) | (with_reducible apply ChkA.go) | (with_reducible apply ChkF.go) | (with_reducible apply ChkB.go)); conv => whnf) | (exact XSame.mk rfl rfl) | (with_reducible exact trivial) | (apply Walk.drawN (id := 40) tab_ok mixed_ok [] [] (hsU _) [_, _, _, _, _, _, _, _, _, _, _, _, _, _, _, _, _, _] (by kernel_rfl) rfl) | ((first | (with_reducible apply XNext.mk) | (refine XArr.at _ (by omega) (by omega) rfl ?_) | (refine XCall.ret hld ?_)); conv => whnf) | fail
        exact XAgain.go (i + 1) ⟨by omega, upto' his c2⟩ (by omega) rfl ⟨rfl, rfl, rfl, trivial⟩
      · rw [c2] at hld
        rw [hE (by rw [hag]; exact any_take_t hlt2 (by omega) c2)]
        repeat' first | ((with_reducible apply XBr.tt); conv => whnf) | ((with_reducible apply XBr.dec) <;> (intro h; first | (exfalso; omega) | ((try simp only [List.length_map] at h); first | (exfalso; omega) | (conv => whnf)))) | (((with_reducible refine XIx.nat ?_ ?_ ?_); omega; (intro _; rfl)); conv => whnf) | (with_reducible apply XAnd.mk) | ((first | (with_reducible apply Chk.go) | (with_reducible apply ChkA.go) | (with_reducible apply ChkF.go) | (with_reducible apply ChkB.go)); conv => whnf) | (exact XSame.mk rfl rfl) | (with_reducible exact trivial) | (apply Walk.drawN (id := 40) tab_ok mixed_ok [] [] (hsU _) [_, _, _, _, _, _, _, _, _, _, _, _, _, _, _, _, _, _] (by kernel_rfl) rfl) | ((first | (with_reducible apply XNext.mk) | (refine XArr.at _ (by omega) (by omega) rfl ?_) | (refine XCall.ret hld ?_)); conv => whnf) | fail
        exact XOut.int rfl
    obtain rfl : i = k := by omega
    have hno : agnI s i = false := by rw [hag]; exact any_take_f hk his
    clear his
    repeat' first | ((with_reducible apply XBr.dec) <;> (intro h; first | (exfalso; omega) | ((try simp only [List.length_map] at h); first | (exfalso; omega) | (conv => whnf)))) | ((with_reducible refine XInt.i64 (by omega) (by omega) ?_); conv => whnf) | fail
    exact XAgain.go (i + 1) ⟨by omega, upto' hs hno⟩ (by omega) rfl ⟨rfl, rfl, trivial⟩
  obtain rfl : k = s.ways.length := by omega
  have q7 : agnB s = false := by
    unfold agnB
    rw [List.any_eq_false]
    intro i hi
    rw [hs i (List.mem_range.1 hi)]; simp
  rw [snE_7 q1 n2 q4 n5 q6 q7]
  clear hs
  repeat' first | ((with_reducible apply XBr.dec) <;> (intro h; first | (exfalso; omega) | ((try simp only [List.length_map] at h); first | (exfalso; omega) | (conv => whnf)))) | fail
  -- the spans
  refine Walk.loopK tab_ok [] [(1, _)] ⟨rfl, trivial⟩ (fun k : Nat => k ≤ s.truths.length ∧ ∀ j, j < k → trE s (s.truths.getD j default) = 0) (fun k => [(10, natA k)]) (fun _ => []) (fun k => s.truths.length - k) 0 ⟨Nat.zero_le _, fun j hj => by omega⟩ rfl ⟨rfl, trivial⟩ ?_
  rintro k ⟨hk, hs⟩
  conv => whnf
  by_cases hlt : k < s.truths.length
  · have hmem : s.truths.getD k default ∈ s.truths := getD_mem hlt
    have htk := htl k hlt
    have hE : trE s (s.truths.getD k default) ≠ 0 → firstE (s.truths.map (trE s)) = trE s (s.truths.getD k default) := firstE_at hlt hs
    have e4 : (((s.truths.getD k default).2.map spsA).length : Int) = (s.truths.getD k default).2.length := by rw [List.length_map]
    repeat' first | ((with_reducible apply XBr.dec) <;> (intro h; first | (exfalso; omega) | ((try simp only [List.length_map] at h); first | (exfalso; omega) | (conv => whnf)))) | fail
    refine Walk.loopK tab_ok [] [(1, _), (10, _)] ⟨rfl, rfl, trivial⟩ (fun p : Nat => (p : Int) ≤ s.places ∧ ∀ j, j < p → spE s.last none ((s.truths.getD k default).2.getD j default).2 = 0) (fun p => [(11, natA p)]) (fun _ => []) (fun p => s.places.toNat - p) 0 ⟨by omega, fun j hj => by omega⟩ rfl ⟨rfl, trivial⟩ ?_
    rintro p ⟨hp, hps⟩
    conv => whnf
    by_cases hlt2 : (p : Int) < s.places
    · have hltp : p < (s.truths.getD k default).2.length := by omega
      have hsl := hb.sl _ hmem _ (getD_mem (d := default) hltp)
      have hE2 : spE s.last none ((s.truths.getD k default).2.getD p default).2 ≠ 0 → firstE (s.truths.map (trE s)) = spE s.last none ((s.truths.getD k default).2.getD p default).2 := fun h => by
        have h1 : trE s (s.truths.getD k default) = spE s.last none ((s.truths.getD k default).2.getD p default).2 := firstE_at (f := fun r : Sps => spE s.last none r.2) hltp hps h
        rw [hE (by rw [h1]; exact h), h1]
      have hgo : spE s.last none ((s.truths.getD k default).2.getD p default).2 = 0 → ∀ j, j < p + 1 → spE s.last none ((s.truths.getD k default).2.getD j default).2 = 0 := fun h => upto' hps h
      have e5 : ((((s.truths.getD k default).2.getD p default).2.map sgA).length : Int) = ((s.truths.getD k default).2.getD p default).2.length := by rw [List.length_map]
      repeat' first | ((with_reducible apply XBr.dec) <;> (intro h; first | (exfalso; omega) | ((try simp only [List.length_map] at h); first | (exfalso; omega) | (conv => whnf)))) | (((with_reducible refine XIx.nat ?_ ?_ ?_); omega; (intro _; rfl)); conv => whnf) | fail
      generalize (s.truths.getD k default).2.getD p default = r at hsl hE2 hgo e5
      refine Walk.loopK tab_ok [] [(1, _), (10, _), (11, _), (12, _)] ⟨rfl, rfl, rfl, rfl, trivial⟩ (fun i : Nat => i ≤ r.2.length ∧ spE s.last none r.2 = spE s.last (pvO r.2 i) (r.2.drop i) ∧ ∀ j, j < i → (r.2.getD j default).2 ≤ 60 ∧ 0 ≤ (r.2.getD j default).2) (fun i => [(13, natA i)]) (fun _ => []) (fun i => r.2.length - i) 0 ⟨Nat.zero_le _, rfl, fun j hj => by omega⟩ rfl ⟨rfl, trivial⟩ ?_
      rintro i ⟨hi, his, hbd⟩
      conv => whnf
      by_cases hlt3 : i < r.2.length
      · rw [drop_next hlt3, spE] at his
        have hw := fun x => off02_c x 0 s.last
        by_cases c1 : inZ (r.2.getD i default).1 0 s.last = true
        · by_cases c2 : inZ (r.2.getD i default).2 0 s.last = true
          · by_cases c3 : (r.2.getD i default).2 < (r.2.getD i default).1
            · have hbad : (inZ (r.2.getD i default).1 0 s.last && inZ (r.2.getD i default).2 (r.2.getD i default).1 s.last) = false := by
                rw [← Bool.not_eq_true, Bool.and_eq_true, inZ_iff, inZ_iff]; omega
              rw [if_pos hbad] at his
              rw [hE2 (by rw [his]; decide), his]
              repeat' first | ((with_reducible apply XBr.tt); conv => whnf) | (with_reducible apply XBr.not) | ((with_reducible apply XBr.dec) <;> (intro h; first | (exfalso; omega) | ((try simp only [List.length_map] at h); first | (exfalso; omega) | (conv => whnf)))) | (((with_reducible refine XIx.nat ?_ ?_ ?_); omega; (intro _; rfl)); conv => whnf) | (with_reducible apply XAnd.mk) | ((first | (with_reducible apply Chk.go) | (with_reducible apply ChkA.go) | (with_reducible apply ChkF.go) | (with_reducible apply ChkB.go)); conv => whnf) | (exact XSame.mk rfl rfl) | (with_reducible exact trivial) | (apply Walk.drawN (id := 52) tab_ok mixed_ok [] [] (hsU _) [_, _, _, _, _, _, _, _, _, _, _, _, _, _, _, _, _, _, _, _, _, _, _, _, _, _, _, _, _, _, _] (by kernel_rfl) rfl) | ((first | (with_reducible apply XNext.mk) | ((refine XCall.ret (hw _) ?_); (first | rw [c1] | rw [c2]))); conv => whnf) | fail
              exact XOut.int rfl
            · have hgd : (inZ (r.2.getD i default).1 0 s.last && inZ (r.2.getD i default).2 (r.2.getD i default).1 s.last) = true := by
                rw [inZ_iff] at c1 c2
                rw [Bool.and_eq_true, inZ_iff, inZ_iff]; omega
              have c2' := inZ_iff.1 c2
              have hbd2 := upto' hbd (show (r.2.getD i default).2 ≤ 60 ∧ 0 ≤ (r.2.getD i default).2 by omega)
              rw [if_neg (by rw [hgd]; simp)] at his
              rcases Nat.eq_zero_or_pos i with rfl | hi0
              · rw [show spBad (pvO r.2 0) (r.2.getD 0 default).1 = false from rfl, if_neg (by simp)] at his
                repeat' first | ((first | (with_reducible apply XBr.tt) | (with_reducible apply XBr.ff)); conv => whnf) | (with_reducible apply XBr.not) | ((with_reducible apply XBr.dec) <;> (intro h; first | (exfalso; omega) | ((try simp only [List.length_map] at h); first | (exfalso; omega) | (conv => whnf)))) | ((first | (with_reducible refine XInt.i64 (by omega) (by omega) ?_) | ((with_reducible refine XIx.nat ?_ ?_ ?_); omega; (intro _; rfl))); conv => whnf) | (with_reducible apply XAnd.mk) | ((first | (with_reducible apply Chk.go) | (with_reducible apply ChkA.go) | (with_reducible apply ChkF.go) | (with_reducible apply ChkB.go)); conv => whnf) | (exact XSame.mk rfl rfl) | (with_reducible exact trivial) | (apply Walk.drawN (id := 52) tab_ok mixed_ok [] [] (hsU _) [_, _, _, _, _, _, _, _, _, _, _, _, _, _, _, _, _, _, _, _, _, _, _, _, _, _, _, _, _, _, _] (by kernel_rfl) rfl) | (apply Walk.drawN (id := 54) tab_ok mixed_ok [] [] (hsU _) [_, _, _, _, _, _, _, _, _, _, _, _, _, _, _, _, _] (by kernel_rfl) rfl) | ((first | (with_reducible apply XNext.mk) | ((refine XCall.ret (hw _) ?_); (first | rw [c1] | rw [c2]))); conv => whnf) | fail
                exact XAgain.go 1 ⟨by omega, his, hbd2⟩ (by omega) rfl ⟨rfl, rfl, rfl, rfl, rfl, trivial⟩
              · have hpv := hbd ((i : Int) - 1).toNat (by omega)
                have hq : spBad (pvO r.2 i) (r.2.getD i default).1 = decide ((r.2.getD i default).1 ≤ (r.2.getD ((i : Int) - 1).toNat default).2 + 1) := by
                  obtain ⟨q, rfl⟩ : ∃ q, i = q + 1 := ⟨i - 1, by omega⟩
                  rw [show (((q + 1 : Nat) : Int) - 1).toNat = q by omega]; rfl
                rw [hq] at his
                by_cases c4 : (r.2.getD i default).1 ≤ (r.2.getD ((i : Int) - 1).toNat default).2 + 1
                · rw [if_pos (decide_eq_true c4)] at his
                  rw [hE2 (by rw [his]; decide), his]
                  repeat' first | ((with_reducible apply XBr.tt); conv => whnf) | (with_reducible apply XBr.not) | ((with_reducible apply XBr.dec) <;> (intro h; first | (exfalso; omega) | ((try simp only [List.length_map] at h); first | (exfalso; omega) | (conv => whnf)))) | ((first | (with_reducible refine XInt.i64 (by omega) (by omega) ?_) | ((with_reducible refine XIx.nat ?_ ?_ ?_); omega; (intro _; rfl)) | ((with_reducible refine XIx.map ?_ ?_ ?_ ?_); omega; omega; (intro _; rfl))); conv => whnf) | (with_reducible apply XAnd.mk) | ((first | (with_reducible apply Chk.go) | (with_reducible apply ChkA.go) | (with_reducible apply ChkF.go) | (with_reducible apply ChkB.go)); conv => whnf) | (exact XSame.mk rfl rfl) | (with_reducible exact trivial) | (apply Walk.drawN (id := 52) tab_ok mixed_ok [] [] (hsU _) [_, _, _, _, _, _, _, _, _, _, _, _, _, _, _, _, _, _, _, _, _, _, _, _, _, _, _, _, _, _, _] (by kernel_rfl) rfl) | (apply Walk.drawN (id := 54) tab_ok mixed_ok [] [] (hsU _) [_, _, _, _, _, _, _, _, _, _, _, _, _, _, _, _, _] (by kernel_rfl) rfl) | ((first | (with_reducible apply XNext.mk) | ((refine XCall.ret (hw _) ?_); (first | rw [c1] | rw [c2]))); conv => whnf) | fail
                  exact XOut.int rfl
                · rw [if_neg (by simpa using c4)] at his
                  repeat' first | ((with_reducible apply XBr.tt); conv => whnf) | (with_reducible apply XBr.not) | ((with_reducible apply XBr.dec) <;> (intro h; first | (exfalso; omega) | ((try simp only [List.length_map] at h); first | (exfalso; omega) | (conv => whnf)))) | ((first | (with_reducible refine XInt.i64 (by omega) (by omega) ?_) | ((with_reducible refine XIx.nat ?_ ?_ ?_); omega; (intro _; rfl)) | ((with_reducible refine XIx.map ?_ ?_ ?_ ?_); omega; omega; (intro _; rfl))); conv => whnf) | (with_reducible apply XAnd.mk) | ((first | (with_reducible apply Chk.go) | (with_reducible apply ChkA.go) | (with_reducible apply ChkF.go) | (with_reducible apply ChkB.go)); conv => whnf) | (exact XSame.mk rfl rfl) | (with_reducible exact trivial) | (apply Walk.drawN (id := 52) tab_ok mixed_ok [] [] (hsU _) [_, _, _, _, _, _, _, _, _, _, _, _, _, _, _, _, _, _, _, _, _, _, _, _, _, _, _, _, _, _, _] (by kernel_rfl) rfl) | (apply Walk.drawN (id := 54) tab_ok mixed_ok [] [] (hsU _) [_, _, _, _, _, _, _, _, _, _, _, _, _, _, _, _, _] (by kernel_rfl) rfl) | ((first | (with_reducible apply XNext.mk) | ((refine XCall.ret (hw _) ?_); (first | rw [c1] | rw [c2]))); conv => whnf) | fail
                  exact XAgain.go (i + 1) ⟨by omega, his, hbd2⟩ (by omega) rfl ⟨rfl, rfl, rfl, rfl, rfl, trivial⟩
          · have c2f : inZ (r.2.getD i default).2 0 s.last = false := by simpa using c2
            have hbad : (inZ (r.2.getD i default).1 0 s.last && inZ (r.2.getD i default).2 (r.2.getD i default).1 s.last) = false := by
              rw [inZ_iff] at c1 c2
              rw [← Bool.not_eq_true, Bool.and_eq_true, inZ_iff, inZ_iff]; omega
            rw [if_pos hbad] at his
            rw [hE2 (by rw [his]; decide), his]
            repeat' first | ((first | (with_reducible apply XBr.tt) | (with_reducible apply XBr.ff)); conv => whnf) | (with_reducible apply XBr.not) | ((with_reducible apply XBr.dec) <;> (intro h; first | (exfalso; omega) | ((try simp only [List.length_map] at h); first | (exfalso; omega) | (conv => whnf)))) | (((with_reducible refine XIx.nat ?_ ?_ ?_); omega; (intro _; rfl)); conv => whnf) | (with_reducible apply XAnd.mk) | ((first | (with_reducible apply Chk.go) | (with_reducible apply ChkA.go) | (with_reducible apply ChkF.go) | (with_reducible apply ChkB.go)); conv => whnf) | (exact XSame.mk rfl rfl) | (with_reducible exact trivial) | (apply Walk.drawN (id := 52) tab_ok mixed_ok [] [] (hsU _) [_, _, _, _, _, _, _, _, _, _, _, _, _, _, _, _, _, _, _, _, _, _, _, _, _, _, _, _, _, _, _] (by kernel_rfl) rfl) | ((first | (with_reducible apply XNext.mk) | ((refine XCall.ret (hw _) ?_); (first | rw [c1] | rw [c2f]))); conv => whnf) | fail
            exact XOut.int rfl
        · have c1f : inZ (r.2.getD i default).1 0 s.last = false := by simpa using c1
          rw [if_pos (by rw [c1f]; rfl)] at his
          rw [hE2 (by rw [his]; decide), his]
          repeat' first | ((first | (with_reducible apply XBr.tt) | (with_reducible apply XBr.ff)); conv => whnf) | (with_reducible apply XBr.not) | ((with_reducible apply XBr.dec) <;> (intro h; first | (exfalso; omega) | ((try simp only [List.length_map] at h); first | (exfalso; omega) | (conv => whnf)))) | (((with_reducible refine XIx.nat ?_ ?_ ?_); omega; (intro _; rfl)); conv => whnf) | (with_reducible apply XAnd.mk) | ((first | (with_reducible apply Chk.go) | (with_reducible apply ChkA.go) | (with_reducible apply ChkF.go) | (with_reducible apply ChkB.go)); conv => whnf) | (exact XSame.mk rfl rfl) | (with_reducible exact trivial) | (apply Walk.drawN (id := 52) tab_ok mixed_ok [] [] (hsU _) [_, _, _, _, _, _, _, _, _, _, _, _, _, _, _, _, _, _, _, _, _, _, _, _, _, _, _, _, _, _, _] (by kernel_rfl) rfl) | ((first | (with_reducible apply XNext.mk) | ((refine XCall.ret (hw _) ?_); rw [c1f])); conv => whnf) | fail
          exact XOut.int rfl
      obtain rfl : i = r.2.length := by omega
      rw [List.drop_length, spE] at his
      clear hbd
      repeat' first | ((with_reducible apply XBr.dec) <;> (intro h; first | (exfalso; omega) | ((try simp only [List.length_map] at h); first | (exfalso; omega) | (conv => whnf)))) | ((with_reducible refine XInt.i64 (by omega) (by omega) ?_); conv => whnf) | fail
      exact XAgain.go (p + 1) ⟨by omega, hgo his⟩ (by omega) rfl ⟨rfl, rfl, rfl, trivial⟩
    have h0 : trE s (s.truths.getD k default) = 0 := firstE_none (f := fun r : Sps => spE s.last none r.2) (d := default) fun j hj => hps j (by omega)
    clear hps
    repeat' first | ((with_reducible apply XBr.dec) <;> (intro h; first | (exfalso; omega) | ((try simp only [List.length_map] at h); first | (exfalso; omega) | (conv => whnf)))) | ((with_reducible refine XInt.i64 (by omega) (by omega) ?_); conv => whnf) | fail
    exact XAgain.go (k + 1) ⟨by omega, upto' hs h0⟩ (by omega) rfl ⟨rfl, rfl, trivial⟩
  obtain rfl : k = s.truths.length := by omega
  have h0 := firstE_none hs
  rw [h0]
  clear hs
  repeat' first | ((with_reducible apply XBr.dec) <;> (intro h; first | (exfalso; omega) | ((try simp only [List.length_map] at h); first | (exfalso; omega) | (conv => whnf)))) | fail
  exact XOut.int rfl
end GA
end

section
namespace GA
open Go Go.RowKit Go.Proofs
set_option pp.deepTerms true
set_option maxRecDepth 8000
set_option linter.unusedVariables false
set_option linter.unusedSimpArgs false

theorem rStated_c (s : Sn) (hb : SnB s) (p m l : Int) : Comp Try.prog 34 [rsA s, xA p m l] (.int .i64 (sttE s p m l)) := by
  have hck := rCheck_c s hb
  by_cases h0 : snE s = 0
  · have ok := snE_iff.1 h0
    have p1 := ok.p1; have p2 := ok.p2; have t2 := ok.t2
    have ha := rAll_c s (by omega)
    have he : sttE s p m l = if plB s p = false then 1 else if inZ m 0 s.last = false ∨ inZ l 1 (allN s) = false then 3 else 0 := by unfold sttE; rw [if_neg (fun e => e h0)]
    have hpd : inZ p 0 (s.places - 1) = plB s p := rfl
    rw [he]
    rw [h0] at hck
    cases h1 : plB s p with
    | false =>
      rw [if_pos rfl]
      refine Comp.body (T := tab) (res := [.tmp 4]) tab_ok [] Try.func34 rfl (by kernel_rfl) Try.ntmps34 rfl (by simp only [List.length_cons, List.length_nil]; decide) (by simp only [lowL, rsL, xL]; rfl) ?_; conv => whnf
      repeat' first | ((with_reducible apply XBr.ff); conv => whnf) | (with_reducible apply XBr.not) | ((with_reducible apply XBr.bne) <;> (intro h; first | (exfalso; omega) | (conv => whnf))) | ((first | (with_reducible refine XInt.i64 (by omega) (by omega) ?_) | (refine XCall.ret hck ?_) | ((refine XCall.ret (off02_c _ _ _) ?_); rw [hpd, h1])); conv => whnf) | fail
      exact XOut.int rfl
    | true =>
      rw [if_neg (by simp)]
      cases h2 : inZ m 0 s.last with
      | false =>
        rw [if_pos (.inl rfl)]
        refine Comp.body (T := tab) (res := [.tmp 4]) tab_ok [] Try.func34 rfl (by kernel_rfl) Try.ntmps34 rfl (by simp only [List.length_cons, List.length_nil]; decide) (by simp only [lowL, rsL, xL]; rfl) ?_; conv => whnf
        repeat' first | ((first | (with_reducible apply XBr.tt) | (with_reducible apply XBr.ff)); conv => whnf) | (with_reducible apply XBr.not) | ((with_reducible apply XBr.bne) <;> (intro h; first | (exfalso; omega) | (conv => whnf))) | ((with_reducible refine XInt.i64 (by omega) (by omega) ?_); conv => whnf) | (with_reducible apply XAnd.mk) | ((first | (with_reducible apply Chk.go) | (with_reducible apply ChkA.go) | (with_reducible apply ChkF.go) | (with_reducible apply ChkB.go)); conv => whnf) | (exact XSame.mk rfl rfl) | (with_reducible exact trivial) | (apply Walk.drawN (id := 6) tab_ok mixed_ok [] [] (hsU _) [_, _, _, _, _, _, _, _, _, _, _, _] (by kernel_rfl) rfl) | ((first | (with_reducible apply XNext.mk) | (refine XCall.ret hck ?_) | ((refine XCall.ret (off02_c _ _ _) ?_); (first | rw [hpd, h1] | rw [h2]))); conv => whnf) | fail
        exact XOut.int rfl
      | true =>
        cases h3 : inZ l 1 (allN s) with
        | false =>
          rw [if_pos (.inr rfl)]
          refine Comp.body (T := tab) (res := [.tmp 4]) tab_ok [] Try.func34 rfl (by kernel_rfl) Try.ntmps34 rfl (by simp only [List.length_cons, List.length_nil]; decide) (by simp only [lowL, rsL, xL]; rfl) ?_; conv => whnf
          repeat' first | ((first | (with_reducible apply XBr.tt) | (with_reducible apply XBr.ff)); conv => whnf) | (with_reducible apply XBr.not) | ((with_reducible apply XBr.bne) <;> (intro h; first | (exfalso; omega) | (conv => whnf))) | ((with_reducible refine XInt.i64 (by omega) (by omega) ?_); conv => whnf) | (with_reducible apply XAnd.mk) | ((first | (with_reducible apply Chk.go) | (with_reducible apply ChkA.go) | (with_reducible apply ChkF.go) | (with_reducible apply ChkB.go)); conv => whnf) | (exact XSame.mk rfl rfl) | (with_reducible exact trivial) | (apply Walk.drawN (id := 6) tab_ok mixed_ok [] [] (hsU _) [_, _, _, _, _, _, _, _, _, _, _, _] (by kernel_rfl) rfl) | ((first | (with_reducible apply XNext.mk) | (refine XCall.ret hck ?_) | ((refine XCall.ret (off02_c _ _ _) ?_); (first | rw [hpd, h1] | rw [h2] | rw [h3])) | (refine XCall.ret ha ?_)); conv => whnf) | fail
          exact XOut.int rfl
        | true =>
          rw [if_neg (by simp)]
          refine Comp.body (T := tab) (res := [.tmp 4]) tab_ok [] Try.func34 rfl (by kernel_rfl) Try.ntmps34 rfl (by simp only [List.length_cons, List.length_nil]; decide) (by simp only [lowL, rsL, xL]; rfl) ?_; conv => whnf
          repeat' first | ((with_reducible apply XBr.tt); conv => whnf) | (with_reducible apply XBr.not) | ((with_reducible apply XBr.bne) <;> (intro h; first | (exfalso; omega) | (conv => whnf))) | ((with_reducible refine XInt.i64 (by omega) (by omega) ?_); conv => whnf) | (with_reducible apply XAnd.mk) | ((first | (with_reducible apply Chk.go) | (with_reducible apply ChkA.go) | (with_reducible apply ChkF.go) | (with_reducible apply ChkB.go)); conv => whnf) | (exact XSame.mk rfl rfl) | (with_reducible exact trivial) | (apply Walk.drawN (id := 6) tab_ok mixed_ok [] [] (hsU _) [_, _, _, _, _, _, _, _, _, _, _, _] (by kernel_rfl) rfl) | ((first | (with_reducible apply XNext.mk) | (refine XCall.ret hck ?_) | ((refine XCall.ret (off02_c _ _ _) ?_); (first | rw [hpd, h1] | rw [h2] | rw [h3])) | (refine XCall.ret ha ?_)); conv => whnf) | fail
          exact XOut.int rfl
  · have he : sttE s p m l = snE s := by unfold sttE; rw [if_pos h0]
    rw [he]
    generalize snE s = e at h0 hck
    refine Comp.body (T := tab) (res := [.tmp 4]) tab_ok [] Try.func34 rfl (by kernel_rfl) Try.ntmps34 rfl (by simp only [List.length_cons, List.length_nil]; decide) (by simp only [lowL, rsL, xL]; rfl) ?_; conv => whnf
    repeat' first | ((with_reducible apply XBr.bne) <;> (intro h; first | (exfalso; omega) | (conv => whnf))) | ((refine XCall.ret hck ?_); conv => whnf) | fail
    exact XOut.int rfl
theorem own_B {s : Sn} (hb : SnB s) : SnB (ownS s) := by
  refine ⟨hb.w, ?_, ?_, fun r hr => ?_, fun t ht => ?_, fun t ht r hr => ?_⟩
  · show (s.looks.map ownR).length ≤ 1000; rw [List.length_map]; exact hb.k
  · show (s.truths.map ownT).length ≤ 1000; rw [List.length_map]; exact hb.t
  · obtain ⟨r', h1, rfl⟩ := List.mem_map.1 (show r ∈ s.looks.map ownR from hr); exact hb.kl r' h1
  · obtain ⟨t', h1, rfl⟩ := List.mem_map.1 (show t ∈ s.truths.map ownT from ht)
    show (t'.2.map fun r => (false, r.2)).length ≤ 1000
    rw [List.length_map]; exact hb.tl t' h1
  · obtain ⟨t', h1, rfl⟩ := List.mem_map.1 (show t ∈ s.truths.map ownT from ht)
    obtain ⟨r', h2, rfl⟩ := List.mem_map.1 (show r ∈ t'.2.map fun r => (false, r.2) from hr)
    exact hb.sl t' h1 r' h2
theorem SnEq.plB {s u : Sn} (e : SnEq s u) (p : Int) : GA.plB s p = GA.plB u p := by unfold GA.plB; rw [e.places]
theorem SnEq.sttE {s u : Sn} (e : SnEq s u) (p m l : Int) : GA.sttE s p m l = GA.sttE u p m l := by unfold GA.sttE; rw [e.err, e.plB, e.last, e.allN]
theorem SnEq.dryE {s u : Sn} (e : SnEq s u) (p m : Int) : GA.dryE s p m = GA.dryE u p m := by unfold GA.dryE; rw [e.err, e.plB, e.last]
theorem SnEq.seenE {s u : Sn} (e : SnEq s u) (p l : Int) : GA.seenE s p l = GA.seenE u p l := by unfold GA.seenE; rw [e.err, e.plB, e.allN]
theorem nat_ints (L : List Nat) : L.map natA = ints (L.map fun n : Nat => (n : Int)) := by unfold ints; rw [List.map_map]; rfl
theorem eqN (n1 n2 : Bool) (L : List Nat) (h : L.length ≤ 1000) : Comp Try.prog 39 [.sl n1 (L.map natA), .sl n2 (L.map natA)] (.bool true) := by
  rw [nat_ints]; exact eqI n1 n2 _ (by rw [List.length_map]; omega)
def rsZ : List AV := [.int .i64 0, .int .i64 0, .int .i64 0, .int .i64 0, .sl true [], .sl true [], .sl true []]
set_option maxHeartbeats 8000000 in
theorem fordSands_c (s : Sn) (p m l : Int) : Comp Try.prog 5 [snA s, .int .i64 p, .int .i64 m, .int .i64 l] (.bool true) := by
  have e0 : (((([] : List Nat).map natA).length : Nat) : Int) = 0 := rfl
  have hgr := great02_c s
  cases hg : grtS s
  rotate_left
  · rw [hg] at hgr
    refine Comp.body (T := tab) (res := [.tmp 8]) tab_ok [] Try.func5 rfl (by kernel_rfl) Try.ntmps5 rfl (by simp only [List.length_cons, List.length_nil]; decide) (by simp only [lowL, AV.low, snL]; rfl) ?_; conv => whnf
    repeat' first | ((first | (with_reducible apply XBr.tt) | (refine XCall.ret hgr ?_) | (refine XCall.ret awake02_c ?_)); conv => whnf) | fail
    exact XOut.bool rfl
  rw [hg] at hgr
  have hb := (grt_B hg).1
  have hbo := own_B hb
  have e := own_eq s
  have how := own02_c s hb
  have hth := theirs02_c s hb
  have hrc := rCheck_c s hb
  have hck := fdCheck_c (ownS s) hbo
  have hdr := fDry_c (ownS s) hbo p m
  have hse := fSeen_c (ownS s) hbo p l
  have hsa := same02_c s hb
  rw [← e.err] at hck
  rw [← e.dryE, ← e.drN] at hdr
  rw [← e.seenE, ← e.parts] at hse
  by_cases h0 : snE s = 0
  rotate_left
  · have hsf := fSafe_no (ownS s) hbo p m l (by rw [← e.sttE]; unfold sttE; rw [if_pos h0]; exact h0)
    rw [← e.sttE, show sttE s p m l = snE s by unfold sttE; rw [if_pos h0]] at hsf
    rw [show dryE s p m = snE s by unfold dryE; rw [if_pos h0], if_neg h0] at hdr
    rw [show seenE s p l = snE s by unfold seenE; rw [if_pos h0], if_neg h0] at hse
    generalize snE s = v at *
    refine Comp.body (T := tab) (res := [.tmp 8]) tab_ok [] Try.func5 rfl (by kernel_rfl) Try.ntmps5 rfl (by simp only [List.length_cons, List.length_nil]; decide) (by simp only [lowL, AV.low, snL]; rfl) ?_; conv => whnf
    repeat' first | ((first | (with_reducible apply XBr.ff) | (refine XCall.ret hgr ?_)); conv => whnf) | fail
    refine Walk.place (Walk.place (Walk.place ?_))
    apply Walk.drawX tab_ok mixed_ok [] [8, 9, 10, 11, 12, 13] (fun fl => match fl with
      | [a, b, c, x, y, z] => [(bif a then .cells (bif x then snC (ownS s) else rsZ) else .free), (bif b then .cells (bif y then rsC s else rsZ) else .free), (bif c then .cells (bif z then [.int .i64 p, .int .i64 m, .int .i64 l] else [.int .i64 0, .int .i64 0, .int .i64 0]) else .free)]
      | _ => []) [_, _, _, _, _, _, _, _, .ptr 0 0, .ptr 1 0, .ptr 2 0, _, _, _] (by kernel_rfl) rfl
    · skip
      repeat' first | (with_reducible apply XAnd.mk) | ((first | (with_reducible apply Chk.go) | (with_reducible apply ChkA.go)); conv => whnf) | (exact XSame.mk rfl rfl) | (with_reducible exact trivial) | ((first | (refine XCall.ret how ?_) | (refine XCall.ret hth ?_)); conv => whnf) | (first | ((refine XFree.at 0 rfl ?_); (conv => whnf); exact XSame.mk rfl rfl) | ((refine XFree.at 1 rfl ?_); (conv => whnf); exact XSame.mk rfl rfl) | ((refine XFree.at 2 rfl ?_); (conv => whnf); exact XSame.mk rfl rfl)) | fail
    · skip
      repeat' first | (with_reducible apply XAnd.mk) | ((first | (with_reducible apply Chk.go) | (with_reducible apply ChkF.go) | (with_reducible apply ChkB.go)); conv => whnf) | (exact XSame.mk rfl rfl) | (with_reducible exact trivial) | ((first | (refine XCall.ret how ?_) | (refine XCall.ret hth ?_)); conv => whnf) | (first | ((refine XFree.at 0 rfl ?_); (conv => whnf); exact XSame.mk rfl rfl) | ((refine XFree.at 1 rfl ?_); (conv => whnf); exact XSame.mk rfl rfl) | ((refine XFree.at 2 rfl ?_); (conv => whnf); exact XSame.mk rfl rfl)) | fail
    conv => whnf
    repeat' first | ((with_reducible apply XBr.bne) <;> (intro h; first | (exfalso; omega) | (conv => whnf))) | ((first | (refine XCall.ret hrc ?_) | (refine XCall.ret hck ?_) | (refine XCall.ret hdr ?_) | (refine XCall.ret hse ?_) | (refine XCall.ret hsf ?_)); conv => whnf) | fail
    refine Walk.norm tab_ok [] [(4, _), (9, _), (12, _), (13, _), (14, _), (15, _), (16, _), (17, _), (18, _)] ⟨rfl, rfl, rfl, rfl, rfl, rfl, rfl, rfl, rfl, trivial⟩ ?_
    conv => whnf
    repeat' first | ((first | (with_reducible apply XBr.tt) | (with_reducible apply XBr.ff)); conv => whnf) | (with_reducible apply XBr.not) | ((with_reducible apply XBr.beq) <;> (intro h; first | (exfalso; omega) | (conv => whnf))) | ((first | (refine XCall.ret hsa ?_) | (refine XCall.ret awake02_c ?_)); conv => whnf) | fail
    exact XOut.bool rfl
  have ok := snE_iff.1 h0
  have p1 := ok.p1; have p2 := ok.p2; have t2 := ok.t2; have l1 := ok.l1; have l2 := ok.l2
  have hal := allN16 ok
  rw [h0] at hrc hck
  have hst := rStated_c s hb p m l
  have hal2 := rAll_c s (by omega)
  have hpd : plB s p = inZ p 0 (s.places - 1) := rfl
  have hde : dryE s p m = if plB s p = false then 1 else if inZ m 0 s.last = false then 3 else 0 := by unfold dryE; rw [if_neg (fun e => e h0)]
  have hsee : seenE s p l = if plB s p = false then 1 else if inZ l 1 (allN s) = false then 3 else 0 := by unfold seenE; rw [if_neg (fun e => e h0)]
  have hste : sttE s p m l = if plB s p = false then 1 else if inZ m 0 s.last = false ∨ inZ l 1 (allN s) = false then 3 else 0 := by unfold sttE; rw [if_neg (fun e => e h0)]
  cases h1 : plB s p with
  | false =>
    have h1' := h1
    rw [hpd, ← Bool.not_eq_true, inZ_iff] at h1'
    have hq1 : dryE s p m = 1 := by rw [hde, h1]; rfl
    have hq2 : seenE s p l = 1 := by rw [hsee, h1]; rfl
    have hq3 : sttE s p m l = 1 := by rw [hste, h1]; rfl
    have hsf := fSafe_no (ownS s) hbo p m l (by rw [← e.sttE, hq3]; decide)
    rw [← e.sttE, hq3] at hsf
    rw [hq1, if_neg (by decide)] at hdr
    rw [hq2, if_neg (by decide)] at hse
    rw [hq3] at hst
    have heq := eqN true true [] (by simp)
    refine Comp.body (T := tab) (res := [.tmp 8]) tab_ok [] Try.func5 rfl (by kernel_rfl) Try.ntmps5 rfl (by simp only [List.length_cons, List.length_nil]; decide) (by simp only [lowL, AV.low, snL]; rfl) ?_; conv => whnf
    repeat' first | ((first | (with_reducible apply XBr.ff) | (refine XCall.ret hgr ?_)); conv => whnf) | fail
    refine Walk.place (Walk.place (Walk.place ?_))
    apply Walk.drawX tab_ok mixed_ok [] [8, 9, 10, 11, 12, 13] (fun fl => match fl with
      | [a, b, c, x, y, z] => [(bif a then .cells (bif x then snC (ownS s) else rsZ) else .free), (bif b then .cells (bif y then rsC s else rsZ) else .free), (bif c then .cells (bif z then [.int .i64 p, .int .i64 m, .int .i64 l] else [.int .i64 0, .int .i64 0, .int .i64 0]) else .free)]
      | _ => []) [_, _, _, _, _, _, _, _, .ptr 0 0, .ptr 1 0, .ptr 2 0, _, _, _] (by kernel_rfl) rfl
    · skip
      repeat' first | (with_reducible apply XAnd.mk) | ((first | (with_reducible apply Chk.go) | (with_reducible apply ChkA.go)); conv => whnf) | (exact XSame.mk rfl rfl) | (with_reducible exact trivial) | ((first | (refine XCall.ret how ?_) | (refine XCall.ret hth ?_)); conv => whnf) | (first | ((refine XFree.at 0 rfl ?_); (conv => whnf); exact XSame.mk rfl rfl) | ((refine XFree.at 1 rfl ?_); (conv => whnf); exact XSame.mk rfl rfl) | ((refine XFree.at 2 rfl ?_); (conv => whnf); exact XSame.mk rfl rfl)) | fail
    · skip
      repeat' first | (with_reducible apply XAnd.mk) | ((first | (with_reducible apply Chk.go) | (with_reducible apply ChkF.go) | (with_reducible apply ChkB.go)); conv => whnf) | (exact XSame.mk rfl rfl) | (with_reducible exact trivial) | ((first | (refine XCall.ret how ?_) | (refine XCall.ret hth ?_)); conv => whnf) | (first | ((refine XFree.at 0 rfl ?_); (conv => whnf); exact XSame.mk rfl rfl) | ((refine XFree.at 1 rfl ?_); (conv => whnf); exact XSame.mk rfl rfl) | ((refine XFree.at 2 rfl ?_); (conv => whnf); exact XSame.mk rfl rfl)) | fail
    conv => whnf
    repeat' first | ((first | (with_reducible apply XBr.tt) | (with_reducible apply XBr.ff)); conv => whnf) | ((with_reducible apply XBr.dec) <;> (intro h; first | (exfalso; omega) | ((try simp only [List.length_map] at h); first | (exfalso; omega) | (conv => whnf)))) | ((with_reducible apply XBr.beq) <;> (intro h; first | (exfalso; omega) | (conv => whnf))) | ((with_reducible apply XBr.bne) <;> (intro h; first | (exfalso; omega) | (conv => whnf))) | ((first | (refine XCall.ret hrc ?_) | (refine XCall.ret hck ?_) | (refine XCall.ret hdr ?_) | (refine XCall.ret hse ?_) | (refine XCall.ret hsf ?_) | (with_reducible refine XBr.no (by first | decide | simp) ?_) | (refine XCall.ret hst ?_)); conv => whnf) | fail
    all_goals
      refine Walk.norm tab_ok [] [(4, _), (9, _), (13, _), (14, _), (15, _), (16, _), (20, _), (21, _), (22, _), (23, _)] ⟨rfl, rfl, rfl, rfl, rfl, rfl, rfl, rfl, rfl, rfl, trivial⟩ ?_
      conv => whnf
      repeat' first | ((with_reducible apply XBr.tt); conv => whnf) | ((with_reducible apply XBr.beq) <;> (intro h; first | (exfalso; omega) | (conv => whnf))) | ((first | (refine XCall.ret heq ?_) | (refine XCall.ret hsa ?_) | (refine XCall.ret awake02_c ?_)); conv => whnf) | fail
      exact XOut.bool rfl
  | true =>
    have h1' := h1
    rw [hpd, inZ_iff] at h1'
    cases h2 : inZ m 0 s.last with
    | false =>
      have h2' := h2
      rw [← Bool.not_eq_true, inZ_iff] at h2'
      cases h3 : inZ l 1 (allN s) with
      | false =>
        have h3' := h3
        rw [← Bool.not_eq_true, inZ_iff] at h3'
        have hq1 : dryE s p m = 3 := by rw [hde, h1, h2]; rfl
        have hq2 : seenE s p l = 3 := by rw [hsee, h1, h3]; rfl
        have hq3 : sttE s p m l = 3 := by rw [hste, h1, h2, h3]; rfl
        have hsf := fSafe_no (ownS s) hbo p m l (by rw [← e.sttE, hq3]; decide)
        rw [← e.sttE, hq3] at hsf
        rw [hq1, if_neg (by decide)] at hdr
        rw [hq2, if_neg (by decide)] at hse
        rw [hq3] at hst
        have heq := eqN true true [] (by simp)
        refine Comp.body (T := tab) (res := [.tmp 8]) tab_ok [] Try.func5 rfl (by kernel_rfl) Try.ntmps5 rfl (by simp only [List.length_cons, List.length_nil]; decide) (by simp only [lowL, AV.low, snL]; rfl) ?_; conv => whnf
        repeat' first | ((first | (with_reducible apply XBr.ff) | (refine XCall.ret hgr ?_)); conv => whnf) | fail
        refine Walk.place (Walk.place (Walk.place ?_))
        apply Walk.drawX tab_ok mixed_ok [] [8, 9, 10, 11, 12, 13] (fun fl => match fl with
          | [a, b, c, x, y, z] => [(bif a then .cells (bif x then snC (ownS s) else rsZ) else .free), (bif b then .cells (bif y then rsC s else rsZ) else .free), (bif c then .cells (bif z then [.int .i64 p, .int .i64 m, .int .i64 l] else [.int .i64 0, .int .i64 0, .int .i64 0]) else .free)]
          | _ => []) [_, _, _, _, _, _, _, _, .ptr 0 0, .ptr 1 0, .ptr 2 0, _, _, _] (by kernel_rfl) rfl
        · skip
          repeat' first | (with_reducible apply XAnd.mk) | ((first | (with_reducible apply Chk.go) | (with_reducible apply ChkA.go)); conv => whnf) | (exact XSame.mk rfl rfl) | (with_reducible exact trivial) | ((first | (refine XCall.ret how ?_) | (refine XCall.ret hth ?_)); conv => whnf) | (first | ((refine XFree.at 0 rfl ?_); (conv => whnf); exact XSame.mk rfl rfl) | ((refine XFree.at 1 rfl ?_); (conv => whnf); exact XSame.mk rfl rfl) | ((refine XFree.at 2 rfl ?_); (conv => whnf); exact XSame.mk rfl rfl)) | fail
        · skip
          repeat' first | (with_reducible apply XAnd.mk) | ((first | (with_reducible apply Chk.go) | (with_reducible apply ChkF.go) | (with_reducible apply ChkB.go)); conv => whnf) | (exact XSame.mk rfl rfl) | (with_reducible exact trivial) | ((first | (refine XCall.ret how ?_) | (refine XCall.ret hth ?_)); conv => whnf) | (first | ((refine XFree.at 0 rfl ?_); (conv => whnf); exact XSame.mk rfl rfl) | ((refine XFree.at 1 rfl ?_); (conv => whnf); exact XSame.mk rfl rfl) | ((refine XFree.at 2 rfl ?_); (conv => whnf); exact XSame.mk rfl rfl)) | fail
        conv => whnf
        repeat' first | ((first | (with_reducible apply XBr.tt) | (with_reducible apply XBr.ff)); conv => whnf) | ((with_reducible apply XBr.dec) <;> (intro h; first | (exfalso; omega) | ((try simp only [List.length_map] at h); first | (exfalso; omega) | (conv => whnf)))) | ((with_reducible apply XBr.beq) <;> (intro h; first | (exfalso; omega) | (conv => whnf))) | ((with_reducible apply XBr.bne) <;> (intro h; first | (exfalso; omega) | (conv => whnf))) | ((first | (refine XCall.ret hrc ?_) | (refine XCall.ret hck ?_) | (refine XCall.ret hdr ?_) | (refine XCall.ret hse ?_) | (refine XCall.ret hsf ?_) | (with_reducible refine XBr.no (by first | decide | simp) ?_) | (refine XCall.ret hst ?_) | (refine XCall.ret hal2 ?_)); conv => whnf) | fail
        all_goals
          refine Walk.norm tab_ok [] [(4, _), (9, _), (13, _), (14, _), (15, _), (16, _), (20, _), (21, _), (22, _), (23, _)] ⟨rfl, rfl, rfl, rfl, rfl, rfl, rfl, rfl, rfl, rfl, trivial⟩ ?_
          conv => whnf
          repeat' first | ((with_reducible apply XBr.tt); conv => whnf) | ((with_reducible apply XBr.beq) <;> (intro h; first | (exfalso; omega) | (conv => whnf))) | ((first | (refine XCall.ret heq ?_) | (refine XCall.ret hsa ?_) | (refine XCall.ret awake02_c ?_)); conv => whnf) | fail
          exact XOut.bool rfl
      | true =>
        have h3' := h3
        rw [inZ_iff] at h3'
        have hq1 : dryE s p m = 3 := by rw [hde, h1, h2]; rfl
        have hq2 : seenE s p l = 0 := by rw [hsee, h1, h3]; rfl
        have hq3 : sttE s p m l = 3 := by rw [hste, h1, h2, h3]; rfl
        have hsf := fSafe_no (ownS s) hbo p m l (by rw [← e.sttE, hq3]; decide)
        rw [← e.sttE, hq3] at hsf
        rw [hq1, if_neg (by decide)] at hdr
        rw [hq2, if_pos rfl] at hse
        rw [hq3] at hst
        have hrp := rSeen_c s ok p.toNat l.toNat (by omega) (by omega)
        rw [show natA p.toNat = .int .i64 p by unfold natA; rw [Int.toNat_of_nonneg h1'.1], show natA l.toNat = .int .i64 l by unfold natA; rw [Int.toNat_of_nonneg (by omega)]] at hrp
        have heq := eqN (partsL s p.toNat l.toNat).isEmpty (partsL s p.toNat l.toNat).isEmpty (partsL s p.toNat l.toNat) (by have := partsL_len s p.toNat l.toNat; omega)
        generalize partsL s p.toNat l.toNat = L at hse hrp heq
        refine Comp.body (T := tab) (res := [.tmp 8]) tab_ok [] Try.func5 rfl (by kernel_rfl) Try.ntmps5 rfl (by simp only [List.length_cons, List.length_nil]; decide) (by simp only [lowL, AV.low, snL]; rfl) ?_; conv => whnf
        repeat' first | ((first | (with_reducible apply XBr.ff) | (refine XCall.ret hgr ?_)); conv => whnf) | fail
        refine Walk.place (Walk.place (Walk.place ?_))
        apply Walk.drawX tab_ok mixed_ok [] [8, 9, 10, 11, 12, 13] (fun fl => match fl with
          | [a, b, c, x, y, z] => [(bif a then .cells (bif x then snC (ownS s) else rsZ) else .free), (bif b then .cells (bif y then rsC s else rsZ) else .free), (bif c then .cells (bif z then [.int .i64 p, .int .i64 m, .int .i64 l] else [.int .i64 0, .int .i64 0, .int .i64 0]) else .free)]
          | _ => []) [_, _, _, _, _, _, _, _, .ptr 0 0, .ptr 1 0, .ptr 2 0, _, _, _] (by kernel_rfl) rfl
        · skip
          repeat' first | (with_reducible apply XAnd.mk) | ((first | (with_reducible apply Chk.go) | (with_reducible apply ChkA.go)); conv => whnf) | (exact XSame.mk rfl rfl) | (with_reducible exact trivial) | ((first | (refine XCall.ret how ?_) | (refine XCall.ret hth ?_)); conv => whnf) | (first | ((refine XFree.at 0 rfl ?_); (conv => whnf); exact XSame.mk rfl rfl) | ((refine XFree.at 1 rfl ?_); (conv => whnf); exact XSame.mk rfl rfl) | ((refine XFree.at 2 rfl ?_); (conv => whnf); exact XSame.mk rfl rfl)) | fail
        · skip
          repeat' first | (with_reducible apply XAnd.mk) | ((first | (with_reducible apply Chk.go) | (with_reducible apply ChkF.go) | (with_reducible apply ChkB.go)); conv => whnf) | (exact XSame.mk rfl rfl) | (with_reducible exact trivial) | ((first | (refine XCall.ret how ?_) | (refine XCall.ret hth ?_)); conv => whnf) | (first | ((refine XFree.at 0 rfl ?_); (conv => whnf); exact XSame.mk rfl rfl) | ((refine XFree.at 1 rfl ?_); (conv => whnf); exact XSame.mk rfl rfl) | ((refine XFree.at 2 rfl ?_); (conv => whnf); exact XSame.mk rfl rfl)) | fail
        conv => whnf
        repeat' first | ((first | (with_reducible apply XBr.tt) | (with_reducible apply XBr.ff)); conv => whnf) | ((with_reducible apply XBr.dec) <;> (intro h; first | (exfalso; omega) | ((try simp only [List.length_map] at h); first | (exfalso; omega) | (conv => whnf)))) | ((with_reducible apply XBr.beq) <;> (intro h; first | (exfalso; omega) | (conv => whnf))) | ((with_reducible apply XBr.bne) <;> (intro h; first | (exfalso; omega) | (conv => whnf))) | ((first | (refine XCall.ret hrc ?_) | (refine XCall.ret hck ?_) | (refine XCall.ret hdr ?_) | (refine XCall.ret hse ?_) | (refine XCall.ret hsf ?_) | (with_reducible refine XBr.no (by first | decide | simp) ?_) | (refine XCall.ret hst ?_) | (refine XCall.ret hal2 ?_) | (refine XCall.ret hrp ?_)); conv => whnf) | fail
        all_goals
          refine Walk.norm tab_ok [] [(4, _), (9, _), (13, _), (14, _), (15, _), (16, _), (20, _), (21, _), (22, _), (23, _)] ⟨rfl, rfl, rfl, rfl, rfl, rfl, rfl, rfl, rfl, rfl, trivial⟩ ?_
          conv => whnf
          repeat' first | ((with_reducible apply XBr.tt); conv => whnf) | ((with_reducible apply XBr.beq) <;> (intro h; first | (exfalso; omega) | (conv => whnf))) | ((first | (refine XCall.ret heq ?_) | (refine XCall.ret hsa ?_) | (refine XCall.ret awake02_c ?_)); conv => whnf) | fail
          exact XOut.bool rfl
    | true =>
      have h2' := h2
      rw [inZ_iff] at h2'
      cases h3 : inZ l 1 (allN s) with
      | false =>
        have h3' := h3
        rw [← Bool.not_eq_true, inZ_iff] at h3'
        have hq1 : dryE s p m = 0 := by rw [hde, h1, h2]; rfl
        have hq2 : seenE s p l = 3 := by rw [hsee, h1, h3]; rfl
        have hq3 : sttE s p m l = 3 := by rw [hste, h1, h2, h3]; rfl
        have hsf := fSafe_no (ownS s) hbo p m l (by rw [← e.sttE, hq3]; decide)
        rw [← e.sttE, hq3] at hsf
        rw [hq1, if_pos rfl] at hdr
        rw [hq2, if_neg (by decide)] at hse
        rw [hq3] at hst
        have hrd := rDry_c s hb ok p.toNat m.toNat (by omega)
        rw [show natA p.toNat = .int .i64 p by unfold natA; rw [Int.toNat_of_nonneg h1'.1], show natA m.toNat = .int .i64 m by unfold natA; rw [Int.toNat_of_nonneg h2'.1]] at hrd
        generalize drN s p.toNat m.toNat = dn at hdr hrd
        have heq := eqN true true [] (by simp)
        refine Comp.body (T := tab) (res := [.tmp 8]) tab_ok [] Try.func5 rfl (by kernel_rfl) Try.ntmps5 rfl (by simp only [List.length_cons, List.length_nil]; decide) (by simp only [lowL, AV.low, snL]; rfl) ?_; conv => whnf
        repeat' first | ((first | (with_reducible apply XBr.ff) | (refine XCall.ret hgr ?_)); conv => whnf) | fail
        refine Walk.place (Walk.place (Walk.place ?_))
        apply Walk.drawX tab_ok mixed_ok [] [8, 9, 10, 11, 12, 13] (fun fl => match fl with
          | [a, b, c, x, y, z] => [(bif a then .cells (bif x then snC (ownS s) else rsZ) else .free), (bif b then .cells (bif y then rsC s else rsZ) else .free), (bif c then .cells (bif z then [.int .i64 p, .int .i64 m, .int .i64 l] else [.int .i64 0, .int .i64 0, .int .i64 0]) else .free)]
          | _ => []) [_, _, _, _, _, _, _, _, .ptr 0 0, .ptr 1 0, .ptr 2 0, _, _, _] (by kernel_rfl) rfl
        · skip
          repeat' first | (with_reducible apply XAnd.mk) | ((first | (with_reducible apply Chk.go) | (with_reducible apply ChkA.go)); conv => whnf) | (exact XSame.mk rfl rfl) | (with_reducible exact trivial) | ((first | (refine XCall.ret how ?_) | (refine XCall.ret hth ?_)); conv => whnf) | (first | ((refine XFree.at 0 rfl ?_); (conv => whnf); exact XSame.mk rfl rfl) | ((refine XFree.at 1 rfl ?_); (conv => whnf); exact XSame.mk rfl rfl) | ((refine XFree.at 2 rfl ?_); (conv => whnf); exact XSame.mk rfl rfl)) | fail
        · skip
          repeat' first | (with_reducible apply XAnd.mk) | ((first | (with_reducible apply Chk.go) | (with_reducible apply ChkF.go) | (with_reducible apply ChkB.go)); conv => whnf) | (exact XSame.mk rfl rfl) | (with_reducible exact trivial) | ((first | (refine XCall.ret how ?_) | (refine XCall.ret hth ?_)); conv => whnf) | (first | ((refine XFree.at 0 rfl ?_); (conv => whnf); exact XSame.mk rfl rfl) | ((refine XFree.at 1 rfl ?_); (conv => whnf); exact XSame.mk rfl rfl) | ((refine XFree.at 2 rfl ?_); (conv => whnf); exact XSame.mk rfl rfl)) | fail
        conv => whnf
        repeat' first | ((first | (with_reducible apply XBr.tt) | (with_reducible apply XBr.ff)); conv => whnf) | ((with_reducible apply XBr.dec) <;> (intro h; first | (exfalso; omega) | ((try simp only [List.length_map] at h); first | (exfalso; omega) | (conv => whnf)))) | ((with_reducible apply XBr.beq) <;> (intro h; first | (exfalso; omega) | (conv => whnf))) | ((with_reducible apply XBr.bne) <;> (intro h; first | (exfalso; omega) | (conv => whnf))) | ((first | (refine XCall.ret hrc ?_) | (refine XCall.ret hck ?_) | (refine XCall.ret hdr ?_) | (refine XCall.ret hse ?_) | (refine XCall.ret hsf ?_) | (with_reducible refine XBr.no (by first | decide | simp) ?_) | (refine XCall.ret hst ?_) | (refine XCall.ret hal2 ?_) | (refine XCall.ret hrd ?_)); conv => whnf) | fail
        all_goals
          refine Walk.norm tab_ok [] [(4, _), (9, _), (13, _), (14, _), (15, _), (16, _), (20, _), (21, _), (22, _), (23, _)] ⟨rfl, rfl, rfl, rfl, rfl, rfl, rfl, rfl, rfl, rfl, trivial⟩ ?_
          conv => whnf
          repeat' first | ((with_reducible apply XBr.tt); conv => whnf) | ((with_reducible apply XBr.beq) <;> (intro h; first | (exfalso; omega) | (conv => whnf))) | ((first | (refine XCall.ret heq ?_) | (refine XCall.ret hsa ?_) | (refine XCall.ret awake02_c ?_)); conv => whnf) | fail
          exact XOut.bool rfl
      | true =>
        have h3' := h3
        rw [inZ_iff] at h3'
        have hq1 : dryE s p m = 0 := by rw [hde, h1, h2]; rfl
        have hq2 : seenE s p l = 0 := by rw [hsee, h1, h3]; rfl
        have hq3 : sttE s p m l = 0 := by rw [hste, h1, h2, h3]; rfl
        have hsf := fSafe_ok (ownS s) hbo p m l (by rw [← e.sttE, hq3])
        rw [← e.safe] at hsf
        have hrs := rSafe_c s hb ok (stN p m l) (by show ((p.toNat : Nat) : Int) < _; omega) (by show l.toNat ≤ _; omega)
        rw [← xA_st h1'.1 h2'.1 (show 0 ≤ l by omega)] at hrs
        generalize safeB s (stN p m l) = bs at hsf hrs
        rw [hq1, if_pos rfl] at hdr
        rw [hq2, if_pos rfl] at hse
        rw [hq3] at hst
        have hrd := rDry_c s hb ok p.toNat m.toNat (by omega)
        rw [show natA p.toNat = .int .i64 p by unfold natA; rw [Int.toNat_of_nonneg h1'.1], show natA m.toNat = .int .i64 m by unfold natA; rw [Int.toNat_of_nonneg h2'.1]] at hrd
        generalize drN s p.toNat m.toNat = dn at hdr hrd
        have hrp := rSeen_c s ok p.toNat l.toNat (by omega) (by omega)
        rw [show natA p.toNat = .int .i64 p by unfold natA; rw [Int.toNat_of_nonneg h1'.1], show natA l.toNat = .int .i64 l by unfold natA; rw [Int.toNat_of_nonneg (by omega)]] at hrp
        have heq := eqN (partsL s p.toNat l.toNat).isEmpty (partsL s p.toNat l.toNat).isEmpty (partsL s p.toNat l.toNat) (by have := partsL_len s p.toNat l.toNat; omega)
        generalize partsL s p.toNat l.toNat = L at hse hrp heq
        refine Comp.body (T := tab) (res := [.tmp 8]) tab_ok [] Try.func5 rfl (by kernel_rfl) Try.ntmps5 rfl (by simp only [List.length_cons, List.length_nil]; decide) (by simp only [lowL, AV.low, snL]; rfl) ?_; conv => whnf
        repeat' first | ((first | (with_reducible apply XBr.ff) | (refine XCall.ret hgr ?_)); conv => whnf) | fail
        refine Walk.place (Walk.place (Walk.place ?_))
        apply Walk.drawX tab_ok mixed_ok [] [8, 9, 10, 11, 12, 13] (fun fl => match fl with
          | [a, b, c, x, y, z] => [(bif a then .cells (bif x then snC (ownS s) else rsZ) else .free), (bif b then .cells (bif y then rsC s else rsZ) else .free), (bif c then .cells (bif z then [.int .i64 p, .int .i64 m, .int .i64 l] else [.int .i64 0, .int .i64 0, .int .i64 0]) else .free)]
          | _ => []) [_, _, _, _, _, _, _, _, .ptr 0 0, .ptr 1 0, .ptr 2 0, _, _, _] (by kernel_rfl) rfl
        · skip
          repeat' first | (with_reducible apply XAnd.mk) | ((first | (with_reducible apply Chk.go) | (with_reducible apply ChkA.go)); conv => whnf) | (exact XSame.mk rfl rfl) | (with_reducible exact trivial) | ((first | (refine XCall.ret how ?_) | (refine XCall.ret hth ?_)); conv => whnf) | (first | ((refine XFree.at 0 rfl ?_); (conv => whnf); exact XSame.mk rfl rfl) | ((refine XFree.at 1 rfl ?_); (conv => whnf); exact XSame.mk rfl rfl) | ((refine XFree.at 2 rfl ?_); (conv => whnf); exact XSame.mk rfl rfl)) | fail
        · skip
          repeat' first | (with_reducible apply XAnd.mk) | ((first | (with_reducible apply Chk.go) | (with_reducible apply ChkF.go) | (with_reducible apply ChkB.go)); conv => whnf) | (exact XSame.mk rfl rfl) | (with_reducible exact trivial) | ((first | (refine XCall.ret how ?_) | (refine XCall.ret hth ?_)); conv => whnf) | (first | ((refine XFree.at 0 rfl ?_); (conv => whnf); exact XSame.mk rfl rfl) | ((refine XFree.at 1 rfl ?_); (conv => whnf); exact XSame.mk rfl rfl) | ((refine XFree.at 2 rfl ?_); (conv => whnf); exact XSame.mk rfl rfl)) | fail
        conv => whnf
        repeat' first | ((first | (with_reducible apply XBr.tt) | (with_reducible apply XBr.ff)); conv => whnf) | ((with_reducible apply XBr.dec) <;> (intro h; first | (exfalso; omega) | ((try simp only [List.length_map] at h); first | (exfalso; omega) | (conv => whnf)))) | ((with_reducible apply XBr.beq) <;> (intro h; first | (exfalso; omega) | (conv => whnf))) | ((with_reducible apply XBr.bne) <;> (intro h; first | (exfalso; omega) | (conv => whnf))) | ((first | (refine XCall.ret hrc ?_) | (refine XCall.ret hck ?_) | (refine XCall.ret hdr ?_) | (refine XCall.ret hse ?_) | (refine XCall.ret hsf ?_) | (with_reducible refine XBr.no (by first | decide | simp) ?_) | (refine XCall.ret hst ?_) | (refine XCall.ret hal2 ?_) | (refine XCall.ret hrd ?_) | (refine XCall.ret hrp ?_) | (refine XCall.ret hrs ?_)); conv => whnf) | fail
        all_goals
          refine Walk.norm tab_ok [] [(4, _), (9, _), (13, _), (14, _), (15, _), (16, _), (20, _), (21, _), (22, _), (23, _)] ⟨rfl, rfl, rfl, rfl, rfl, rfl, rfl, rfl, rfl, rfl, trivial⟩ ?_
          conv => whnf
          repeat' first | ((with_reducible apply XBr.tt); conv => whnf) | ((with_reducible apply XBr.beq) <;> (intro h; first | (exfalso; omega) | (conv => whnf))) | ((first | (refine XCall.ret heq ?_) | (refine XCall.ret hsa ?_) | (refine XCall.ret awake02_c ?_)); conv => whnf) | fail
          exact XOut.bool rfl
end GA
end
