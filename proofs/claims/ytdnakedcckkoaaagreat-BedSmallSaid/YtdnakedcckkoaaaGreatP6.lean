/- Part 6 of a proof: D16, D17, D48, D31, D32, D33, D34, D35, D52, D49, D51, D53, D21, D41, D36. -/
import Derived.Test.YtdnakedcckkoaaaGreatP5
set_option linter.unusedVariables false
set_option linter.unusedSimpArgs false
set_option maxRecDepth 8000
section
namespace GA
open Go Go.RowKit Go.Proofs
def fF {α : Type} (f : Nat -> Option α) (c : Nat) (hi : Int) : Option α := (lvF c hi).findSome? f
theorem gL {α : Type} {f : Nat -> Option α} {c : Nat} {hi : Int} {v : α} (h : (c : Int) <= hi) (hv : f c = some v) : fF f c hi = some v := by
 unfold fF; rw [fh h, List.findSome?_cons, hv]
theorem gO {α : Type} {f : Nat -> Option α} {c : Nat} {hi : Int} (h : (c : Int) <= hi) (hv : f c = none) : fF f c hi = fF f (c + 1) hi := by
 unfold fF; rw [fh h, List.findSome?_cons, hv]
theorem zby {α : Type} {f : Nat -> Option α} {c : Nat} {hi : Int} (h : hi < c) : fF f c hi = none := by
 unfold fF; rw [lvF_nil h]; rfl
def hitB (b : Bd) (m : Nat) (a k : Int) (sp st : Nat) : Bool := zJ b.room (moB b m).g a sp st - (moB b m).r == k
def stS (b : Bd) (m : Nat) (a k : Int) (sp st : Nat) : Option (Int × Int) := if hitB b m a k sp st = true then some ((sp : Int), (st : Int)) else none
def spS (b : Bd) (m : Nat) (a k : Int) (sp : Nat) : Option (Int × Int) := fF (stS b m a k sp) (moB b m).tl.toNat (moB b m).th
def fstC (b : Bd) (m : Nat) (a k : Int) : Option (Int × Int) := fF (spS b m a k) (moB b m).pl.toNat (moB b m).ph
def chK (b : Bd) (c : List Int) : Nat -> Option (List (Int × Int))
 | 0 => some []
 | k + 1 => match chK b c k with
   | none => none
   | some l => match fstC b k (c.getD k default) (c.getD (k + 1) default) with
     | none => none
     | some x => some (l ++ [x])
theorem zdp {b : Bd} {c : List Int} {k : Nat} (h : chK b c k = none) : ∀ d, chK b c (k + d) = none
 | 0 => h
 | d + 1 => by show chK b c (k + d + 1) = none; rw [chK, zdp h d]
theorem gR {b : Bd} {c : List Int} : ∀ {k : Nat} {l : List (Int × Int)}, chK b c k = some l -> l.length = k
 | 0, l, h => by rw [chK] at h; cases h; rfl
 | k + 1, l, h => by
   rw [chK] at h
   cases h1 : chK b c k with
   | none => rw [h1] at h; cases h
   | some l1 =>
     rw [h1] at h; dsimp only at h
     cases h2 : fstC b k (c.getD k default) (c.getD (k + 1) default) with
     | none => rw [h2] at h; cases h
     | some n => rw [h2] at h; cases h; rw [List.length_append, gR h1]; rfl
def chR (b : Bd) (c : List Int) : Option (List (Int × Int)) := if inZ (c.getD 0 default) (b.first - b.unsure) (b.first + b.unsure) = true then chK b c b.months.length else none
def chA' (o : Option (List (Int × Int))) : AV := match o with | none => .tup [.sl true [], .bool false] | some l => .tup [.sl l.isEmpty (chsA l), .bool true]
set_option maxHeartbeats 2000000 in
theorem zaJ (b : Bd) (ok : BedOk b) (nl : Bool) (c : List Int) (hl : c.length = b.months.length + 1) (hc : ∀ x ∈ c, 0 <= x /\ x <= b.room) : Comp Tryz.prog 227 [dskA b, .sl nl (ints c)] (chA' (chR b c)) := by
 have m1 := ok.m1
 have m2 := ok.m2
 have r1 := ok.r1
 have r2 := ok.r2
 have f1 := ok.f1
 have f2 := ok.f2
 have u1 := ok.u1
 have u2 := ok.u2
 have e1 : ((b.months.map moA).length : Int) = b.months.length := by rw [List.length_map]
 have e2 : ((ints c).length : Int) = b.months.length + 1 := by rw [zm]; omega
 have hin := y8 (c.getD 0 default) (b.first - b.unsure) (b.first + b.unsure)
 have hcv : ∀ m, m <= b.months.length -> 0 <= c.getD m default /\ c.getD m default <= b.room := fun m hm => hc _ (zB (by omega))
 unfold chR
 cases hi : inZ (c.getD 0 default) (b.first - b.unsure) (b.first + b.unsure)
 ·rw [hi] at hin
  rw [if_neg (by simp)]
  refine Comp.body (T := tab) (res := [.tmp 4, .tmp 5]) zb [] Tryz.func227 rfl (by kernel_rfl) Tryz.ntmps227 rfl (by simp only [List.length_cons, List.length_nil]; decide) (by simp only [lowL, dskL, AV.low, lowI]; rfl) ?_; conv => whnf
  repeat' first | ((with_reducible first | apply XBr.ff | refine XInt.a ?_ | apply Chk.go | apply ChkA.go | apply ChkF.go | apply ChkB.go | apply zw.mk); conv => whnf) | (refine XIx.b ?_; conv => whnf) | (with_reducible first | apply XBr.not | apply XAnd.mk | exact trivial) | (exact zd.mk rfl rfl) | (apply Walk.drawN (id := 1) zb zg [] [] (hsU _) [_, _, _, _, _, _, _, _, _, _, _, _, _, _, _, _, _, _, _, _, _, _, _, _, _, _, _] (by kernel_rfl) rfl) | ((refine za.ret hin ?_); conv => whnf) | fail
  exact ⟨.low rfl⟩
 ·rw [hi] at hin
  rw [if_pos rfl]
  refine Comp.body (T := tab) (res := [.tmp 4, .tmp 5]) zb [] Tryz.func227 rfl (by kernel_rfl) Tryz.ntmps227 rfl (by simp only [List.length_cons, List.length_nil]; decide) (by simp only [lowL, dskL, AV.low, lowI]; rfl) ?_; conv => whnf
  repeat' first | ((with_reducible first | apply XBr.tt | refine XInt.a ?_ | apply Chk.go | apply ChkA.go | apply ChkF.go | apply ChkB.go | apply zw.mk); conv => whnf) | (refine XIx.b ?_; conv => whnf) | (with_reducible first | apply XBr.not | apply XAnd.mk | exact trivial) | (exact zd.mk rfl rfl) | (apply Walk.drawN (id := 1) zb zg [] [] (hsU _) [_, _, _, _, _, _, _, _, _, _, _, _, _, _, _, _, _, _, _, _, _, _, _, _, _, _, _] (by kernel_rfl) rfl) | ((refine za.ret hin ?_); conv => whnf) | fail
  refine Walk.nilgr 6 68 rfl ?_
  refine Walk.loopGK zb [] [(0, _), (1, _), (4, _), (5, _), (44, _), (45, _)] ⟨rfl, rfl, rfl, rfl, rfl, rfl, trivial⟩ (fun q : Nat × List (Int × Int) => q.1 <= b.months.length /\ chK b c q.1 = some q.2) (fun q => [(6, .gr 0 q.2.length), (46, natA q.1)]) (fun q => [.grow 68 q.2.isEmpty (chsA q.2)]) (fun q => b.months.length - q.1) (0, []) ⟨Nat.zero_le _, rfl⟩ rfl ⟨rfl, rfl, trivial⟩ ?_ (fun _ _ => (show (1 : Nat) <= 1 from Nat.le_refl 1)) ?_
  ·intro q _
   refine ⟨fun z hz => ?_, fun z hz => ?_⟩
   ·rw [List.mem_singleton] at hz; subst hz; exact zU _
   ·simp only [List.cons_append, List.nil_append, List.mem_cons, List.not_mem_nil, or_false] at hz
    rcases hz with rfl | rfl | rfl | rfl | rfl | rfl | rfl | rfl <;> first | rfl | exact dskL b | exact lowI _ | exact yn _
  rintro ⟨m, l⟩ ⟨hm, hk⟩
  dsimp only at hm hk ⊢
  have hlen := gR hk
  have hcl : (chsA l).length = l.length := List.length_map _
  conv => whnf
  by_cases hmM : m < b.months.length
  ·have hmo := ok.mo' hmM
   have hcm := hcv m (by omega)
   have hcm2 := hcv (m + 1) (by omega)
   have hnx : chK b c (m + 1) = match fstC b m (c.getD m default) (c.getD (m + 1) default) with | none => none | some x => some (l ++ [x]) := by rw [chK, hk]
   have hno : chK b c (m + 1) = none -> chK b c b.months.length = none := fun h => by
    have := zdp h (b.months.length - (m + 1))
    rwa [show m + 1 + (b.months.length - (m + 1)) = b.months.length by omega] at this
   repeat' first | ((with_reducible first | refine XBr.y fun h => ?_ | refine XBr.n fun h => ?_ | refine XBr.dec (fun h => ?_) fun h => ?_) <;> conv => whnf) | (refine XIx.a ?_; conv => whnf) | fail
   refine Walk.scope zb [] ?_
   conv => whnf
   skip
   refine Walk.label ?_
   conv => whnf
   skip
   have hms : ((m : Int) + 1).toNat = m + 1 := by omega
   refine Walk.loopK zb [] [(0, _), (1, _), (4, _), (5, _), (6, _), (7, _), (8, _), (9, _), (10, _), (44, _), (45, _), (46, _)] ⟨rfl, rfl, rfl, rfl, rfl, rfl, rfl, rfl, rfl, rfl, rfl, rfl, trivial⟩ (fun sp : Nat => (moB b m).pl <= sp /\ (sp : Int) <= (moB b m).ph + 1 /\ fF (spS b m (c.getD m default) (c.getD (m + 1) default)) sp (moB b m).ph = fstC b m (c.getD m default) (c.getD (m + 1) default)) (fun sp => [(11, natA sp)]) (fun _ => [.grow 68 l.isEmpty (chsA l), .cells (moC (moB b m)), .cells [.int .i64 (-1), .int .i64 (-1)], .cells [.int .i64 (-1), .int .i64 (-1)]]) (fun sp => ((moB b m).ph + 1).toNat - sp) (moB b m).pl.toNat ⟨by omega, by omega, rfl⟩ rfl ⟨congrArg (fun z => some (AV.int .i64 z)) (show (moB b m).pl = (((moB b m).pl.toNat : Nat) : Int) by omega), trivial⟩ ?_
   rintro sp ⟨hs1, hs2, hsf⟩
   conv => whnf
   by_cases hsp : (sp : Int) <= (moB b m).ph
   ·have hsp' : (sp : Int) <= (b.months.getD m default).ph := hsp
    repeat' ((with_reducible first | refine XBr.y fun h => ?_ | refine XBr.n fun h => ?_ | refine XBr.dec (fun h => ?_) fun h => ?_) <;> conv => whnf)
    refine Walk.loopK zb [] [(0, _), (1, _), (4, _), (5, _), (6, _), (7, _), (8, _), (9, _), (10, _), (11, _), (44, _), (45, _), (46, _)] ⟨rfl, rfl, rfl, rfl, rfl, rfl, rfl, rfl, rfl, rfl, rfl, rfl, rfl, trivial⟩ (fun st : Nat => (moB b m).tl <= st /\ (st : Int) <= (moB b m).th + 1 /\ fF (stS b m (c.getD m default) (c.getD (m + 1) default) sp) st (moB b m).th = spS b m (c.getD m default) (c.getD (m + 1) default) sp) (fun st => [(12, natA st)]) (fun _ => [.grow 68 l.isEmpty (chsA l), .cells (moC (moB b m)), .cells [.int .i64 (-1), .int .i64 (-1)], .cells [.int .i64 (-1), .int .i64 (-1)]]) (fun st => ((moB b m).th + 1).toNat - st) (moB b m).tl.toNat ⟨by omega, by omega, rfl⟩ rfl ⟨congrArg (fun z => some (AV.int .i64 z)) (show (moB b m).tl = (((moB b m).tl.toNat : Nat) : Int) by omega), trivial⟩ ?_
    rintro st ⟨ht1, ht2, htf⟩
    conv => whnf
    by_cases hst : (st : Int) <= (moB b m).th
    ·have hst' : (st : Int) <= (b.months.getD m default).th := hst
     have hgc := y9 b m (c.getD m default) sp st hmM hcm.1 (by omega) hmo.1 hmo.2.1 (by omega) (by omega) (by omega) (by omega) (by omega) (by omega)
     change Comp Tryz.prog _ _ (.int .i64 (zJ b.room (moB b m).g (c.getD m default) sp st)) at hgc
     have hgb := ku (room := b.room) (g := (moB b m).g) (a := c.getD m default) (sp := sp) (st := st) (by omega) (by omega)
     have hhit : stS b m (c.getD m default) (c.getD (m + 1) default) sp st = if zJ b.room (moB b m).g (c.getD m default) sp st - (moB b m).r = c.getD (m + 1) default then some ((sp : Int), (st : Int)) else none := by
      unfold stS hitB
      by_cases h : zJ b.room (moB b m).g (c.getD m default) sp st - (moB b m).r = c.getD (m + 1) default
      ·rw [if_pos h, if_pos (by rw [h]; exact beq_self_eq_true _)]
      ·rw [if_neg h, if_neg (by rw [beq_eq_false_iff_ne.2 h]; simp)]
     generalize zJ b.room (moB b m).g (c.getD m default) sp st = gz at hgc hgb hhit
     repeat' first | ((with_reducible first | refine XBr.y fun h => ?_ | refine XBr.n fun h => ?_ | refine XBr.dec (fun h => ?_) fun h => ?_ | refine XBr.y1 fun h => ?_ | refine XBr.n1 fun h => ?_ | refine XBr.beq (fun h => ?_) fun h => ?_ | refine XInt.a ?_ | apply Chk.go | apply ChkA.go | apply ChkF.go | apply ChkB.go | apply zw.mk) <;> conv => whnf) | ((first | refine zh.a ?_ | refine XIx.a ?_ | refine XIx.b ?_); conv => whnf) | (with_reducible first | apply XAnd.mk | exact trivial) | (exact zd.mk rfl rfl) | (apply Walk.drawN (id := 15) zb zg [] [] (hsU _) [_, _, _, _, _, _, _, _, _, _, _, _, _, _, _, _, _, _, _, _, _, _] (by kernel_rfl) rfl) | ((first | refine za.ret hgc ?_ | refine XEqA.mk ⟨[(sp : Int), (st : Int)], [-1, -1], rfl, rfl, rfl, rfl, ?_⟩); conv => whnf) | ((with_reducible refine XBr.mk' (fun h => ?_) fun h => ?_) <;> conv => whnf) | fail
     ·exfalso
      have h' : [(sp : Int), (st : Int)] = [-1, -1] := by simp at h
      injection h' with h1 h2; omega
     ·rename_i hh
      rw [hms] at hh
      rw [if_pos hh] at hhit
      have hsp2 : spS b m (c.getD m default) (c.getD (m + 1) default) sp = some ((sp : Int), (st : Int)) := by rw [<- htf]; exact gL hst hhit
      have hfs : fstC b m (c.getD m default) (c.getD (m + 1) default) = some ((sp : Int), (st : Int)) := by rw [<- hsf]; exact gL hsp hsp2
      rw [hfs] at hnx
      refine zp.go (m + 1, l ++ [((sp : Int), (st : Int))]) [.cells (moC (moB b m)), .cells [.int .i64 (-1), .int .i64 (-1)], .cells [natA sp, natA st]] ⟨by dsimp only; omega, hnx⟩ (by dsimp only; omega) ?_ ⟨rfl, rfl, rfl, rfl, rfl, rfl, ?_, rfl, trivial⟩
      ·show [Blk.grow _ (l ++ [_]).isEmpty ((l ++ [_]).map prA)] ++ _ = _
       rw [zD, List.map_append]; rfl
      ·show some (AV.gr 0 (l.length + 1)) = _
       rw [List.length_append]; rfl
     ·have hh := h
      rw [hms] at hh
      rw [if_neg hh] at hhit
      exact zk.go (st + 1) ⟨by omega, by omega, by rw [<- htf]; exact (gO hst hhit).symm⟩ (by omega) rfl ⟨rfl, rfl, rfl, rfl, rfl, rfl, rfl, rfl, rfl, rfl, rfl, rfl, rfl, rfl, trivial⟩
    ·have hst' : ¬ (st : Int) <= (b.months.getD m default).th := hst
     repeat' ((with_reducible first | refine XBr.y fun h => ?_ | refine XBr.n fun h => ?_ | refine XBr.dec (fun h => ?_) fun h => ?_ | refine XInt.a ?_) <;> conv => whnf)
     have hsp2 : spS b m (c.getD m default) (c.getD (m + 1) default) sp = none := by rw [<- htf]; exact zby (by omega)
     exact zk.go (sp + 1) ⟨by omega, by omega, by rw [<- hsf]; exact (gO hsp hsp2).symm⟩ (by omega) rfl ⟨rfl, rfl, rfl, rfl, rfl, rfl, rfl, rfl, rfl, rfl, rfl, rfl, rfl, trivial⟩
   ·have hsp' : ¬ (sp : Int) <= (b.months.getD m default).ph := hsp
    repeat' first | ((with_reducible first | refine XBr.y fun h => ?_ | refine XBr.n fun h => ?_ | refine XBr.dec (fun h => ?_) fun h => ?_ | refine XInt.a ?_) <;> conv => whnf) | ((first | refine zh.a ?_ | refine XEqA.mk ⟨[-1, -1], [-1, -1], rfl, rfl, rfl, rfl, ?_⟩); conv => whnf) | ((with_reducible refine XBr.mk' (fun h => ?_) fun h => ?_) <;> conv => whnf) | fail
    ·have hfs : fstC b m (c.getD m default) (c.getD (m + 1) default) = none := by rw [<- hsf]; exact zby (by omega)
     rw [hfs] at hnx
     rw [hno hnx]; exact ⟨.low rfl⟩
    ·exfalso; simp at h
  ·obtain rfl : m = b.months.length := by omega
   rw [hk]
   repeat' ((with_reducible first | refine XBr.y fun h => ?_ | refine XBr.n fun h => ?_ | refine XBr.dec (fun h => ?_) fun h => ?_) <;> conv => whnf)
   exact ⟨Froz.tup (.cons (Froz.grow rfl hcl (zU _)) (.cons (.low rfl) .nil))⟩
def yu (b : Bd) (c : List Int) : AV := if zK b c ≠ 0 then .tup [.sl true [], .int .i64 (zK b c)] else match chR b c with | none => .tup [.sl true [], .int .i64 8] | some l => .tup [.sl l.isEmpty (chsA l), .int .i64 0]
theorem zaz (b : Bd) (nl : Bool) (c : List Int) (hm : b.months.length <= 100000) (hs : b.surveys.length <= 100000) (hl : c.length <= 100000) : Comp Tryz.prog 142 [bedA b, .sl nl (ints c)] (yu b c) := by
 have hco := q9 b nl c hm hs hl
 unfold courA at hco
 unfold yu
 by_cases hE : zK b c = 0
 ·obtain ⟨ok, h1, h2⟩ := yS.1 hE
  rw [if_neg (fun h => h hE)] at hco ⊢
  have hch := zaJ b ok.toBedOk nl c h1 h2
  cases hr : chR b c with
  | none =>
    rw [hr] at hch
    refine Comp.body (T := tab) (res := [.tmp 4, .tmp 5]) zb [] Tryz.func142 rfl (by kernel_rfl) Tryz.ntmps142 rfl (by simp only [List.length_cons, List.length_nil]; decide) (by simp only [lowL, bedL, AV.low, lowI]; rfl) ?_; conv => whnf
    repeat' first | ((with_reducible first | apply XBr.ff | refine XBr.y2 fun h => ?_ | refine XBr.n2 fun h => ?_ | refine XBr.bne (fun h => ?_) fun h => ?_) <;> conv => whnf) | with_reducible apply XBr.not | ((first | refine za.ret hco ?_ | refine za.ret hch ?_); conv => whnf) | fail
    exact ⟨.low rfl⟩
  | some l =>
    rw [hr] at hch
    refine Comp.body (T := tab) (res := [.tmp 4, .tmp 5]) zb [] Tryz.func142 rfl (by kernel_rfl) Tryz.ntmps142 rfl (by simp only [List.length_cons, List.length_nil]; decide) (by simp only [lowL, bedL, AV.low, lowI]; rfl) ?_; conv => whnf
    repeat' first | ((with_reducible first | apply XBr.tt | refine XBr.y2 fun h => ?_ | refine XBr.n2 fun h => ?_ | refine XBr.bne (fun h => ?_) fun h => ?_) <;> conv => whnf) | with_reducible apply XBr.not | ((first | refine za.ret hco ?_ | refine za.ret hch ?_); conv => whnf) | fail
    exact ⟨.low (by simp only [pack, AV.low, lowL, zU]; rfl)⟩
 ·rw [if_pos hE] at hco ⊢
  generalize zK b c = e at hco hE
  refine Comp.body (T := tab) (res := [.tmp 4, .tmp 5]) zb [] Tryz.func142 rfl (by kernel_rfl) Tryz.ntmps142 rfl (by simp only [List.length_cons, List.length_nil]; decide) (by simp only [lowL, bedL, AV.low, lowI]; rfl) ?_; conv => whnf
  repeat' first | ((with_reducible first | refine XBr.y2 fun h => ?_ | refine XBr.n2 fun h => ?_ | refine XBr.bne (fun h => ?_) fun h => ?_) <;> conv => whnf) | ((refine za.ret hco ?_); conv => whnf) | fail
  exact ⟨.low rfl⟩
def agrB (b : Bd) (c : List Int) : Bool := (chR b c).isSome && (List.range (b.months.length + 1)).all fun m => agB b alwP m (c.getD m default).toNat
def kb (b : Bd) (c : List Int) : AV := if zK b c ≠ 0 then .tup [.bool false, .int .i64 (zK b c)] else .tup [.bool (agrB b c), .int .i64 0]
theorem zca (b : Bd) (nl : Bool) (c : List Int) (hm : b.months.length <= 100000) (hs : b.surveys.length <= 100000) (hl : c.length <= 100000) : Comp Tryz.prog 140 [bedA b, .sl nl (ints c)] (kb b c) := by
 have hco := q9 b nl c hm hs hl
 unfold courA at hco
 unfold kb
 by_cases hE : zK b c = 0
 ·obtain ⟨ok, h1, h2⟩ := yS.1 hE
  rw [if_neg (fun h => h hE)] at hco ⊢
  have hch := zaJ b ok.toBedOk nl c h1 h2
  have e2 : ((ints c).length : Int) = b.months.length + 1 := by rw [zm]; omega
  have hcx : ∃ x, chA' (chR b c) = .tup [x, .bool (chR b c).isSome] /\ x.low 0 = true := by
   cases chR b c with
   | none => exact ⟨_, rfl, rfl⟩
   | some l => exact ⟨_, rfl, zU l⟩
  obtain ⟨x, hx1, hx2⟩ := hcx
  rw [hx1] at hch
  unfold agrB
  generalize (chR b c).isSome = r0 at hch
  have m2 := ok.m2
  refine Comp.body (T := tab) (res := [.tmp 4, .tmp 5]) zb [] Tryz.func140 rfl (by kernel_rfl) Tryz.ntmps140 rfl (by simp only [List.length_cons, List.length_nil]; decide) (by simp only [lowL, bedL, AV.low, lowI]; rfl) ?_; conv => whnf
  repeat' first | ((with_reducible first | refine XBr.y2 fun h => ?_ | refine XBr.n2 fun h => ?_ | refine XBr.bne (fun h => ?_) fun h => ?_) <;> conv => whnf) | ((first | refine za.ret hco ?_ | refine za.ret hch ?_); conv => whnf) | fail
  refine Walk.loopK zb [] [(4, _), (5, _), (6, _), (27, _), (28, _)] ⟨rfl, rfl, rfl, rfl, rfl, trivial⟩ (fun m : Nat => m <= b.months.length + 1) (fun m => [(9, .bool (r0 && (List.range m).all fun m => agB b alwP m (c.getD m default).toNat)), (29, natA m)]) (fun _ => []) (fun m => b.months.length + 1 - m) 0 (Nat.zero_le _) rfl ⟨by show some (AV.bool r0) = some (AV.bool (r0 && true)); rw [Bool.and_true], rfl, trivial⟩ ?_
  intro m hm
  have hnx : ((List.range (m + 1)).all fun m => agB b alwP m (c.getD m default).toNat) = (((List.range m).all fun m => agB b alwP m (c.getD m default).toNat) && agB b alwP m (c.getD m default).toNat) := by
   rw [List.range_succ, List.all_append, List.all_cons, List.all_nil, Bool.and_true]
  by_cases hlt : m < b.months.length + 1
  ·have hv := h2 (c.getD m default) (zB (by omega))
   have hag := zbh b ok 205 [] alwP (allF_c b) m (c.getD m default).toNat
   have hvn : (((c.getD m default).toNat : Nat) : Int) = c.getD m default := by omega
   have hag' : Comp Tryz.prog 228 [dskA b, fltA 205 [], natA m, .int .i64 (c.getD m default)] (.bool (agB b alwP m (c.getD m default).toNat)) := by rw [<- hvn] at hag ⊢; exact hag
   generalize ((List.range m).all fun m => agB b alwP m (c.getD m default).toNat) = s at hnx
   generalize agB b alwP m (c.getD m default).toNat = t at hag' hnx
   generalize hq : (r0 && s) = q
   conv => whnf
   cases q
   all_goals
    repeat' first | ((with_reducible first | apply XBr.tt | apply XBr.ff | refine XBr.y fun h => ?_ | refine XBr.n fun h => ?_ | refine XBr.dec (fun h => ?_) fun h => ?_ | refine XInt.a ?_) <;> conv => whnf) | ((first | refine XIx.a ?_ | refine za.ret fp ?_ | refine za.ret hag' ?_); conv => whnf) | fail
   ·refine zk.go (m + 1) (by omega) (by omega) rfl ⟨rfl, rfl, rfl, rfl, rfl, ?_, rfl, trivial⟩
    show some (AV.bool false) = _
    rw [hnx, <- Bool.and_assoc, hq]; rfl
   ·refine zk.go (m + 1) (by omega) (by omega) rfl ⟨rfl, rfl, rfl, rfl, rfl, ?_, rfl, trivial⟩
    show some (AV.bool t) = _
    rw [hnx, <- Bool.and_assoc, hq]; rfl
  ·obtain rfl : m = b.months.length + 1 := by omega
   conv => whnf
   repeat' ((with_reducible first | refine XBr.y fun h => ?_ | refine XBr.n fun h => ?_ | refine XBr.dec (fun h => ?_) fun h => ?_) <;> conv => whnf)
   exact ⟨.low rfl⟩
 ·rw [if_pos hE] at hco ⊢
  generalize zK b c = e at hco hE
  refine Comp.body (T := tab) (res := [.tmp 4, .tmp 5]) zb [] Tryz.func140 rfl (by kernel_rfl) Tryz.ntmps140 rfl (by simp only [List.length_cons, List.length_nil]; decide) (by simp only [lowL, bedL, AV.low, lowI]; rfl) ?_; conv => whnf
  repeat' first | ((with_reducible first | refine XBr.y2 fun h => ?_ | refine XBr.n2 fun h => ?_ | refine XBr.bne (fun h => ?_) fun h => ?_) <;> conv => whnf) | ((refine za.ret hco ?_); conv => whnf) | fail
  exact ⟨.low rfl⟩
end GA
end
section
namespace GA
open Go Go.RowKit Go.Proofs
theorem zcJ {α : Type} {l : List α} {x d : α} {i k : Nat} (hk : l.length = k) : (l ++ [x]).getD i d = if i < k then l.getD i d else if i = k then x else d := by
 rw [List.getD_eq_getElem?_getD]
 by_cases h : i < k
 ·rw [if_pos h, List.getElem?_append_left (by omega), <- List.getD_eq_getElem?_getD]
 ·rw [if_neg h]
  by_cases h2 : i = k
  ·subst h2; rw [if_pos rfl, List.getElem?_append_right (by omega), hk, Nat.sub_self]; rfl
  ·rw [if_neg h2, List.getElem?_eq_none (by simp; omega)]; rfl
end GA
end
section
namespace GA
open Go Go.RowKit Go.Proofs
structure Crs (b : Bd) (p : Nat -> Bool) (c : Nat -> Nat) : Prop where
 st : inZ (c 0 : Nat) (b.first - b.unsure) (b.first + b.unsure) = true
 rm : ∀ m, m <= b.months.length -> (c m : Int) <= b.room
 ag : ∀ m, m <= b.months.length -> agB b p m (c m) = true
 nx : ∀ m, m < b.months.length -> c (m + 1) ∈ lvL b m (c m)
theorem Crs.ah {b : Bd} {p : Nat -> Bool} {c : Nat -> Nat} (h : Crs b p c) : ∀ k, k <= b.months.length -> ahB b p k (c (b.months.length - k)) = true
 | 0, _ => h.ag _ (Nat.le_refl _)
 | k + 1, hk => by
   have ih := h.ah k (by omega)
   rw [ahB, Bool.and_eq_true, List.any_eq_true]
   refine ⟨⟨c (b.months.length - k), ?_, ih⟩, h.ag _ (by omega)⟩
   have := h.nx (b.months.length - (k + 1)) (by omega)
   rwa [show b.months.length - (k + 1) + 1 = b.months.length - k by omega] at this
theorem Crs.af {b : Bd} {p : Nat -> Bool} {c : Nat -> Nat} (h : Crs b p c) {m : Nat} (hm : m <= b.months.length) : ahF b p m (c m) = true := by
 unfold ahF
 have := h.ah (b.months.length - m) (by omega)
 rw [show b.months.length - (b.months.length - m) = m by omega] at this
 rw [this, decide_eq_true (h.rm m hm)]; rfl
theorem Crs.cn {b : Bd} {p : Nat -> Bool} {c : Nat -> Nat} (hr : b.room <= 120) (h : Crs b p c) : ∀ m, m <= b.months.length -> cnB b p m (c m) = true
 | 0, _ => by rw [cnB, h.af (Nat.zero_le _), h.st]; rfl
 | m + 1, hm => by
   have ih := h.cn hr m (by omega)
   rw [cnB, h.af hm, Bool.and_true, List.any_eq_true]
   refine ⟨c m, List.mem_range.2 (by have := h.rm m (by omega); omega), ?_⟩
   rw [ih, Bool.true_and, List.contains_iff_mem]
   exact h.nx m (by omega)
theorem ah_room {b : Bd} (ok : BedOk b) {m n k : Nat} (hm : m < b.months.length) (hk : k ∈ lvL b m n) : (k : Int) <= b.room := by
 obtain ⟨sp, st, h1, h2⟩ := (mem_lv ok hm).1 hk
 have := gy ok hm (n := n) h1
 have := ok.mo' hm
 omega
theorem za0 {b : Bd} (ok : BedOk b) {p : Nat -> Bool} : ∀ (k n : Nat), k <= b.months.length -> (n : Int) <= b.room -> ahB b p k n = true ->
  ∃ c : Nat -> Nat, c (b.months.length - k) = n /\ ∀ m, b.months.length - k <= m -> m <= b.months.length -> (c m : Int) <= b.room /\ agB b p m (c m) = true /\ (m < b.months.length -> c (m + 1) ∈ lvL b m (c m))
 | 0, n, _, hn, h => ⟨fun _ => n, rfl, fun m h1 h2 => by
   obtain rfl : m = b.months.length := by omega
   exact ⟨hn, h, fun h => by omega⟩⟩
 | k + 1, n, hk, hn, h => by
   rw [ahB, Bool.and_eq_true, List.any_eq_true] at h
   obtain ⟨⟨j, h1, h2⟩, h3⟩ := h
   obtain ⟨c, e, hc⟩ := za0 ok k j (by omega) (ah_room ok (by omega) h1) h2
   refine ⟨fun m => if m = b.months.length - (k + 1) then n else c m, if_pos rfl, fun m q1 q2 => ?_⟩
   dsimp only
   rw [if_neg (show ¬ m + 1 = b.months.length - (k + 1) by omega)]
   by_cases hm : m = b.months.length - (k + 1)
   ·rw [if_pos hm]
    subst hm
    refine ⟨hn, h3, fun _ => ?_⟩
    rw [show b.months.length - (k + 1) + 1 = b.months.length - k by omega, e]; exact h1
   ·rw [if_neg hm]; exact hc m (by omega) q2
theorem zcW {b : Bd} (ok : BedOk b) {p : Nat -> Bool} : ∀ (m n : Nat), m <= b.months.length -> cnB b p m n = true ->
  ∃ c : Nat -> Nat, c m = n /\ inZ (c 0 : Nat) (b.first - b.unsure) (b.first + b.unsure) = true /\ (∀ i, i <= m -> (c i : Int) <= b.room /\ agB b p i (c i) = true) /\ ∀ i, i < m -> c (i + 1) ∈ lvL b i (c i)
 | 0, n, _, h => by
   have hr := yr h
   have hf := cn_ah h
   rw [cnB, Bool.and_eq_true] at h
   refine ⟨fun _ => n, rfl, h.2, fun i hi => ⟨hr, ?_⟩, fun i hi => by omega⟩
   obtain rfl : i = 0 := by omega
   unfold ahF at hf
   rw [Bool.and_eq_true] at hf
   have hf := hf.2
   cases hk : b.months.length - 0 with
   | zero => rw [hk] at hf; rw [ahB] at hf; rwa [show b.months.length = 0 by omega] at hf
   | succ k => rw [hk, ahB, Bool.and_eq_true] at hf; have := hf.2; rwa [show b.months.length - (k + 1) = 0 by omega] at this
 | m + 1, n, hm, h => by
   have hr := yr h
   have hf := cn_ah h
   rw [cnB, Bool.and_eq_true, List.any_eq_true] at h
   obtain ⟨⟨j, -, h1⟩, -⟩ := h
   rw [Bool.and_eq_true, List.contains_iff_mem] at h1
   obtain ⟨c, e, q1, q2, q3⟩ := zcW ok m j (by omega) h1.1
   refine ⟨fun i => if i = m + 1 then n else c i, if_pos rfl, ?_, fun i hi => ?_, fun i hi => ?_⟩
   ·dsimp only; rw [if_neg (by omega)]; exact q1
   ·dsimp only
    by_cases hi2 : i = m + 1
    ·rw [if_pos hi2]; subst hi2
     refine ⟨hr, ?_⟩
     unfold ahF at hf
     rw [Bool.and_eq_true] at hf
     have hf := hf.2
     cases hk : b.months.length - (m + 1) with
     | zero => rw [hk, ahB] at hf; rwa [show b.months.length = m + 1 by omega] at hf
     | succ k => rw [hk, ahB, Bool.and_eq_true] at hf; have := hf.2; rwa [show b.months.length - (k + 1) = m + 1 by omega] at this
    ·rw [if_neg hi2]; exact q2 i (by omega)
   ·dsimp only
    rw [if_neg (show ¬ i = m + 1 by omega)]
    by_cases hi2 : i = m
    ·rw [if_pos (by omega)]; subst hi2; rw [e]; exact h1.2
    ·rw [if_neg (by omega)]; exact q3 i (by omega)
theorem zbd {b : Bd} (ok : BedOk b) {p : Nat -> Bool} {m n : Nat} (hm : m <= b.months.length) (h : cnB b p m n = true) : ∃ c, Crs b p c /\ c m = n := by
 have hf := cn_ah h
 have hr := yr h
 unfold ahF at hf
 rw [Bool.and_eq_true] at hf
 obtain ⟨c, e, q1, q2, q3⟩ := zcW ok m n hm h
 obtain ⟨d, e2, q4⟩ := za0 ok (b.months.length - m) n (by omega) hr hf.2
 rw [show b.months.length - (b.months.length - m) = m by omega] at e2 q4
 refine ⟨fun i => if i <= m then c i else d i, ⟨?_, fun i hi => ?_, fun i hi => ?_, fun i hi => ?_⟩, by dsimp only; rw [if_pos (Nat.le_refl _), e]⟩
 ·rw [if_pos (Nat.zero_le _)]; exact q1
 ·split
  ·exact (q2 i (by omega)).1
  ·exact (q4 i (by omega) hi).1
 ·split
  ·exact (q2 i (by omega)).2
  ·exact (q4 i (by omega) hi).2.1
 ·skip
  by_cases h1 : i + 1 <= m
  ·rw [if_pos h1, if_pos (by omega)]; exact q3 i (by omega)
  ·rw [if_neg h1]
   by_cases h2 : i <= m
   ·obtain rfl : i = m := by omega
    rw [if_pos h2, e, <- e2]
    exact (q4 i (by omega) (by omega)).2.2 hi
   ·rw [if_neg h2]; exact (q4 i (by omega) (by omega)).2.2 hi
theorem cn_iff {b : Bd} (ok : BedOk b) {p : Nat -> Bool} {m n : Nat} (hm : m <= b.months.length) : cnB b p m n = true ↔ ∃ c, Crs b p c /\ c m = n :=
 ⟨zbd ok hm, fun ⟨c, h, e⟩ => by rw [<- e]; exact h.cn ok.r2 m hm⟩
theorem zc0 {b : Bd} (ok : BedOk b) {p : Nat -> Bool} : zH b p = false ↔ ∃ c, Crs b p c := by
 rw [<- Bool.not_eq_true, jq]
 constructor
 ·intro h
  cases hx : (List.range 121).all fun n => !cnB b p 0 n with
  | true => exact absurd (fun n hn => by have := List.all_eq_true.1 hx n (List.mem_range.2 hn); simpa using this) h
  | false =>
    rw [List.all_eq_false] at hx
    obtain ⟨n, hn, hc⟩ := hx
    obtain ⟨c, hc2, -⟩ := zbd (p := p) ok (m := 0) (n := n) (Nat.zero_le _) (by simpa using hc)
    exact ⟨c, hc2⟩
 ·rintro ⟨c, hc⟩ h
  have h1 := hc.cn ok.r2 0 (Nat.zero_le _)
  have h2 := h (c 0) (by have := hc.rm 0 (Nat.zero_le _); have := ok.r2; omega)
  rw [h1] at h2; cases h2
structure qv (b c : Bd) : Prop where
 r : b.room = c.room
 f : b.first = c.first
 u : b.unsure = c.unsure
 m : b.months = c.months
theorem qv.lv {b c : Bd} (h : qv b c) (m n : Nat) : lvL b m n = lvL c m n := by
 unfold lvL loR hiR lieR moB
 rw [h.r, h.m]
theorem Crs.other {b b' : Bd} {p p' : Nat -> Bool} {c : Nat -> Nat} (h : Crs b p c) (e : qv b b') (hag : ∀ m, m <= b.months.length -> agB b p m (c m) = true -> agB b' p' m (c m) = true) : Crs b' p' c :=
 ⟨by rw [<- e.f, <- e.u]; exact h.st, fun m hm => by rw [<- e.r]; exact h.rm m (by rw [e.m]; exact hm), fun m hm => hag m (by rw [e.m]; exact hm) (h.ag m (by rw [e.m]; exact hm)), fun m hm => by rw [<- e.lv]; exact h.nx m (by rw [e.m]; exact hm)⟩
end GA
end
section
namespace GA
open Go Go.RowKit Go.Proofs
theorem dup_mo (nl : Bool) (xs : List Mo) (hx : xs.length <= 100000) : Comp Tryz.prog 209 [.sl nl (xs.map moA)] (.sl false (xs.map moA)) := by
 refine Comp.body (T := tab) (res := [.tmp 2]) zb [] Tryz.func209 rfl (by kernel_rfl) Tryz.ntmps209 rfl (by simp only [List.length_cons, List.length_nil]; decide) (by simp only [lowL, AV.low, yn]; rfl) ?_; conv => whnf
 refine zh.mk ⟨by omega, by simp, by unfold Room; simp; omega⟩ ?_
 conv => whnf
 refine zh.mk (wideMo xs) ?_
 conv => whnf
 refine zh.mk ⟨rfl, rfl, by unfold Room; simp; omega⟩ ?_
 conv => whnf
 exact ⟨Froz.grow rfl (by simp) (yn xs)⟩
theorem dup_su (nl : Bool) (xs : List Su) (hx : xs.length <= 100000) : Comp Tryz.prog 210 [.sl nl (xs.map suA)] (.sl false (xs.map suA)) := by
 refine Comp.body (T := tab) (res := [.tmp 2]) zb [] Tryz.func210 rfl (by kernel_rfl) Tryz.ntmps210 rfl (by simp only [List.length_cons, List.length_nil]; decide) (by simp only [lowL, AV.low, yO]; rfl) ?_; conv => whnf
 refine zh.mk ⟨by omega, by simp, by unfold Room; simp; omega⟩ ?_
 conv => whnf
 refine zh.mk (wideSu xs) ?_
 conv => whnf
 refine zh.mk ⟨rfl, rfl, by unfold Room; simp; omega⟩ ?_
 conv => whnf
 exact ⟨Froz.grow rfl (by simp) (yO xs)⟩
def ownB (b : Bd) : Bd := { b with nlm := false, nls := false }
theorem wv (b : Bd) (h1 : b.months.length <= 100000) (h2 : b.surveys.length <= 100000) : Comp Tryz.prog 111 [bedA b] (bedA (ownB b)) := by
 refine Comp.body (T := tab) (res := [.cell 2 66]) zb [1] Tryz.func111 rfl (by kernel_rfl) Tryz.ntmps111 rfl (by simp only [List.length_cons, List.length_nil]; decide) (by simp only [lowL, bedL]; rfl) ?_; conv => whnf
 repeat' first | ((with_reducible first | apply Chk.go | apply ChkA.go | apply ChkF.go | apply ChkB.go | apply zw.mk); conv => whnf) | (with_reducible first | apply XAnd.mk | exact trivial) | (exact zd.mk rfl rfl) | (apply Walk.drawN (id := 1) zb zg [1] [7, 9] (hsC [_, _, _]) [_, _, _, _, _, _, _, _, _, _] (by kernel_rfl) rfl) | ((first | refine za.ret (dup_mo _ b.months h1) ?_ | refine za.ret (dup_su _ b.surveys h2) ?_); conv => whnf) | fail
 exact ⟨Froz.low (bedL (ownB b))⟩
theorem equal_mo (n1 n2 : Bool) (xs : List Mo) (hx : xs.length <= 100000) : Comp Tryz.prog 261 [.sl n1 (xs.map moA), .sl n2 (xs.map moA)] (.bool true) := by
 refine Comp.body (T := tab) (res := [.tmp 4]) zb [] Tryz.func261 rfl (by kernel_rfl) Tryz.ntmps261 rfl (by simp only [List.length_cons, List.length_nil]; decide) (by simp only [lowL, AV.low, yn]; rfl) ?_; conv => whnf
 repeat' ((with_reducible first | refine XBr.y2 fun h => ?_ | refine XBr.n2 fun h => ?_ | refine XBr.bne (fun h => ?_) fun h => ?_) <;> conv => whnf)
 refine Walk.loop zb [] (fun i : Nat => i <= xs.length) (fun i => [(0, .sl n1 (xs.map moA)), (1, .sl n2 (xs.map moA)), (12, .int .i64 xs.length), (13, .int .i64 i)]) (fun _ => []) (fun i => xs.length - i) 0 (Nat.zero_le _) rfl ⟨rfl, rfl, by simp only [List.length_map]; rfl, rfl, trivial⟩ ?_
 intro i hi
 conv => whnf
 repeat' first | ((with_reducible first | apply XBr.ff | refine XBr.y fun h => ?_ | refine XBr.n fun h => ?_ | refine XBr.dec (fun h => ?_) fun h => ?_ | refine XInt.a ?_ | apply Chk.go | apply ChkA.go | apply ChkF.go | apply ChkB.go | apply zw.mk) <;> conv => whnf) | (refine XIx.a ?_; conv => whnf) | (with_reducible first | apply XAnd.mk | exact trivial) | (exact zd.mk rfl rfl) | (apply Walk.drawN (id := 6) zb zg [] [] (hsU _) [_, _, _, _, _, _, _, _, _] (by kernel_rfl) rfl) | ((refine XEqA.mk ⟨[(xs.getD i default).g, (xs.getD i default).r, (xs.getD i default).pl, (xs.getD i default).ph, (xs.getD i default).tl, (xs.getD i default).th], [(xs.getD i default).g, (xs.getD i default).r, (xs.getD i default).pl, (xs.getD i default).ph, (xs.getD i default).tl, (xs.getD i default).th], rfl, rfl, rfl, rfl, ?_⟩); exact zd.mk (show AV.bool (!(_ == _)) = AV.bool false by simp) rfl) | fail
 ·exact zk.go (i + 1) (by omega) (by omega) rfl ⟨rfl, rfl, rfl, rfl, trivial⟩
 ·exact XOut.bool rfl
theorem equal_su (n1 n2 : Bool) (xs : List Su) (hx : xs.length <= 100000) : Comp Tryz.prog 262 [.sl n1 (xs.map suA), .sl n2 (xs.map suA)] (.bool true) := by
 refine Comp.body (T := tab) (res := [.tmp 4]) zb [] Tryz.func262 rfl (by kernel_rfl) Tryz.ntmps262 rfl (by simp only [List.length_cons, List.length_nil]; decide) (by simp only [lowL, AV.low, yO]; rfl) ?_; conv => whnf
 repeat' ((with_reducible first | refine XBr.y2 fun h => ?_ | refine XBr.n2 fun h => ?_ | refine XBr.bne (fun h => ?_) fun h => ?_) <;> conv => whnf)
 refine Walk.loop zb [] (fun i : Nat => i <= xs.length) (fun i => [(0, .sl n1 (xs.map suA)), (1, .sl n2 (xs.map suA)), (12, .int .i64 xs.length), (13, .int .i64 i)]) (fun _ => []) (fun i => xs.length - i) 0 (Nat.zero_le _) rfl ⟨rfl, rfl, by simp only [List.length_map]; rfl, rfl, trivial⟩ ?_
 intro i hi
 conv => whnf
 repeat' first | ((with_reducible first | apply XBr.ff | refine XBr.y fun h => ?_ | refine XBr.n fun h => ?_ | refine XBr.dec (fun h => ?_) fun h => ?_ | refine XInt.a ?_ | apply Chk.go | apply ChkA.go | apply ChkF.go | apply ChkB.go | apply zw.mk) <;> conv => whnf) | (refine XIx.a ?_; conv => whnf) | (with_reducible first | apply XAnd.mk | exact trivial) | (exact zd.mk rfl rfl) | (apply Walk.drawN (id := 6) zb zg [] [] (hsU _) [_, _, _, _, _, _, _, _, _] (by kernel_rfl) rfl) | ((refine XEqA.mk ⟨[(xs.getD i default).m, (xs.getD i default).lo, (xs.getD i default).hi], [(xs.getD i default).m, (xs.getD i default).lo, (xs.getD i default).hi], rfl, rfl, rfl, rfl, ?_⟩); exact zd.mk (show AV.bool (!(_ == _)) = AV.bool false by simp) rfl) | fail
 ·exact zk.go (i + 1) (by omega) (by omega) rfl ⟨rfl, rfl, rfl, rfl, trivial⟩
 ·exact XOut.bool rfl
theorem eq_mo (n1 n2 : Bool) (xs : List Mo) (hx : xs.length <= 100000) : Comp Tryz.prog 216 [.sl n1 (xs.map moA), .sl n2 (xs.map moA)] (.bool true) := by
 refine Comp.body (T := tab) (res := [.tmp 4]) zb [] Tryz.func216 rfl (by kernel_rfl) Tryz.ntmps216 rfl (by simp only [List.length_cons, List.length_nil]; decide) (by simp only [lowL, AV.low, yn]; rfl) ?_; conv => whnf
 repeat' ((refine za.ret (equal_mo n1 n2 xs hx) ?_); conv => whnf)
 exact XOut.bool rfl
theorem eq_su (n1 n2 : Bool) (xs : List Su) (hx : xs.length <= 100000) : Comp Tryz.prog 217 [.sl n1 (xs.map suA), .sl n2 (xs.map suA)] (.bool true) := by
 refine Comp.body (T := tab) (res := [.tmp 4]) zb [] Tryz.func217 rfl (by kernel_rfl) Tryz.ntmps217 rfl (by simp only [List.length_cons, List.length_nil]; decide) (by simp only [lowL, AV.low, yO]; rfl) ?_; conv => whnf
 repeat' ((refine za.ret (equal_su n1 n2 xs hx) ?_); conv => whnf)
 exact XOut.bool rfl
theorem jL (b : Bd) (h1 : b.months.length <= 100000) (h2 : b.surveys.length <= 100000) : Comp Tryz.prog 118 [bedA (ownB b), bedA b] (.bool true) := by
 refine Comp.body (T := tab) (res := [.tmp 4]) zb [] Tryz.func118 rfl (by kernel_rfl) Tryz.ntmps118 rfl (by simp only [List.length_cons, List.length_nil]; decide) (by simp only [lowL, bedL]; rfl) ?_; conv => whnf
 refine Walk.norm zb [] [(2, _), (3, _)] ⟨rfl, rfl, trivial⟩ ?_
 conv => whnf
 repeat' first | ((with_reducible first | apply XBr.tt | apply XBr.ff | refine XBr.y1 fun h => ?_ | refine XBr.n1 fun h => ?_ | refine XBr.beq (fun h => ?_) fun h => ?_) <;> conv => whnf) | ((first | refine za.ret (eq_mo _ _ b.months h1) ?_ | refine za.ret (eq_su _ _ b.surveys h2) ?_); conv => whnf) | fail
 all_goals first | exact XOut.bool rfl | (exfalso; exact absurd rfl (by assumption))
def kE (b : Bd) : Bool := decide (14 < b.months.length) || decide (12 < b.surveys.length)
theorem kK (b : Bd) : Comp Tryz.prog 110 [bedA b] (.bool (kE b)) := by
 have e1 : ((b.months.map moA).length : Int) = b.months.length := by rw [List.length_map]
 have e2 : ((b.surveys.map suA).length : Int) = b.surveys.length := by rw [List.length_map]
 refine Comp.body (T := tab) (res := [.tmp 2]) zb [] Tryz.func110 rfl (by kernel_rfl) Tryz.ntmps110 rfl (by simp only [List.length_cons, List.length_nil]; decide) (by simp only [lowL, bedL]; rfl) ?_; conv => whnf
 repeat' ((with_reducible first | apply XBr.tt | apply XBr.ff | refine XBr.y fun h => ?_ | refine XBr.n fun h => ?_ | refine XBr.dec (fun h => ?_) fun h => ?_) <;> conv => whnf)
 all_goals
  refine XOut.bool ?_
  unfold kE
  rw [Bool.eq_iff_iff]
  simp only [Bool.or_eq_true, decide_eq_true_eq, Bool.or_assoc, Bool.true_eq_false, Bool.false_eq_true, true_iff, false_iff, iff_true, iff_false]
  omega
def thB (b : Bd) : Bd := { b with nlm := b.months.isEmpty, nls := b.surveys.isEmpty }
theorem kq (b : Bd) (h1 : b.months.length <= 100000) (h2 : b.surveys.length <= 100000) : Comp Tryz.prog 112 [bedA b] (bedA (thB b)) := by
 have e1 : ((b.months.map moA).length : Int) = b.months.length := by rw [List.length_map]
 have e2 : ((b.surveys.map suA).length : Int) = b.surveys.length := by rw [List.length_map]
 refine Comp.body (T := tab) (res := [.cell 2 189]) zb [2, 3] Tryz.func112 rfl (by kernel_rfl) Tryz.ntmps112 rfl (by simp only [List.length_cons, List.length_nil]; decide) (by simp only [lowL, bedL]; rfl) ?_; conv => whnf
 skip
 refine Walk.nilcell 1 3 284 rfl rfl ?_
 refine Walk.loopGK zb [] [(1, _), (2, _), (3, _), (16, _), (17, _)] ⟨rfl, rfl, rfl, rfl, rfl, trivial⟩ (fun k : Nat => k <= b.months.length) (fun k => [(18, natA k)]) (fun k => [.cells [.int .i64 0, .int .i64 0, .int .i64 0, .sl true [], .sl true []], .cells [.int .i64 b.room, .int .i64 b.first, .int .i64 b.unsure, .gr 2 k, .sl true []], .grow 284 (b.months.take k).isEmpty ((b.months.take k).map moA)]) (fun k => b.months.length - k) 0 (Nat.zero_le _) rfl ⟨rfl, trivial⟩ ?_ (fun _ _ => (show (3 : Nat) <= 3 from Nat.le_refl 3)) ?_
 ·intro k _
  refine ⟨fun z hz => ?_, fun z hz => ?_⟩
  ·simp only [List.mem_cons, List.not_mem_nil, or_false] at hz
   rcases hz with rfl | rfl | rfl <;> first | exact yn _ | rfl
  ·simp only [List.cons_append, List.nil_append, List.mem_cons, List.not_mem_nil, or_false] at hz
   rcases hz with rfl | rfl | rfl | rfl | rfl | rfl <;> first | rfl | exact yn _ | exact zY b
 intro k hk
 have hl : (b.months.take k).length = k := by rw [List.length_take]; omega
 have hnx := fun h => jo (xs := b.months) (i := k) h
 have hall : k = b.months.length -> b.months.take k = b.months := fun h => by rw [h, List.take_length]
 generalize b.months.take k = ss at hl hnx hall
 conv => whnf
 repeat' first | ((with_reducible first | refine XBr.y fun h => ?_ | refine XBr.n fun h => ?_ | refine XBr.dec (fun h => ?_) fun h => ?_ | refine XInt.a ?_) <;> conv => whnf) | ((first | refine zh.a ?_ | refine XIx.a ?_); conv => whnf) | fail
 ·refine zp.go (k + 1) [.cells (moC (moB b k))] (by omega) (by omega) ?_ ⟨rfl, rfl, rfl, rfl, rfl, rfl, trivial⟩
  rw [hnx (by omega)]; simp only [List.map_append, zD]; rfl
 have e := hall (by omega)
 subst e
 obtain rfl : k = b.months.length := by omega
 clear hl hnx hall hk
 refine Walk.nilcell 1 4 285 rfl rfl ?_
 refine Walk.loopGK zb [] [(1, _), (2, _), (3, _), (30, _), (31, _)] ⟨rfl, rfl, rfl, rfl, rfl, trivial⟩ (fun k : Nat => k <= b.surveys.length) (fun k => [(32, natA k)]) (fun k => [.cells [.int .i64 0, .int .i64 0, .int .i64 0, .sl true [], .sl true []], .cells [.int .i64 b.room, .int .i64 b.first, .int .i64 b.unsure, .gr 2 b.months.length, .gr 3 k], .grow 284 b.months.isEmpty (b.months.map moA), .grow 285 (b.surveys.take k).isEmpty ((b.surveys.take k).map suA)]) (fun k => b.surveys.length - k) 0 (Nat.zero_le _) rfl ⟨rfl, trivial⟩ ?_ (fun _ _ => (show (4 : Nat) <= 4 from Nat.le_refl 4)) ?_
 ·intro k _
  refine ⟨fun z hz => ?_, fun z hz => ?_⟩
  ·simp only [List.mem_cons, List.not_mem_nil, or_false] at hz
   rcases hz with rfl | rfl | rfl | rfl <;> first | exact yn _ | exact yO _ | rfl
  ·simp only [List.cons_append, List.nil_append, List.mem_cons, List.not_mem_nil, or_false] at hz
   rcases hz with rfl | rfl | rfl | rfl | rfl | rfl <;> first | rfl | exact yO _ | exact zY b
 intro k hk
 have hl : (b.surveys.take k).length = k := by rw [List.length_take]; omega
 have hnx := fun h => jo (xs := b.surveys) (i := k) h
 have hall : k = b.surveys.length -> b.surveys.take k = b.surveys := fun h => by rw [h, List.take_length]
 generalize b.surveys.take k = ss at hl hnx hall
 conv => whnf
 repeat' first | ((with_reducible first | refine XBr.y fun h => ?_ | refine XBr.n fun h => ?_ | refine XBr.dec (fun h => ?_) fun h => ?_ | refine XInt.a ?_) <;> conv => whnf) | ((first | refine zh.a ?_ | refine XIx.a ?_); conv => whnf) | fail
 ·refine zp.go (k + 1) [.cells (suA (b.surveys.getD k default)).cells] (by omega) (by omega) ?_ ⟨rfl, rfl, rfl, rfl, rfl, rfl, trivial⟩
  rw [hnx (by omega)]; simp only [List.map_append, zD]; rfl
 have e := hall (by omega)
 subst e
 obtain rfl : k = b.surveys.length := by omega
 skip
 exact ⟨Froz.agg (rs' := bedC (thB b)) (bedOne _) (.cons (Froz.low rfl) (.cons (Froz.low rfl) (.cons (Froz.low rfl) (.cons (Froz.grow (i := 2) rfl (by rw [List.length_map]; rfl) (yn _)) (.cons (Froz.grow (i := 3) rfl (by rw [List.length_map]; rfl) (yO _)) .nil)))))⟩
theorem zaR (nl : Bool) (l : List (Int × Int)) (h1 : l.length <= 100000) : Comp Tryz.prog 131 [.sl nl (chsA l)] (.sl l.isEmpty (chsA l)) := by
 have e1 : ((chsA l).length : Int) = l.length := by rw [List.length_map]
 refine Comp.body (T := tab) (res := [.tmp 2]) zb [] Tryz.func131 rfl (by kernel_rfl) Tryz.ntmps131 rfl (by simp only [List.length_cons, List.length_nil]; decide) (by simp only [lowL, AV.low, zU]; rfl) ?_; conv => whnf
 skip
 refine Walk.nilgr 3 194 rfl ?_
 refine Walk.loopGK zb [] [(2, _), (6, _), (7, _)] ⟨rfl, rfl, rfl, trivial⟩ (fun k : Nat => k <= l.length) (fun k => [(3, .gr 0 (l.take k).length), (8, natA k)]) (fun k => [.grow 194 (l.take k).isEmpty (chsA (l.take k))]) (fun k => l.length - k) 0 (Nat.zero_le _) rfl ⟨rfl, rfl, trivial⟩ ?_ (fun _ _ => (show (1 : Nat) <= 1 from Nat.le_refl 1)) ?_
 ·intro i _
  refine ⟨fun z hz => ?_, fun z hz => ?_⟩
  ·rw [List.mem_singleton] at hz; subst hz; exact zU _
  ·simp only [List.cons_append, List.nil_append, List.mem_cons, List.not_mem_nil, or_false] at hz
   rcases hz with rfl | rfl | rfl | rfl | rfl <;> first | rfl | exact zU _
 intro k hk
 have hl : (l.take k).length = k := by rw [List.length_take]; omega
 have hnx := fun h => jo (xs := l) (i := k) h
 have hall : k = l.length -> l.take k = l := fun h => by rw [h, List.take_length]
 generalize l.take k = ss at hl hnx hall
 have hsl : (chsA ss).length = ss.length := List.length_map _
 conv => whnf
 repeat' first | ((with_reducible first | refine XBr.y fun h => ?_ | refine XBr.n fun h => ?_ | refine XBr.dec (fun h => ?_) fun h => ?_ | refine XInt.a ?_) <;> conv => whnf) | ((first | refine zh.a ?_ | refine XIx.a ?_); conv => whnf) | fail
 ·refine zp.go (k + 1) [.cells (prA (l.getD k default)).cells] (by omega) (by omega) ?_ ⟨rfl, rfl, rfl, ?_, rfl, trivial⟩
  ·rw [hnx (by omega)]
   show [Blk.grow _ (ss ++ [_]).isEmpty ((ss ++ [_]).map prA)] ++ _ = _
   rw [zD, List.map_append]; rfl
  ·show some (AV.gr 0 (ss.length + 1)) = _
   rw [hnx (by omega), List.length_append]; rfl
 have e := hall (by omega)
 subst e
 skip
 exact ⟨Froz.grow rfl hsl (zU _)⟩
theorem zZ (n lo hi : Int) : Comp Tryz.prog 211 [.int .i64 n, .int .i64 lo, .int .i64 hi] (.bool (!inZ n lo hi)) := by
 refine Comp.body (T := tab) (res := [.tmp 6]) zb [] Tryz.func211 rfl (by kernel_rfl) Tryz.ntmps211 rfl (by simp only [List.length_cons, List.length_nil]; decide) (by rfl) ?_; conv => whnf
 repeat' ((with_reducible first | apply XBr.tt | apply XBr.ff | refine XBr.y fun h => ?_ | refine XBr.n fun h => ?_ | refine XBr.dec (fun h => ?_) fun h => ?_) <;> conv => whnf)
 all_goals (refine XOut.bool ?_; rw [Bool.eq_iff_iff]; simp [inZ]; try omega)
theorem bad04_c (l h hi : Int) : Comp Tryz.prog 212 [spA l h, .int .i64 hi] (.bool (!yo l h 0 hi)) := by
 refine Comp.body (T := tab) (res := [.tmp 4]) zb [] Tryz.func212 rfl (by kernel_rfl) Tryz.ntmps212 rfl (by simp only [List.length_cons, List.length_nil]; decide) (by rfl) ?_; conv => whnf
 repeat' first | ((with_reducible first | apply XBr.tt | apply XBr.ff); conv => whnf) | with_reducible apply XBr.not | ((refine za.ret (zZ _ _ _) ?_); conv => whnf) | ((with_reducible refine XBr.mk' (fun h => ?_) fun h => ?_) <;> conv => whnf) | fail
 all_goals (refine XOut.bool ?_; rw [Bool.eq_iff_iff]; simp [inZ, yo] at *; try omega)
theorem kf (b : Bd) (m : Mo) (a sp st : Int) (h1 : 0 <= a) (h2 : a <= 1000) (h3 : 0 <= m.g) (h4 : m.g <= 100) (h5 : 0 <= b.room) (h6 : b.room <= 1000) (h7 : 0 <= sp) (h8 : sp <= 1000) (h9 : 0 <= st) (h10 : st <= 1000) :
  Comp Tryz.prog 215 [bedA b, moA m, .int .i64 a, chA sp st] (.int .i64 (zJ b.room m.g a sp st)) := by
 have q1 : 0 <= a * m.g := Int.mul_nonneg h1 h3
 have q2 : a * m.g <= 1000 * 100 := Int.mul_le_mul h2 h4 h3 (by omega)
 have q3 : (a * m.g).tdiv 100 = (a * m.g) / 100 := Int.tdiv_eq_ediv_of_nonneg q1
 refine Comp.body (T := tab) (res := [.tmp 8]) zb [] Tryz.func215 rfl (by kernel_rfl) Tryz.ntmps215 rfl (by simp only [List.length_cons, List.length_nil]; decide) (by simp only [lowL, bedL, moL, AV.low]; rfl) ?_; conv => whnf
 repeat' first | ((with_reducible first | refine XBr.y fun h => ?_ | refine XBr.n fun h => ?_ | refine XBr.dec (fun h => ?_) fun h => ?_ | refine XInt.a ?_) <;> conv => whnf) | (refine zh.a ?_; conv => whnf) | fail
 all_goals (refine XOut.int ?_; unfold zJ; omega)
end GA
end
section
namespace GA
open Go Go.RowKit Go.Proofs
theorem bedE_1 {b : Bd} (h : inZ b.room 1 120 = false) : bedE b = 3 := by unfold bedE; rw [if_pos h]
theorem bedE_2 {b : Bd} (h : inZ b.room 1 120 = true) (h2 : inZ b.months.length 1 10 = false \/ (8 : Int) < b.surveys.length) : bedE b = 2 := by unfold bedE; rw [if_neg (by rw [h]; simp), if_pos h2]
theorem bedE_3 {b : Bd} (h : inZ b.room 1 120 = true) (h2 : ¬ (inZ b.months.length 1 10 = false \/ (8 : Int) < b.surveys.length)) (h3 : inZ b.first 0 b.room = false \/ inZ b.unsure 0 40 = false \/ b.months.all (moR b) = false) : bedE b = 3 := by unfold bedE; rw [if_neg (by rw [h]; simp), if_neg h2, if_pos h3]
theorem bedE_4 {b : Bd} (h : inZ b.room 1 120 = true) (h2 : ¬ (inZ b.months.length 1 10 = false \/ (8 : Int) < b.surveys.length)) (h3 : ¬ (inZ b.first 0 b.room = false \/ inZ b.unsure 0 40 = false \/ b.months.all (moR b) = false)) (h4 : b.surveys.all (suR1 b) = false) : bedE b = 3 := by unfold bedE; rw [if_neg (by rw [h]; simp), if_neg h2, if_neg h3, if_pos h4]
theorem bedE_5 {b : Bd} (h : inZ b.room 1 120 = true) (h2 : ¬ (inZ b.months.length 1 10 = false \/ (8 : Int) < b.surveys.length)) (h3 : ¬ (inZ b.first 0 b.room = false \/ inZ b.unsure 0 40 = false \/ b.months.all (moR b) = false)) (h4 : b.surveys.all (suR1 b) = true) (h5 : b.surveys.all (suR2 b) = false) : bedE b = 1 := by unfold bedE; rw [if_neg (by rw [h]; simp), if_neg h2, if_neg h3, if_neg (by rw [h4]; simp), if_pos h5]
theorem bedE_6 {b : Bd} (h : inZ b.room 1 120 = true) (h2 : ¬ (inZ b.months.length 1 10 = false \/ (8 : Int) < b.surveys.length)) (h3 : ¬ (inZ b.first 0 b.room = false \/ inZ b.unsure 0 40 = false \/ b.months.all (moR b) = false)) (h4 : b.surveys.all (suR1 b) = true) (h5 : b.surveys.all (suR2 b) = true) : bedE b = 0 := by unfold bedE; rw [if_neg (by rw [h]; simp), if_neg h2, if_neg h3, if_neg (by rw [h4]; simp), if_neg (by rw [h5]; simp)]
theorem jw {α : Type} {p : α -> Bool} {xs : List α} {d : α} {i : Nat} (hi : i < xs.length) (h : p (xs.getD i d) = false) : xs.all p = false := by
 rw [List.all_eq_false]; exact ⟨_, zB hi, by rw [h]; simp⟩
theorem j5 {α : Type} {p : α -> Bool} {xs : List α} {d : α} (h : ∀ j, j < xs.length -> p (xs.getD j d) = true) : xs.all p = true := by
 rw [List.all_eq_true]; intro x hx
 obtain ⟨j, hj, rfl⟩ := List.mem_iff_getElem.1 hx
 have := h j hj
 rwa [List.getD_eq_getElem?_getD, List.getElem?_eq_getElem hj] at this
theorem kx {P : Nat -> Prop} {k : Nat} (h : ∀ j, j < k -> P j) (hk : P k) : ∀ j, j < k + 1 -> P j := fun j hj => by
 by_cases e : j = k
 ·exact e ▸ hk
 ·exact h j (by omega)
theorem yd (b : Bd) (h1 : b.months.length <= 100000) (h2 : b.surveys.length <= 100000) : Comp Tryz.prog 113 [bedA b] (.int .i64 (bedE b)) := by
 have e1 : ((b.months.map moA).length : Int) = b.months.length := by rw [List.length_map]
 have e2 : ((b.surveys.map suA).length : Int) = b.surveys.length := by rw [List.length_map]
 refine Comp.body (T := tab) (res := [.tmp 2]) zb [] Tryz.func113 rfl (by kernel_rfl) Tryz.ntmps113 rfl (by simp only [List.length_cons, List.length_nil]; decide) (by simp only [lowL, bedL]; rfl) ?_; conv => whnf
 cases hA : inZ b.room 1 120
 ·skip
  repeat' first | ((with_reducible apply XBr.ff); conv => whnf) | with_reducible apply XBr.not | (((refine za.ret (zZ _ _ _) ?_); rw [hA]); conv => whnf) | fail
  exact XOut.int (bedE_1 hA).symm
 repeat' first | ((with_reducible apply XBr.tt); conv => whnf) | with_reducible apply XBr.not | (((refine za.ret (zZ _ _ _) ?_); rw [hA]); conv => whnf) | fail
 by_cases hB : inZ b.months.length 1 10 = false \/ (8 : Int) < b.surveys.length
 ·skip
  repeat' first | ((with_reducible first | apply XBr.tt | apply XBr.ff | refine XBr.y fun h => ?_ | refine XBr.n fun h => ?_ | refine XBr.dec (fun h => ?_) fun h => ?_) <;> conv => whnf) | with_reducible apply XBr.not | ((refine za.ret (zZ _ _ _) ?_); conv => whnf) | ((with_reducible refine XBr.mk' (fun h => ?_) fun h => ?_) <;> conv => whnf) | fail
  all_goals first | exact XOut.int (bedE_2 hA hB).symm | skip
  all_goals (exfalso; simp [e1] at *; rcases hB with hB | hB <;> first | omega | (simp_all; done))
 have hB1 : inZ ((b.months.map moA).length : Int) 1 10 = true := by rw [e1]; cases h : inZ b.months.length 1 10 with | true => rfl | false => exact absurd (.inl h) hB
 have hB2 : ¬ (8 : Int) < b.surveys.length := fun h => hB (.inr h)
 repeat' first | ((with_reducible first | apply XBr.tt | apply XBr.ff | refine XBr.y fun h => ?_ | refine XBr.n fun h => ?_ | refine XBr.dec (fun h => ?_) fun h => ?_) <;> conv => whnf) | with_reducible apply XBr.not | (((refine za.ret (zZ _ _ _) ?_); rw [hB1]); conv => whnf) | fail
 cases hC1 : inZ b.first 0 b.room
 ·skip
  repeat' first | ((with_reducible first | apply XBr.tt | apply XBr.ff); conv => whnf) | with_reducible apply XBr.not | (((refine za.ret (zZ _ _ _) ?_); rw [hC1]); conv => whnf) | fail
  exact XOut.int (bedE_3 hA hB (.inl hC1)).symm
 cases hC2 : inZ b.unsure 0 40
 ·skip
  repeat' first | ((with_reducible first | apply XBr.tt | apply XBr.ff); conv => whnf) | with_reducible apply XBr.not | (((refine za.ret (zZ _ _ _) ?_); (first | rw [hC1] | rw [hC2])); conv => whnf) | fail
  exact XOut.int (bedE_3 hA hB (.inr (.inl hC2))).symm
 repeat' first | ((with_reducible first | apply XBr.tt | apply XBr.ff); conv => whnf) | with_reducible apply XBr.not | (((refine za.ret (zZ _ _ _) ?_); (first | rw [hC1] | rw [hC2])); conv => whnf) | fail
 refine Walk.loopGK zb [] [(1, _)] ⟨rfl, trivial⟩ (fun k : Nat => k <= b.months.length /\ ∀ j, j < k -> moR b (b.months.getD j default) = true) (fun k => [(3, natA k)]) (fun _ => []) (fun k => b.months.length - k) 0 ⟨Nat.zero_le _, fun j hj => by omega⟩ rfl ⟨rfl, trivial⟩ ?_ (fun _ _ => Nat.le_refl _) ?_
 ·intro k _
  refine ⟨by simp, fun z hz => ?_⟩
  simp only [List.cons_append, List.nil_append, List.mem_cons, List.not_mem_nil, or_false] at hz
  rcases hz with rfl | rfl <;> first | rfl | exact zY b
 rintro k ⟨hk, hks⟩
 conv => whnf
 by_cases hlt : k < b.months.length
 ·have hC3 : ∀ h : moR b (b.months.getD k default) = false, bedE b = 3 := fun h => bedE_3 hA hB (.inr (.inr (jw hlt h)))
  have hmr : moR b (b.months.getD k default) = (inZ (b.months.getD k default).g 0 100 && inZ (b.months.getD k default).r 0 b.room && yo (b.months.getD k default).pl (b.months.getD k default).ph 0 60 && yo (b.months.getD k default).tl (b.months.getD k default).th 0 60) := rfl
  rw [hmr] at hC3
  have hgo : (inZ (b.months.getD k default).g 0 100 && inZ (b.months.getD k default).r 0 b.room && yo (b.months.getD k default).pl (b.months.getD k default).ph 0 60 && yo (b.months.getD k default).tl (b.months.getD k default).th 0 60) = true -> ∀ j, j < k + 1 -> moR b (b.months.getD j default) = true := fun h => kx hks (by rw [hmr]; exact h)
  clear hmr
  repeat' first | ((with_reducible first | apply XBr.tt | apply XBr.ff | refine XBr.y fun h => ?_ | refine XBr.n fun h => ?_ | refine XBr.dec (fun h => ?_) fun h => ?_ | refine XInt.a ?_) <;> conv => whnf) | with_reducible apply XBr.not | ((first | refine XIx.a ?_ | refine za.ret (zZ _ _ _) ?_ | refine za.ret (bad04_c _ _ _) ?_); conv => whnf) | ((with_reducible refine XBr.mk' (fun h => ?_) fun h => ?_) <;> conv => whnf) | fail
  all_goals first | exact XOut.int (hC3 (by simp_all)).symm | exact zp.go (k + 1) [.cells (moC (moB b k))] ⟨by omega, hgo (by simp_all)⟩ (by omega) rfl ⟨rfl, rfl, trivial⟩
 obtain rfl : k = b.months.length := by omega
 have hC : ¬ (inZ b.first 0 b.room = false \/ inZ b.unsure 0 40 = false \/ b.months.all (moR b) = false) := by
  rw [hC1, hC2, j5 (d := default) hks]; simp
 clear hks
 repeat' ((with_reducible first | refine XBr.y fun h => ?_ | refine XBr.n fun h => ?_ | refine XBr.dec (fun h => ?_) fun h => ?_) <;> conv => whnf)
 refine Walk.loopK zb [] [(1, _)] ⟨rfl, trivial⟩ (fun k : Nat => k <= b.surveys.length /\ ∀ j, j < k -> suR1 b (b.surveys.getD j default) = true) (fun k => [(5, natA k)]) (fun _ => []) (fun k => b.surveys.length - k) 0 ⟨Nat.zero_le _, fun j hj => by omega⟩ rfl ⟨rfl, trivial⟩ ?_
 rintro k ⟨hk2, hks⟩
 conv => whnf
 by_cases hlt2 : k < b.surveys.length
 ·have hD : ∀ h : suR1 b (b.surveys.getD k default) = false, bedE b = 3 := fun h => bedE_4 hA hB hC (jw hlt2 h)
  have hgo : suR1 b (b.surveys.getD k default) = true -> ∀ j, j < k + 1 -> suR1 b (b.surveys.getD j default) = true := fun h => kx hks h
  have hs : suR1 b (b.surveys.getD k default) = yo (b.surveys.getD k default).lo (b.surveys.getD k default).hi 0 b.room := rfl
  rw [hs] at hD hgo
  clear hs
  have hbad := bad04_c (b.surveys.getD k default).lo (b.surveys.getD k default).hi b.room
  generalize yo (b.surveys.getD k default).lo (b.surveys.getD k default).hi 0 b.room = r at hD hgo hbad
  repeat' first | ((with_reducible first | refine XBr.y fun h => ?_ | refine XBr.n fun h => ?_ | refine XBr.dec (fun h => ?_) fun h => ?_ | refine XInt.a ?_ | apply Chk.go | apply ChkA.go | apply ChkF.go | apply ChkB.go | apply zw.mk) <;> conv => whnf) | (refine XIx.a ?_; conv => whnf) | (with_reducible first | apply XBr.not | apply XAnd.mk | exact trivial) | (exact zd.mk rfl rfl) | (apply Walk.drawN (id := 16) zb zg [] [] (hsU _) [_, _, _, _, _, _, _, _, _] (by kernel_rfl) rfl) | ((refine za.ret hbad ?_); conv => whnf) | ((with_reducible refine XBr.mk' (fun h => ?_) fun h => ?_) <;> conv => whnf) | fail
  ·exact zk.go (k + 1) ⟨by omega, hgo h⟩ (by omega) rfl ⟨rfl, rfl, trivial⟩
  ·exact XOut.int (hD h).symm
 obtain rfl : k = b.surveys.length := by omega
 have hD := j5 (d := default) hks
 clear hks
 repeat' ((with_reducible first | refine XBr.y fun h => ?_ | refine XBr.n fun h => ?_ | refine XBr.dec (fun h => ?_) fun h => ?_) <;> conv => whnf)
 refine Walk.loopK zb [] [(1, _)] ⟨rfl, trivial⟩ (fun k : Nat => k <= b.surveys.length /\ ∀ j, j < k -> suR2 b (b.surveys.getD j default) = true) (fun k => [(6, natA k)]) (fun _ => []) (fun k => b.surveys.length - k) 0 ⟨Nat.zero_le _, fun j hj => by omega⟩ rfl ⟨rfl, trivial⟩ ?_
 rintro k ⟨hk3, hks⟩
 conv => whnf
 by_cases hlt3 : k < b.surveys.length
 ·have hF : ∀ h : suR2 b (b.surveys.getD k default) = false, bedE b = 1 := fun h => bedE_5 hA hB hC hD (jw hlt3 h)
  have hgo : suR2 b (b.surveys.getD k default) = true -> ∀ j, j < k + 1 -> suR2 b (b.surveys.getD j default) = true := fun h => kx hks h
  have hs : suR2 b (b.surveys.getD k default) = inZ (b.surveys.getD k default).m 0 ((b.months.map moA).length : Int) := by rw [e1]; rfl
  rw [hs] at hF hgo
  clear hs
  have hbad := zZ (b.surveys.getD k default).m 0 ((b.months.map moA).length : Int)
  generalize inZ (b.surveys.getD k default).m 0 ((b.months.map moA).length : Int) = r at hF hgo hbad
  repeat' first | ((with_reducible first | refine XBr.y fun h => ?_ | refine XBr.n fun h => ?_ | refine XBr.dec (fun h => ?_) fun h => ?_ | refine XInt.a ?_ | apply Chk.go | apply ChkA.go | apply ChkF.go | apply ChkB.go | apply zw.mk) <;> conv => whnf) | (refine XIx.a ?_; conv => whnf) | (with_reducible first | apply XBr.not | apply XAnd.mk | exact trivial) | (exact zd.mk rfl rfl) | (apply Walk.drawN (id := 21) zb zg [] [] (hsU _) [_, _, _, _, _, _, _, _, _, _] (by kernel_rfl) rfl) | ((refine za.ret hbad ?_); conv => whnf) | ((with_reducible refine XBr.mk' (fun h => ?_) fun h => ?_) <;> conv => whnf) | fail
  ·exact zk.go (k + 1) ⟨by omega, hgo h⟩ (by omega) rfl ⟨rfl, rfl, trivial⟩
  ·exact XOut.int (hF h).symm
 obtain rfl : k = b.surveys.length := by omega
 repeat' ((with_reducible first | refine XBr.y fun h => ?_ | refine XBr.n fun h => ?_ | refine XBr.dec (fun h => ?_) fun h => ?_) <;> conv => whnf)
 exact XOut.int (bedE_6 hA hB hC hD (j5 (d := default) hks)).symm
end GA
end
section
namespace GA
open Go Go.RowKit Go.Proofs
def bls (W : Nat) (F : Nat -> Bool) : List AV := (vecF W F).map .bool
theorem z9 (W : Nat) (F : Nat -> Bool) : (bls W F).length = W := by rw [bls, List.length_map, zj]
theorem kC {n : Nat} (W : Nat) (F : Nat -> Bool) : lowL n (bls W F) = true := g8 fun _ => rfl
theorem bls0 (W : Nat) : List.replicate W (AV.bool false) = bls W fun _ => false := by unfold bls; rw [zT, List.map_replicate]
theorem XIx.bls {W : Nat} {F : Nat -> Bool} {n : Int} {k : AV -> Prop} (i : Nat) (hn : n = i) (h2 : i < W) (h : k (.pim [.bool (F i)])) : XIx (bls W F) n 1 k := by
 subst hn
 have e : nth (GA.bls W F) (i : Int) = .bool (F i) := by
  unfold nth
  rw [Int.toNat_natCast, List.getD_eq_getElem?_getD]; unfold GA.bls; rw [zb4 h2]; rfl
 refine ⟨by omega, by rw [z9]; omega, by rw [e]; rfl, ?_⟩
 rw [e]; exact h
theorem XGet.bls {W : Nat} {F : Nat -> Bool} {n e : Nat} {k : List AV -> Prop} (h1 : n = W) (h2 : e < W) (h : k [.bool (F e)]) : XGet (bls W F) n e k := by
 subst h1
 refine XGet.mapF (f := AV.bool) true (by rw [zj]) h2 ?_
 rw [yq _ h2]; exact h
theorem XPut.bls {W : Nat} {F : Nat -> Bool} {n e : Nat} {v : Bool} {k : List AV -> Prop} (j : Nat) (he : e = j) (h1 : n = W) (h2 : j < W) (h : k (bls W (updV F j v))) : XPut (bls W F) n e (.bool v) k := by
 subst he; subst h1
 refine XPut.map (f := AV.bool) v rfl (by rw [zj]) h2 ?_
 rw [yF]; exact h
theorem vi (nl : Bool) (F : Nat -> Bool) (W : Nat) (hW : W <= 100000) : Comp Tryz.prog 220 [.sl nl (bls W F)] (slA (lstF F W)) := by
 have e1 : ((bls W F).length : Int) = W := by rw [z9]
 refine Comp.body (T := tab) (res := [.tmp 2]) zb [] Tryz.func220 rfl (by kernel_rfl) Tryz.ntmps220 rfl (by simp only [List.length_cons, List.length_nil]; decide) (by simp only [lowL, AV.low, kC]; rfl) ?_; conv => whnf
 skip
 refine Walk.nilgr 3 3 rfl ?_
 refine Walk.loopK zb [] [(0, _), (2, _)] ⟨rfl, rfl, trivial⟩ (fun n : Nat => n <= W) (fun n => [(3, .gr 0 (lstF F n).length), (4, natA n)]) (fun n => [.grow 3 (lstF F n).isEmpty (ints (lstF F n))]) (fun n => W - n) 0 (Nat.zero_le _) rfl ⟨rfl, rfl, trivial⟩ ?_
 intro n hn
 have hs := kw F n
 have hl := yR F n
 have hl2 : (ints (lstF F n)).length = (lstF F n).length := zm _
 generalize hc : F n = s at hs
 conv => whnf
 repeat' first | ((with_reducible first | refine XBr.y fun h => ?_ | refine XBr.n fun h => ?_ | refine XBr.dec (fun h => ?_) fun h => ?_ | refine XInt.a ?_) <;> conv => whnf) | (refine zh.a ?_; conv => whnf) | (((refine XIx.bls n rfl (by omega) ?_); rw [hc]); conv => whnf) | ((with_reducible refine XBr.mk' (fun h => ?_) fun h => ?_) <;> conv => whnf) | fail
 ·rename_i h
  subst h
  rw [if_pos rfl] at hs
  refine zk.go (n + 1) (by omega) (by omega) ?_ ⟨rfl, rfl, ?_, rfl, trivial⟩
  ·rw [hs]
   show [Blk.grow _ (lstF F n ++ [(n : Int)]).isEmpty ((lstF F n ++ [(n : Int)]).map (AV.int .i64))] = _
   rw [zD, List.map_append]; rfl
  ·show some (AV.gr 0 ((lstF F n).length + 1)) = _
   rw [hs, List.length_append]; rfl
 ·rename_i h
  subst h
  rw [if_neg (by simp)] at hs
  exact zk.go (n + 1) (by omega) (by omega) (by rw [hs]) ⟨rfl, rfl, by rw [hs]; rfl, rfl, trivial⟩
 ·obtain rfl : n = W := by omega
  exact ⟨Froz.grow rfl hl2 (lowI _)⟩
theorem fH {F : Nat -> Bool} : ∀ {n : Nat}, (∀ i, i < n -> F i = false) -> lstF F n = []
 | 0, _ => rfl
 | n + 1, h => by rw [kw, if_neg (by rw [h n (by omega)]; simp), fH fun i hi => h i (by omega)]
theorem zbs {F : Nat -> Bool} {c : Nat} (hc : F c = true) (h : ∀ i, i < c -> F i = false) : ∀ {n : Nat}, c < n -> (lstF F n).getD 0 default = c
 | n + 1, hn => by
   rw [kw]
   by_cases e : c = n
   ·subst e; rw [if_pos hc, fH h]; rfl
   ·have ih := zbs hc h (n := n) (by omega)
    have hne : 0 < (lstF F n).length := List.length_pos_of_mem (jG.2 ⟨c, by omega, hc, rfl⟩)
    split
    ·rw [List.getD_eq_getElem?_getD, List.getElem?_append_left hne, <- List.getD_eq_getElem?_getD]; exact ih
    ·exact ih
theorem planE_2 {b : Bd} {plan : List Int} (h : bedE b = 0) (h2 : (plan.length : Int) ≠ b.months.length) : ym b plan = 2 := by unfold ym; rw [if_neg (fun h' => h' h), if_pos h2]
theorem planE_3 {b : Bd} {plan : List Int} (h : bedE b = 0) (h2 : ¬ (plan.length : Int) ≠ b.months.length) (h3 : plan.all (fun x => inZ x 0 b.room) = false) : ym b plan = 3 := by unfold ym; rw [if_neg (fun h' => h' h), if_neg h2, if_pos h3]
theorem zbV (b : Bd) (nl : Bool) (plan : List Int) (h1 : b.months.length <= 100000) (h2 : b.surveys.length <= 100000) (h3 : plan.length <= 100000) : Comp Tryz.prog 126 [bedA b, .sl nl (ints plan)] (.int .i64 (ym b plan)) := by
 have hc := yd b h1 h2
 have e1 : ((b.months.map moA).length : Int) = b.months.length := by rw [List.length_map]
 have e2 : ((ints plan).length : Int) = plan.length := by rw [zm]
 by_cases hb : bedE b = 0
 ·rw [hb] at hc
  refine Comp.body (T := tab) (res := [.tmp 4]) zb [] Tryz.func126 rfl (by kernel_rfl) Tryz.ntmps126 rfl (by simp only [List.length_cons, List.length_nil]; decide) (by simp only [lowL, bedL, AV.low, lowI]; rfl) ?_; conv => whnf
  repeat' first | ((with_reducible first | refine XBr.y2 fun h => ?_ | refine XBr.n2 fun h => ?_ | refine XBr.bne (fun h => ?_) fun h => ?_) <;> conv => whnf) | ((refine za.ret hc ?_); conv => whnf) | fail
  ·exact XOut.int (planE_2 hb (by rw [e1, e2] at *; omega)).symm
  have hlen : ¬ (plan.length : Int) ≠ b.months.length := by rw [e1, e2] at *; omega
  refine Walk.loopK zb [] [(1, _), (2, _)] ⟨rfl, rfl, trivial⟩ (fun k : Nat => k <= plan.length /\ ∀ j, j < k -> inZ (plan.getD j default) 0 b.room = true) (fun k => [(6, natA k)]) (fun _ => []) (fun k => plan.length - k) 0 ⟨Nat.zero_le _, fun j hj => by omega⟩ rfl ⟨rfl, trivial⟩ ?_
  rintro k ⟨hk, hks⟩
  conv => whnf
  by_cases hlt : k < plan.length
  ·have hE : inZ (plan.getD k default) 0 b.room = false -> ym b plan = 3 := fun h => planE_3 hb hlen (jw (p := fun x => inZ x 0 b.room) hlt h)
   have hgo : inZ (plan.getD k default) 0 b.room = true -> ∀ j, j < k + 1 -> inZ (plan.getD j default) 0 b.room = true := fun h => kx hks h
   have hof := zZ (plan.getD k default) 0 b.room
   generalize inZ (plan.getD k default) 0 b.room = r at hE hgo hof
   repeat' first | ((with_reducible first | refine XBr.y fun h => ?_ | refine XBr.n fun h => ?_ | refine XBr.dec (fun h => ?_) fun h => ?_ | refine XInt.a ?_ | apply Chk.go | apply ChkA.go | apply ChkF.go | apply ChkB.go | apply zw.mk) <;> conv => whnf) | (refine XIx.a ?_; conv => whnf) | (with_reducible first | apply XBr.not | apply XAnd.mk | exact trivial) | (exact zd.mk rfl rfl) | (apply Walk.drawN (id := 9) zb zg [] [] (hsU _) [_, _, _, _, _, _, _] (by kernel_rfl) rfl) | ((refine za.ret hof ?_); conv => whnf) | ((with_reducible refine XBr.mk' (fun h => ?_) fun h => ?_) <;> conv => whnf) | fail
   ·exact zk.go (k + 1) ⟨by omega, hgo h⟩ (by omega) rfl ⟨rfl, rfl, rfl, trivial⟩
   ·exact XOut.int (hE h).symm
  ·obtain rfl : k = plan.length := by omega
   repeat' ((with_reducible first | refine XBr.y fun h => ?_ | refine XBr.n fun h => ?_ | refine XBr.dec (fun h => ?_) fun h => ?_) <;> conv => whnf)
   refine XOut.int ?_
   unfold ym
   rw [if_neg (fun h' => h' hb), if_neg hlen, if_neg (by rw [j5 (p := fun x => inZ x 0 b.room) (d := default) hks]; simp)]
 ·have hE : ym b plan = bedE b := by unfold ym; rw [if_pos hb]
  rw [hE]
  generalize bedE b = e at hc hb
  refine Comp.body (T := tab) (res := [.tmp 4]) zb [] Tryz.func126 rfl (by kernel_rfl) Tryz.ntmps126 rfl (by simp only [List.length_cons, List.length_nil]; decide) (by simp only [lowL, bedL, AV.low, lowI]; rfl) ?_; conv => whnf
  repeat' first | ((with_reducible first | refine XBr.y2 fun h => ?_ | refine XBr.n2 fun h => ?_ | refine XBr.bne (fun h => ?_) fun h => ?_) <;> conv => whnf) | ((refine za.ret hc ?_); conv => whnf) | fail
  exact ⟨.low rfl⟩
theorem za5 {b : Bd} {plan : List Int} {i n : Nat} (hi : i < b.months.length) : endP b plan (b.months.length - i) n = if lieR b i n - plan.getD i 0 < 0 then lieR b i n - plan.getD i 0 else endP b plan (b.months.length - (i + 1)) (lieR b i n - plan.getD i 0).toNat := by
 obtain ⟨k, hk⟩ : ∃ k, b.months.length - i = k + 1 := ⟨b.months.length - i - 1, by omega⟩
 rw [hk, endP, show b.months.length - (k + 1) = i by omega, show b.months.length - (i + 1) = k by omega]
theorem kV {b c : Bd} (hr : b.room = c.room) (hm : b.months = c.months) {plan : List Int} : ∀ k n, endP b plan k n = endP c plan k n
 | 0, _ => rfl
 | k + 1, n => by
   have hl : ∀ m n, lieR b m n = lieR c m n := fun m n => by unfold lieR; rw [hr, hm]
   rw [endP, endP, hm, hl, kV hr hm k]
def negR (e : Int) : Int := if e < 0 then -1 else e
theorem along_c (b : Bd) (ok : BedOk b) (n1 n2 : Bool) (plan : List Int) (hl : plan.length = b.months.length) (hp : ∀ x ∈ plan, 0 <= x /\ x <= b.room) (n0 : Nat) (hn0 : (n0 : Int) <= b.room) :
  Comp Tryz.prog 130 [bedA b, .sl n1 (ints plan), natA n0, .sl n2 (chsA (zI b))] (.int .i64 (negR (endP b plan b.months.length n0))) := by
 have m1 := ok.m1
 have m2 := ok.m2
 have r1 := ok.r1
 have r2 := ok.r2
 have e1 : ((b.months.map moA).length : Int) = b.months.length := by rw [List.length_map]
 have hwl : (zI b).length = b.months.length := List.length_map _
 refine Comp.body (T := tab) (res := [.tmp 8]) zb [] Tryz.func130 rfl (by kernel_rfl) Tryz.ntmps130 rfl (by simp only [List.length_cons, List.length_nil]; decide) (by simp only [lowL, bedL, AV.low, lowI, zU]; rfl) ?_; conv => whnf
 skip
 refine Walk.loopK zb [] [(1, _), (3, _), (4, _)] ⟨rfl, rfl, rfl, trivial⟩ (fun q : Nat × Nat => q.1 <= b.months.length /\ (q.2 : Int) <= b.room /\ endP b plan (b.months.length - q.1) q.2 = endP b plan b.months.length n0) (fun q => [(2, natA q.2), (9, natA q.1)]) (fun _ => []) (fun q => b.months.length - q.1) (0, n0) ⟨Nat.zero_le _, hn0, rfl⟩ rfl ⟨rfl, rfl, trivial⟩ ?_
 rintro ⟨m, n⟩ ⟨hm, hn, he⟩
 dsimp only at hm hn he ⊢
 conv => whnf
 by_cases hlt : m < b.months.length
 ·have hmo := ok.mo' hlt
  have hw : (zI b).getD m default = ((moB b m).pl, (moB b m).th) := by
   unfold zI moB
   rw [List.getD_eq_getElem?_getD, List.getElem?_map, List.getElem?_eq_getElem hlt, List.getD_eq_getElem?_getD, List.getElem?_eq_getElem hlt]; rfl
  have hg := kf b (moB b m) n (moB b m).pl (moB b m).th (by omega) (by omega) hmo.1 hmo.2.1 (by omega) (by omega) (by omega) (by omega) (by omega) (by omega)
  change Comp Tryz.prog _ _ (.int .i64 (lieR b m n)) at hg
  have hlb := yp ok (j := m) (n := n) hlt
  have hpm := hp _ (zB (d := default) (show m < plan.length by omega))
  rw [za5 hlt] at he
  have hpd : plan.getD m 0 = plan.getD m default := rfl
  rw [hpd] at he
  repeat' first | ((with_reducible first | refine XBr.y fun h => ?_ | refine XBr.n fun h => ?_ | refine XBr.dec (fun h => ?_) fun h => ?_ | refine XInt.a ?_ | apply Chk.go | apply ChkA.go | apply ChkF.go | apply ChkB.go | apply zw.mk) <;> conv => whnf) | (refine XIx.a ?_; conv => whnf) | (with_reducible first | apply XAnd.mk | exact trivial) | (exact zd.mk rfl rfl) | (apply Walk.drawN (id := 4) zb zg [] [] (hsU _) [_, _, _, _, _, _, _, _, _, _, _, _, _, _, _, _, _, _] (by kernel_rfl) rfl) | ((rw [hw]; refine za.ret hg ?_); conv => whnf) | fail
  ·rename_i h
   have h' : lieR b m n - plan.getD m default < 0 := h
   rw [if_pos h'] at he
   refine XOut.int ?_
   rw [<- he]; unfold negR; rw [if_pos h']
  ·rename_i h
   have h' : ¬ lieR b m n - plan.getD m default < 0 := h
   rw [if_neg h'] at he
   exact zk.go (m + 1, (lieR b m n - plan.getD m default).toNat) ⟨by dsimp only; omega, by dsimp only; omega, he⟩ (by dsimp only; omega) rfl ⟨rfl, rfl, rfl, congrArg (fun z => some (AV.int .i64 z)) (show lieR b m n - plan.getD m default = (((lieR b m n - plan.getD m default).toNat : Nat) : Int) by omega), rfl, trivial⟩
 ·obtain rfl : m = b.months.length := by omega
  repeat' ((with_reducible first | refine XBr.y fun h => ?_ | refine XBr.n fun h => ?_ | refine XBr.dec (fun h => ?_) fun h => ?_) <;> conv => whnf)
  refine XOut.int ?_
  rw [<- he, Nat.sub_self]
  show (n : Int) = negR (n : Int)
  unfold negR; rw [if_neg (by omega)]
end GA
end
section
namespace GA
open Go Go.RowKit Go.Proofs
structure EI (c : Int) (G : Nat -> Bool) (d : Prop) : Prop where
 lo : ∀ k : Nat, G k = true -> c <= k
 dn : d -> 0 <= c /\ G c.toNat = true
theorem EI.weak {c : Int} {G : Nat -> Bool} {d d' : Prop} (h : EI c G d) (hd : d' -> d) : EI c G d' := ⟨h.lo, fun x => h.dn (hd x)⟩
theorem EI.put {c : Int} {G : Nat -> Bool} {d d' : Prop} (h : EI c G d) {v : Nat} (hv : c <= v) (hd : d' -> d \/ (v : Int) = c) : EI c (updV G v true) d' := by
 refine ⟨fun k hk => ?_, fun x => ?_⟩
 ·unfold updV at hk
  split at hk
  ·rename_i e; subst e; exact hv
  ·exact h.lo k hk
 ·unfold updV
  rcases hd x with h1 | h1
  ·obtain ⟨h2, h3⟩ := h.dn h1
   refine ⟨h2, ?_⟩
   split <;> first | rfl | exact h3
  ·exact ⟨by omega, by rw [if_pos (by omega)]⟩
theorem grC_lo {b : Bd} (ok : BedOk b) {m : Nat} (hm : m < b.months.length) {c n : Nat} (h : c <= n) {sp st : Int} (hc : InC b m sp st) : lieR b m c <= grC b m n sp st := by
 have h1 := (gy ok hm (n := n) hc).1
 have h2 := ge ok hm h
 omega
set_option maxHeartbeats 1000000 in
theorem ends_c (b : Bd) (ok : BedOk b) (nl : Bool) (plan : List Int) (hl : plan.length = b.months.length) (hp : ∀ x ∈ plan, 0 <= x /\ x <= b.room) : Comp Tryz.prog 127 [bedA b, .sl nl (ints plan)] (.int .i64 (negR (endP b plan b.months.length (zn b).toNat))) := by
 have m1 := ok.m1
 have m2 := ok.m2
 have r1 := ok.r1
 have r2 := ok.r2
 have f1 := ok.f1
 have f2 := ok.f2
 have u1 := ok.u1
 have u2 := ok.u2
 have e1 : ((b.months.map moA).length : Int) = b.months.length := by rw [List.length_map]
 have hlr : zn b = max 0 (b.first - b.unsure) := rfl
 obtain ⟨c0, hc0⟩ : ∃ c0 : Nat, (zn b).toNat = c0 := ⟨_, rfl⟩
 rw [hc0]
 generalize hE : endP b plan b.months.length c0 = E
 refine Comp.body (T := tab) (res := [.tmp 4]) zb [] Tryz.func127 rfl (by kernel_rfl) Tryz.ntmps127 rfl (by simp only [List.length_cons, List.length_nil]; decide) (by simp only [lowL, bedL, AV.low, lowI]; rfl) ?_; conv => whnf
 repeat' first | ((with_reducible refine XInt.a ?_); conv => whnf) | (refine zh.a ?_; conv => whnf) | fail
 refine Walk.loopK zb [] [(1, _), (2, _), (4, _), (5, _)] ⟨rfl, rfl, rfl, rfl, trivial⟩ (fun n : Nat => (n : Int) <= b.room + 1) (fun n => [(6, natA n)]) (fun n => [.grow 4 false (bls (b.room + 1).toNat fun q => decide (q < n) && inZ q (b.first - b.unsure) (b.first + b.unsure))]) (fun n => (b.room + 1).toNat - n) 0 (by omega) ?_ ⟨rfl, trivial⟩ ?_
 ·show [Blk.grow _ false (bls _ _)] = [Blk.grow _ false (List.replicate _ _)]
  rw [bls0]
  refine congrArg (fun z => [Blk.grow _ false z]) (congrArg (List.map AV.bool) (zy fun i hi => ?_))
  rw [decide_eq_false (by omega)]; rfl
 ·intro n hn
  have hin := fun (i : Nat) => show updV (fun q : Nat => decide (q < n) && inZ q (b.first - b.unsure) (b.first + b.unsure)) n (inZ n (b.first - b.unsure) (b.first + b.unsure)) i = (decide (i < n + 1) && inZ i (b.first - b.unsure) (b.first + b.unsure)) by
   unfold updV
   split
   ·rename_i e; subst e; rw [decide_eq_true (by omega)]; rfl
   ·rw [show decide (i < n + 1) = decide (i < n) by rw [decide_eq_decide]; omega]
  conv => whnf
  by_cases hlt : (n : Int) <= b.room
  ·have hof := zZ n (b.first - b.unsure) (b.first + b.unsure)
   generalize inZ (n : Int) (b.first - b.unsure) (b.first + b.unsure) = r at hof hin
   cases r
   all_goals
    repeat' first | ((with_reducible first | refine XBr.y fun h => ?_ | refine XBr.n fun h => ?_ | refine XBr.dec (fun h => ?_) fun h => ?_ | refine XInt.a ?_) <;> conv => whnf) | ((first | refine za.ret hof ?_ | refine zh.mk ⟨z9 _ _, rfl, by omega, by omega⟩ ?_ | refine XPut.bls n (by omega) rfl (by omega) ?_); conv => whnf) | fail
    exact zk.go (n + 1) (by omega) (by omega) (congrArg (fun z => [Blk.grow _ false z]) (congrArg (List.map AV.bool) (zy fun i hi => (hin i).symm))) ⟨rfl, rfl, rfl, rfl, rfl, trivial⟩
  ·obtain rfl : n = (b.room + 1).toNat := by omega
   clear hin
   repeat' ((with_reducible first | refine XBr.y fun h => ?_ | refine XBr.n fun h => ?_ | refine XBr.dec (fun h => ?_) fun h => ?_) <;> conv => whnf)
   refine Walk.freeze 5 0 (b.room + 1).toNat rfl rfl (z9 _ _) ?_
   refine Walk.loopFK zb [] [(1, _), (2, _)] ⟨rfl, rfl, trivial⟩ (fun q : Nat × Nat × (Nat -> Bool) => q.1 <= b.months.length /\ (q.2.1 : Int) <= b.room /\ q.2.2 q.2.1 = true /\ (∀ n : Nat, (n : Int) <= b.room -> q.2.2 n = true -> q.2.1 <= n) /\ endP b plan (b.months.length - q.1) q.2.1 = E) (fun q => [(5, .sl false (bls (b.room + 1).toNat q.2.2)), (7, natA q.1)]) (fun _ => [.dead]) (fun q => b.months.length - q.1) (0, c0, fun q => decide (q < (b.room + 1).toNat) && inZ q (b.first - b.unsure) (b.first + b.unsure)) ⟨Nat.zero_le _, by dsimp only; omega, ?_, ?_, hE⟩ rfl ⟨rfl, rfl, trivial⟩ ?_ (fun _ _ => (show (1 : Nat) <= 1 from Nat.le_refl 1)) ?_
   ·dsimp only; rw [decide_eq_true (by omega), zx.2 (by omega)]; rfl
   ·intro n hn hh
    dsimp only at hh
    rw [Bool.and_eq_true, zx] at hh
    dsimp only; omega
   ·intro q _ z hz
    rw [List.mem_singleton] at hz; subst hz; rfl
   rintro ⟨i, c, F⟩ ⟨hi, hc, hF, hF2, he⟩
   dsimp only at hi hc hF hF2 he ⊢
   conv => whnf
   by_cases hlt2 : i < b.months.length
   ·have hmo := ok.mo' hlt2
    have hpm := hp _ (zB (d := default) (show i < plan.length by omega))
    have hpd : plan.getD i 0 = plan.getD i default := rfl
    have hlb := yp ok (j := i) (n := c) hlt2
    have hglo := fun (n : Nat) (h : c <= n) (sp st : Int) (q : InC b i sp st) => grC_lo ok hlt2 h q
    have hgb := fun (n : Nat) (sp st : Int) (q : InC b i sp st) => gy ok hlt2 (n := n) q
    have hgc : lieR b i c = grC b i c (moB b i).pl (moB b i).th := rfl
    have hgr := fun (n : Nat) (hn : (n : Int) <= b.room) (sp st : Int) (q : InC b i sp st) => kf b (moB b i) n sp st (by omega) (by omega) hmo.1 hmo.2.1 (by omega) (by omega) (by have := q.1; omega) (by have := q.2.1; omega) (by have := q.2.2.1; omega) (by have := q.2.2.2; omega)
    change ∀ (n : Nat) (hn : (n : Int) <= b.room) (sp st : Int) (q : InC b i sp st), Comp Tryz.prog _ _ (.int .i64 (grC b i n sp st)) at hgr
    rw [za5 hlt2, hpd] at he
    generalize hcc : lieR b i c - plan.getD i default = c' at he
    repeat' first | ((with_reducible first | refine XBr.y fun h => ?_ | refine XBr.n fun h => ?_ | refine XBr.dec (fun h => ?_) fun h => ?_ | refine XInt.a ?_) <;> conv => whnf) | ((first | refine zh.a ?_ | refine XIx.a ?_); conv => whnf) | fail
    refine Walk.loopK zb [] [(1, _), (2, _), (5, _), (7, _), (8, _), (9, _)] ⟨rfl, rfl, rfl, rfl, rfl, rfl, trivial⟩ (fun q : Nat × (Nat -> Bool) => (q.1 : Int) <= b.room + 1 /\ EI c' q.2 (c < q.1)) (fun q => [(10, natA q.1)]) (fun q => [.dead, .cells (moC (moB b i)), .grow 4 false (bls (b.room + 1).toNat q.2)]) (fun q => (b.room + 1).toNat - q.1) (0, fun _ => false) ⟨by dsimp only; omega, ⟨fun k h => (by cases h), fun h => (by omega)⟩⟩ ?_ ⟨rfl, trivial⟩ ?_
    ·show [Blk.dead, Blk.cells _, Blk.grow _ false (bls _ _)] = [Blk.dead, Blk.cells _, Blk.grow _ false (List.replicate _ _)]
     rw [bls0]; rfl
    rintro ⟨n, G⟩ ⟨hn, hG⟩
    dsimp only at hn hG ⊢
    conv => whnf
    by_cases hltn : (n : Int) <= b.room
    ·skip
     repeat' ((with_reducible first | refine XBr.y fun h => ?_ | refine XBr.n fun h => ?_ | refine XBr.dec (fun h => ?_) fun h => ?_) <;> conv => whnf)
     cases hFn : F n
     ·have hcn : c ≠ n := fun e => by rw [e, hFn] at hF; cases hF
      refine Walk.loopK zb [] [(1, _), (2, _), (5, _), (7, _), (8, _), (9, _), (10, _)] ⟨rfl, rfl, rfl, rfl, rfl, rfl, rfl, trivial⟩ (fun _ : Unit => True) (fun _ => [(11, .int .i64 (moB b i).pl)]) (fun q => [.dead, .cells (moC (moB b i)), .grow 4 false (bls (b.room + 1).toNat G)]) (fun _ => 0) () trivial rfl ⟨rfl, trivial⟩ ?_
      intro _ _
      conv => whnf
      repeat' first | ((first | (with_reducible first | apply XBr.ff | refine XInt.a ?_) | ((refine XIx.bls n rfl (by omega) ?_); rw [hFn])); conv => whnf) | fail
      exact zk.go (n + 1, G) ⟨by dsimp only; omega, hG.weak fun h => by omega⟩ (by dsimp only; omega) rfl ⟨rfl, rfl, rfl, rfl, rfl, rfl, rfl, trivial⟩
     ·have hcn := hF2 n hltn hFn
      refine Walk.loopK zb [] [(1, _), (2, _), (5, _), (7, _), (8, _), (9, _), (10, _)] ⟨rfl, rfl, rfl, rfl, rfl, rfl, rfl, trivial⟩ (fun q : Int × (Nat -> Bool) => (moB b i).pl <= q.1 /\ q.1 <= (moB b i).ph + 1 /\ EI c' q.2 (c < n \/ (c = n /\ (moB b i).pl < q.1))) (fun q => [(11, .int .i64 q.1)]) (fun q => [.dead, .cells (moC (moB b i)), .grow 4 false (bls (b.room + 1).toNat q.2)]) (fun q => ((moB b i).ph + 1 - q.1).toNat) ((moB b i).pl, G) ⟨Int.le_refl _, by dsimp only; omega, hG.weak fun h => by omega⟩ rfl ⟨rfl, trivial⟩ ?_
      rintro ⟨sp, G⟩ ⟨hs1, hs2, hG⟩
      dsimp only at hs1 hs2 hG ⊢
      conv => whnf
      by_cases hlts : sp <= (moB b i).ph
      ·skip
       repeat' first | ((with_reducible first | apply XBr.tt | refine XBr.y fun h => ?_ | refine XBr.n fun h => ?_ | refine XBr.dec (fun h => ?_) fun h => ?_) <;> conv => whnf) | (((refine XIx.bls n rfl (by omega) ?_); rw [hFn]); conv => whnf) | fail
       refine Walk.loopK zb [] [(1, _), (2, _), (5, _), (7, _), (8, _), (9, _), (10, _), (11, _)] ⟨rfl, rfl, rfl, rfl, rfl, rfl, rfl, rfl, trivial⟩ (fun q : Int × (Nat -> Bool) => (moB b i).tl <= q.1 /\ q.1 <= (moB b i).th + 1 /\ EI c' q.2 (c < n \/ (c = n /\ ((moB b i).pl < sp \/ (moB b i).th < q.1)))) (fun q => [(12, .int .i64 q.1)]) (fun q => [.dead, .cells (moC (moB b i)), .grow 4 false (bls (b.room + 1).toNat q.2)]) (fun q => ((moB b i).th + 1 - q.1).toNat) ((moB b i).tl, G) ⟨Int.le_refl _, by dsimp only; omega, hG.weak fun h => by omega⟩ rfl ⟨rfl, trivial⟩ ?_
       rintro ⟨st, G⟩ ⟨ht1, ht2, hG⟩
       dsimp only at ht1 ht2 hG ⊢
       conv => whnf
       by_cases hltt : st <= (moB b i).th
       ·have hin : InC b i sp st := ⟨hs1, hlts, ht1, hltt⟩
        have hg := hgr n hltn sp st hin
        have hb := hgb n sp st hin
        have hlo := hglo n hcn sp st hin
        have hcv : c = n -> ¬ (moB b i).pl < sp -> ¬ (moB b i).th < st -> (moB b i).th < st + 1 -> grC b i n sp st = lieR b i c := fun h1 h2 h3 h4 => by
         rw [hgc, h1, show sp = (moB b i).pl by omega, show st = (moB b i).th by omega]
        generalize grC b i n sp st = v at hg hb hlo hcv
        repeat' first | ((with_reducible first | refine XBr.y fun h => ?_ | refine XBr.n fun h => ?_ | refine XBr.dec (fun h => ?_) fun h => ?_ | refine XInt.a ?_ | apply Chk.go | apply ChkA.go | apply ChkF.go | apply ChkB.go | apply zw.mk) <;> conv => whnf) | (refine XIx.a ?_; conv => whnf) | (with_reducible first | apply XAnd.mk | exact trivial) | (exact zd.mk rfl rfl) | (apply Walk.drawN (id := 20) zb zg [] [] (hsU _) [_, _, _, _, _, _, _, _, _, _, _, _, _] (by kernel_rfl) rfl) | ((first | refine za.ret hg ?_ | refine zh.mk ⟨z9 _ _, rfl, by omega, by omega⟩ ?_ | refine XPut.bls (v - plan.getD i default).toNat rfl rfl (by omega) ?_); conv => whnf) | fail
        ·rename_i h
         have h' : v - plan.getD i default < 0 := h
         rw [if_pos (by omega)] at he
         refine XOut.int ?_
         unfold negR; rw [<- he, if_pos (by omega)]
        ·rename_i h
         have h' : ¬ v - plan.getD i default < 0 := h
         refine zk.go (st + 1, _) ⟨by dsimp only; omega, by dsimp only; omega, hG.put (by omega) fun h => ?_⟩ (by dsimp only; omega) rfl ⟨rfl, rfl, rfl, rfl, rfl, rfl, rfl, rfl, rfl, trivial⟩
         by_cases hd : c < n \/ c = n /\ ((moB b i).pl < sp \/ (moB b i).th < st)
         ·exact .inl hd
         ·right
          have := hcv (by omega) (by omega) (by omega) (by omega)
          omega
       ·skip
        repeat' ((with_reducible first | refine XBr.y fun h => ?_ | refine XBr.n fun h => ?_ | refine XBr.dec (fun h => ?_) fun h => ?_ | refine XInt.a ?_) <;> conv => whnf)
        exact zk.go (sp + 1, G) ⟨by dsimp only; omega, by dsimp only; omega, hG.weak fun h => by omega⟩ (by dsimp only; omega) rfl ⟨rfl, rfl, rfl, rfl, rfl, rfl, rfl, rfl, trivial⟩
      ·skip
       repeat' first | ((with_reducible first | apply XBr.tt | refine XBr.y fun h => ?_ | refine XBr.n fun h => ?_ | refine XBr.dec (fun h => ?_) fun h => ?_ | refine XInt.a ?_) <;> conv => whnf) | (((refine XIx.bls n rfl (by omega) ?_); rw [hFn]); conv => whnf) | fail
       exact zk.go (n + 1, G) ⟨by dsimp only; omega, hG.weak fun h => by omega⟩ (by dsimp only; omega) rfl ⟨rfl, rfl, rfl, rfl, rfl, rfl, rfl, trivial⟩
    ·skip
     repeat' ((with_reducible first | refine XBr.y fun h => ?_ | refine XBr.n fun h => ?_ | refine XBr.dec (fun h => ?_) fun h => ?_ | refine XInt.a ?_) <;> conv => whnf)
     obtain ⟨hz1, hz2⟩ := hG.dn (by omega)
     rw [if_neg (by omega)] at he
     refine qo.go (i + 1, c'.toNat, G) [.cells (moC (moB b i)), .grow 4 false (bls (b.room + 1).toNat G)] ⟨by dsimp only; omega, by dsimp only; omega, hz2, fun n hn h => ?_, he⟩ (by dsimp only; omega) rfl ⟨⟨_, rfl, .same (by simp only [AV.low, lowI])⟩, ⟨_, rfl, .same (zY b)⟩, ⟨_, rfl, .gr (show (1 : Nat) <= 2 by decide) rfl (z9 _ _) (kC _ _)⟩, ⟨_, rfl, .same rfl⟩, trivial⟩
     have := hG.lo n h
     dsimp only; omega
   ·obtain rfl : i = b.months.length := by omega
    rw [Nat.sub_self] at he
    change (c : Int) = E at he
    have hli := vi false F (b.room + 1).toNat (by omega)
    have hhd := zbs (F := F) (c := c) hF (fun j hj => by
     cases h : F j with
     | false => rfl
     | true => have := hF2 j (by omega) h; omega) (n := (b.room + 1).toNat) (by omega)
    have hne : 0 < (lstF F (b.room + 1).toNat).length := List.length_pos_of_mem (jG.2 ⟨c, by omega, hF, rfl⟩)
    generalize lstF F (b.room + 1).toNat = ls at hli hhd hne
    have e3 : ((ints ls).length : Int) = ls.length := by rw [zm]
    repeat' first | ((with_reducible first | refine XBr.y fun h => ?_ | refine XBr.n fun h => ?_ | refine XBr.dec (fun h => ?_) fun h => ?_) <;> conv => whnf) | ((first | refine XIx.b ?_ | refine za.ret hli ?_); conv => whnf) | fail
    refine XOut.int ?_
    rw [<- he]
    unfold negR; rw [if_neg (by omega)]
    exact hhd
end GA
end
section
namespace GA
open Go Go.RowKit Go.Proofs
theorem dupC (nl : Bool) (xs : List Int) (hx : xs.length <= 100000) : Comp Tryz.prog 125 [.sl nl (ints xs)] (.sl false (ints xs)) := (dup_g nl xs hx).comp (Froz.grow rfl (zm _) (lowI _))
theorem kO {b : Bd} : kE b = false ↔ b.months.length <= 14 /\ b.surveys.length <= 12 := by
 unfold kE
 rw [Bool.or_eq_false_iff, decide_eq_false_iff_not, decide_eq_false_iff_not]; omega
def bzero : List AV := [.int .i64 0, .int .i64 0, .int .i64 0, .sl true [], .sl true []]
theorem negR_ge {e s : Int} (h : 0 <= s) : s <= negR e ↔ s <= e := by unfold negR; split <;> omega
set_option maxHeartbeats 2000000 in
theorem fE (b : Bd) (nl : Bool) (plan : List Int) (share : Int) (_hx : plan.length < 9223372036854775808) : Comp Tryz.prog 23 [bedA b, .sl nl (ints plan), .int .i64 share] (.bool true) := by
 have hgr := kK b
 have e2 : ((ints plan).length : Int) = plan.length := by rw [zm]
 cases hg : kE b
 case true =>
  refine Comp.body (T := tab) (res := [.tmp 6]) zb [] Tryz.func23 rfl (by kernel_rfl) Tryz.ntmps23 rfl (by simp only [List.length_cons, List.length_nil]; decide) (by simp only [lowL, bedL, AV.low, lowI]; rfl) ?_; conv => whnf
  repeat' first | ((first | (with_reducible apply XBr.tt) | ((refine za.ret hgr ?_); rw [hg]) | (refine za.ret zr ?_)); conv => whnf) | fail
  exact ⟨.low rfl⟩
 by_cases hp14 : 14 < plan.length
 ·refine Comp.body (T := tab) (res := [.tmp 6]) zb [] Tryz.func23 rfl (by kernel_rfl) Tryz.ntmps23 rfl (by simp only [List.length_cons, List.length_nil]; decide) (by simp only [lowL, bedL, AV.low, lowI]; rfl) ?_; conv => whnf
  repeat' first | ((with_reducible first | apply XBr.ff | refine XBr.y fun h => ?_ | refine XBr.n fun h => ?_ | refine XBr.dec (fun h => ?_) fun h => ?_) <;> conv => whnf) | ((first | ((refine za.ret hgr ?_); rw [hg]) | (refine za.ret zr ?_)); conv => whnf) | fail
  exact ⟨.low rfl⟩
 obtain ⟨g1, g2⟩ := kO.1 hg
 have how := wv b (by omega) (by omega)
 have hth := kq b (by omega) (by omega)
 have hdu := dupC nl plan (by omega)
 have hpl := zbV (thB b) nl plan (show b.months.length <= 100000 by omega) (show b.surveys.length <= 100000 by omega) (by omega)
 change Comp Tryz.prog _ _ (.int .i64 (ym b plan)) at hpl
 have hke := zbM (ownB b) false plan share (show b.months.length <= 100000 by omega) (show b.surveys.length <= 100000 by omega) (by omega)
 have hkA : ju (ownB b) plan share = ju b plan share := by unfold ju; rw [kG, kG, kV (b := ownB b) (c := b) rfl rfl]; rfl
 rw [hkA] at hke
 have hwo := zcN (ownB b) false plan (show b.months.length <= 100000 by omega) (show b.surveys.length <= 100000 by omega) (by omega)
 have hwA : vC (ownB b) plan = vC b plan := by unfold vC; rw [vd, vd, kV (b := ownB b) (c := b) rfl rfl]; rfl
 rw [hwA] at hwo
 have hsa := jL b (by omega) (by omega)
 have heq := kL false nl plan plan (by omega)
 rw [beq_self_eq_true] at heq
 by_cases hE : ym b plan = 0
 ·obtain ⟨ok, hl, hpr⟩ := vq.1 hE
  have hen := ends_c (thB b) ⟨ok.r1, ok.r2, ok.m1, ok.m2, ok.f1, ok.f2, ok.u1, ok.u2, ok.mo⟩ nl plan hl hpr
  rw [kV (b := thB b) (c := b) rfl rfl] at hen
  change Comp Tryz.prog _ _ (.int .i64 (negR (endP b plan b.months.length (zn b).toNat))) at hen
  unfold ju at hke
  unfold vC at hwo
  rw [hE] at hpl
  rw [if_neg (fun h => h hE)] at hke hwo
  rw [kG] at hke
  rw [vd] at hwo
  have hal := fun (nn : Bool) => along_c (thB b) ⟨ok.r1, ok.r2, ok.m1, ok.m2, ok.f1, ok.f2, ok.u1, ok.u2, ok.mo⟩ nl nn plan hl hpr (zn b).toNat (by have := ok.f1; have := ok.f2; have := ok.u1; show ((zn b).toNat : Int) <= b.room; unfold zn; omega)
  simp only [kV (b := thB b) (c := b) rfl rfl] at hal
  change ∀ nn, Comp Tryz.prog _ [_, _, _, .sl nn (chsA (zI b))] (.int .i64 (negR (endP b plan b.months.length (zn b).toNat))) at hal
  generalize endP b plan b.months.length (zn b).toNat = e at hen hke hwo hal
  have m1 := ok.m1
  have m2 := ok.m2
  have r1 := ok.r1
  have r2 := ok.r2
  have f1 := ok.f1
  have f2 := ok.f2
  have u1 := ok.u1
  have u2 := ok.u2
  have hlr : zn b = max 0 (b.first - b.unsure) := rfl
  have e1 : ((b.months.map moA).length : Int) = b.months.length := by rw [List.length_map]
  have hwl : (zI b).length = b.months.length := List.length_map _
  have hwl2 : ((chsA (zI b)).length : Int) = b.months.length := by rw [List.length_map, hwl]
  have hchd := fun nn => zaR nn (zI b) (by omega)
  obtain ⟨c0, hc0⟩ : ∃ c0 : Nat, (zn b).toNat = c0 := ⟨_, rfl⟩
  rw [hc0] at hal
  by_cases he : e < 0
  ·have hng : negR e = -1 := by unfold negR; rw [if_pos he]
   rw [hng] at hen
   rw [if_pos he] at hwo
   by_cases hsh : 0 <= share /\ share <= b.room
   ·rw [if_neg (by rw [zx.2 hsh]; simp), decide_eq_false (by omega)] at hke
    have hbb : (false != decide (share <= -1)) = false := by rw [decide_eq_false (by omega)]; rfl
    refine Comp.body (T := tab) (res := [.tmp 6]) zb [] Tryz.func23 rfl (by kernel_rfl) Tryz.ntmps23 rfl (by simp only [List.length_cons, List.length_nil]; decide) (by simp only [lowL, bedL, AV.low, lowI]; rfl) ?_; conv => whnf
    repeat' first | ((with_reducible first | apply XBr.ff | refine XBr.y fun h => ?_ | refine XBr.n fun h => ?_ | refine XBr.dec (fun h => ?_) fun h => ?_) <;> conv => whnf) | (((refine za.ret hgr ?_); rw [hg]); conv => whnf) | fail
    refine Walk.place (Walk.place ?_)
    apply Walk.drawX zb zg [] [6, 7, 8, 10] (fun fl => match fl with
     | [a, b', x, y] => [(bif a then .cells (bif x then bedC (ownB b) else bzero) else .free), (bif b' then .cells (bif y then bedC (thB b) else bzero) else .free)]
     | _ => []) [_, _, _, _, _, _, .ptr 0 0, .ptr 1 0, _, _, _] (by kernel_rfl) rfl
    ·skip
     repeat' first | ((with_reducible first | apply Chk.go | apply ChkA.go); conv => whnf) | (with_reducible first | apply XAnd.mk | exact trivial) | (exact zd.mk rfl rfl) | ((first | refine za.ret how ?_ | refine za.ret hth ?_ | refine za.ret hdu ?_); conv => whnf) | (first | ((refine zq.at 0 rfl ?_); (conv => whnf); exact zd.mk rfl rfl) | ((refine zq.at 1 rfl ?_); (conv => whnf); exact zd.mk rfl rfl)) | fail
    ·skip
     repeat' first | ((with_reducible first | apply Chk.go | apply ChkF.go | apply ChkB.go); conv => whnf) | (with_reducible first | apply XAnd.mk | exact trivial) | (exact zd.mk rfl rfl) | ((first | refine za.ret how ?_ | refine za.ret hth ?_ | refine za.ret hdu ?_); conv => whnf) | (first | ((refine zq.at 0 rfl ?_); (conv => whnf); exact zd.mk rfl rfl) | ((refine zq.at 1 rfl ?_); (conv => whnf); exact zd.mk rfl rfl)) | fail
    conv => whnf
    repeat' first | ((with_reducible first | apply XBr.ff | refine XBr.y fun h => ?_ | refine XBr.n fun h => ?_ | refine XBr.dec (fun h => ?_) fun h => ?_ | refine XBr.y1 fun h => ?_ | refine XBr.n1 fun h => ?_ | refine XBr.beq (fun h => ?_) fun h => ?_) <;> conv => whnf) | ((first | refine za.ret hpl ?_ | refine za.ret hen ?_ | refine za.ret hke ?_ | refine za.ret hwo ?_); conv => whnf) | fail
    all_goals
     refine Walk.norm zb [] [(1, _), (2, _), (3, _), (6, _), (7, _), (8, _), (9, _), (10, _), (11, _), (12, _), (13, _), (14, _), (15, _), (16, _), (17, _)] ⟨rfl, rfl, rfl, rfl, rfl, rfl, rfl, rfl, rfl, rfl, rfl, rfl, rfl, rfl, rfl, trivial⟩ ?_
     conv => whnf
     repeat' first | ((with_reducible first | apply XBr.tt | apply XBr.ff | refine XBr.y fun h => ?_ | refine XBr.n fun h => ?_ | refine XBr.dec (fun h => ?_) fun h => ?_ | refine XBr.y1 fun h => ?_ | refine XBr.n1 fun h => ?_ | refine XBr.beq (fun h => ?_) fun h => ?_ | refine XBr.y2 fun h => ?_ | refine XBr.n2 fun h => ?_ | refine XBr.bne (fun h => ?_) fun h => ?_) <;> conv => whnf) | with_reducible apply XBr.not | ((first | refine za.ret hsa ?_ | refine za.ret heq ?_ | refine za.ret zr ?_ | (with_reducible refine XBr.no hbb ?_)); conv => whnf) | fail
    all_goals first | exact ⟨.low rfl⟩ | (exfalso; simp at h; done)
   ·have hsi : inZ share 0 b.room = false := Bool.eq_false_iff.2 fun h => hsh (zx.1 h)
    rw [if_pos hsi] at hke
    refine Comp.body (T := tab) (res := [.tmp 6]) zb [] Tryz.func23 rfl (by kernel_rfl) Tryz.ntmps23 rfl (by simp only [List.length_cons, List.length_nil]; decide) (by simp only [lowL, bedL, AV.low, lowI]; rfl) ?_; conv => whnf
    repeat' first | ((with_reducible first | apply XBr.ff | refine XBr.y fun h => ?_ | refine XBr.n fun h => ?_ | refine XBr.dec (fun h => ?_) fun h => ?_) <;> conv => whnf) | (((refine za.ret hgr ?_); rw [hg]); conv => whnf) | fail
    refine Walk.place (Walk.place ?_)
    apply Walk.drawX zb zg [] [6, 7, 8, 10] (fun fl => match fl with
     | [a, b', x, y] => [(bif a then .cells (bif x then bedC (ownB b) else bzero) else .free), (bif b' then .cells (bif y then bedC (thB b) else bzero) else .free)]
     | _ => []) [_, _, _, _, _, _, .ptr 0 0, .ptr 1 0, _, _, _] (by kernel_rfl) rfl
    ·skip
     repeat' first | ((with_reducible first | apply Chk.go | apply ChkA.go); conv => whnf) | (with_reducible first | apply XAnd.mk | exact trivial) | (exact zd.mk rfl rfl) | ((first | refine za.ret how ?_ | refine za.ret hth ?_ | refine za.ret hdu ?_); conv => whnf) | (first | ((refine zq.at 0 rfl ?_); (conv => whnf); exact zd.mk rfl rfl) | ((refine zq.at 1 rfl ?_); (conv => whnf); exact zd.mk rfl rfl)) | fail
    ·skip
     repeat' first | ((with_reducible first | apply Chk.go | apply ChkF.go | apply ChkB.go); conv => whnf) | (with_reducible first | apply XAnd.mk | exact trivial) | (exact zd.mk rfl rfl) | ((first | refine za.ret how ?_ | refine za.ret hth ?_ | refine za.ret hdu ?_); conv => whnf) | (first | ((refine zq.at 0 rfl ?_); (conv => whnf); exact zd.mk rfl rfl) | ((refine zq.at 1 rfl ?_); (conv => whnf); exact zd.mk rfl rfl)) | fail
    conv => whnf
    repeat' first | ((with_reducible first | apply XBr.tt | apply XBr.ff | refine XBr.y fun h => ?_ | refine XBr.n fun h => ?_ | refine XBr.dec (fun h => ?_) fun h => ?_ | refine XBr.y1 fun h => ?_ | refine XBr.n1 fun h => ?_ | refine XBr.beq (fun h => ?_) fun h => ?_) <;> conv => whnf) | ((first | refine za.ret hpl ?_ | refine za.ret hen ?_ | refine za.ret hke ?_ | refine za.ret hwo ?_); conv => whnf) | fail
    all_goals
     refine Walk.norm zb [] [(1, _), (2, _), (3, _), (6, _), (7, _), (8, _), (9, _), (10, _), (11, _), (12, _), (13, _), (14, _), (15, _), (16, _), (17, _)] ⟨rfl, rfl, rfl, rfl, rfl, rfl, rfl, rfl, rfl, rfl, rfl, rfl, rfl, rfl, rfl, trivial⟩ ?_
     conv => whnf
     repeat' first | ((with_reducible first | apply XBr.tt | apply XBr.ff | refine XBr.y fun h => ?_ | refine XBr.n fun h => ?_ | refine XBr.dec (fun h => ?_) fun h => ?_ | refine XBr.y1 fun h => ?_ | refine XBr.n1 fun h => ?_ | refine XBr.beq (fun h => ?_) fun h => ?_ | refine XBr.y2 fun h => ?_ | refine XBr.n2 fun h => ?_ | refine XBr.bne (fun h => ?_) fun h => ?_) <;> conv => whnf) | with_reducible apply XBr.not | ((first | refine za.ret hsa ?_ | refine za.ret heq ?_ | refine za.ret zr ?_ | (with_reducible refine XBr.no (by decide) ?_)); conv => whnf) | fail
    all_goals first | exact ⟨.low rfl⟩ | (exfalso; simp at h; done)
  ·have hng : negR e = e := by unfold negR; rw [if_neg he]
   rw [hng] at hen hal
   rw [if_neg he] at hwo
   by_cases hsh : 0 <= share /\ share <= b.room
   ·rw [if_neg (by rw [zx.2 hsh]; simp)] at hke
    have hbb : (decide (share <= e) != decide (share <= e)) = false := by simp
    refine Comp.body (T := tab) (res := [.tmp 6]) zb [] Tryz.func23 rfl (by kernel_rfl) Tryz.ntmps23 rfl (by simp only [List.length_cons, List.length_nil]; decide) (by simp only [lowL, bedL, AV.low, lowI]; rfl) ?_; conv => whnf
    repeat' first | ((with_reducible first | apply XBr.ff | refine XBr.y fun h => ?_ | refine XBr.n fun h => ?_ | refine XBr.dec (fun h => ?_) fun h => ?_) <;> conv => whnf) | (((refine za.ret hgr ?_); rw [hg]); conv => whnf) | fail
    refine Walk.place (Walk.place ?_)
    apply Walk.drawX zb zg [] [6, 7, 8, 10] (fun fl => match fl with
     | [a, b', x, y] => [(bif a then .cells (bif x then bedC (ownB b) else bzero) else .free), (bif b' then .cells (bif y then bedC (thB b) else bzero) else .free)]
     | _ => []) [_, _, _, _, _, _, .ptr 0 0, .ptr 1 0, _, _, _] (by kernel_rfl) rfl
    ·skip
     repeat' first | ((with_reducible first | apply Chk.go | apply ChkA.go); conv => whnf) | (with_reducible first | apply XAnd.mk | exact trivial) | (exact zd.mk rfl rfl) | ((first | refine za.ret how ?_ | refine za.ret hth ?_ | refine za.ret hdu ?_); conv => whnf) | (first | ((refine zq.at 0 rfl ?_); (conv => whnf); exact zd.mk rfl rfl) | ((refine zq.at 1 rfl ?_); (conv => whnf); exact zd.mk rfl rfl)) | fail
    ·skip
     repeat' first | ((with_reducible first | apply Chk.go | apply ChkF.go | apply ChkB.go); conv => whnf) | (with_reducible first | apply XAnd.mk | exact trivial) | (exact zd.mk rfl rfl) | ((first | refine za.ret how ?_ | refine za.ret hth ?_ | refine za.ret hdu ?_); conv => whnf) | (first | ((refine zq.at 0 rfl ?_); (conv => whnf); exact zd.mk rfl rfl) | ((refine zq.at 1 rfl ?_); (conv => whnf); exact zd.mk rfl rfl)) | fail
    conv => whnf
    repeat' first | ((with_reducible first | apply XBr.ff | refine XBr.y fun h => ?_ | refine XBr.n fun h => ?_ | refine XBr.dec (fun h => ?_) fun h => ?_ | refine XBr.y1 fun h => ?_ | refine XBr.n1 fun h => ?_ | refine XBr.beq (fun h => ?_) fun h => ?_) <;> conv => whnf) | ((first | refine za.ret hpl ?_ | refine za.ret hen ?_ | refine za.ret hke ?_ | refine za.ret hwo ?_); conv => whnf) | fail
    all_goals
     refine Walk.norm zb [] [(1, _), (2, _), (3, _), (6, _), (7, _), (8, _), (9, _), (10, _), (11, _), (12, _), (13, _), (14, _), (15, _), (16, _), (17, _)] ⟨rfl, rfl, rfl, rfl, rfl, rfl, rfl, rfl, rfl, rfl, rfl, rfl, rfl, rfl, rfl, trivial⟩ ?_
     conv => whnf
     repeat' first | ((with_reducible first | apply XBr.tt | apply XBr.ff | refine XBr.y fun h => ?_ | refine XBr.n fun h => ?_ | refine XBr.dec (fun h => ?_) fun h => ?_ | refine XBr.y1 fun h => ?_ | refine XBr.n1 fun h => ?_ | refine XBr.beq (fun h => ?_) fun h => ?_ | refine XBr.y2 fun h => ?_ | refine XBr.n2 fun h => ?_ | refine XBr.bne (fun h => ?_) fun h => ?_) <;> conv => whnf) | with_reducible apply XBr.not | ((first | refine za.ret hsa ?_ | refine za.ret heq ?_ | (with_reducible refine XBr.no hbb ?_)); conv => whnf) | fail
    refine Walk.loopGK zb [] [(1, _), (3, _), (6, _), (9, _), (15, _), (16, _), (133, _), (134, _)] ⟨rfl, rfl, rfl, rfl, rfl, rfl, rfl, rfl, trivial⟩ (fun m : Nat => m <= b.months.length) (fun m => [(135, natA m)]) (fun _ => [.cells (bedC (ownB b)), .cells (bedC (thB b))]) (fun m => b.months.length - m) 0 (Nat.zero_le _) rfl ⟨rfl, trivial⟩ ?_ (fun _ _ => (show (2 : Nat) <= 2 from Nat.le_refl 2)) ?_
    ·intro q _
     refine ⟨fun z hz => ?_, fun z hz => ?_⟩
     ·simp only [List.mem_cons, List.not_mem_nil, or_false] at hz
      rcases hz with rfl | rfl <;> exact zY _
     ·simp only [List.cons_append, List.nil_append, List.mem_cons, List.not_mem_nil, or_false] at hz
      rcases hz with rfl | rfl | rfl | rfl | rfl | rfl | rfl | rfl | rfl <;> first | rfl | exact lowI _ | exact zU _ | exact zY b
    intro m hm
    conv => whnf
    by_cases hlt : m < b.months.length
    ·have hmo := ok.mo' hlt
     simp only [moB] at hmo
     have hw : (zI b).getD m default = ((b.months.getD m default).pl, (b.months.getD m default).th) := by
      unfold zI
      rw [List.getD_eq_getElem?_getD, List.getElem?_map, List.getElem?_eq_getElem hlt, List.getD_eq_getElem?_getD, List.getElem?_eq_getElem hlt]; rfl
     have hw1 : ((zI b).getD m default).1 = (b.months.getD m default).pl := by rw [hw]
     have hw2 : ((zI b).getD m default).2 = (b.months.getD m default).th := by rw [hw]
     repeat' first | ((with_reducible first | refine XBr.y fun h => ?_ | refine XBr.n fun h => ?_ | refine XBr.dec (fun h => ?_) fun h => ?_) <;> conv => whnf) | (refine XIx.a ?_; conv => whnf) | fail
     refine Walk.norm zb [] [(1, _), (3, _), (6, _), (9, _), (15, _), (16, _), (18, _), (19, _), (20, _), (133, _), (134, _), (135, _)] ⟨rfl, rfl, rfl, rfl, rfl, rfl, rfl, rfl, rfl, rfl, rfl, rfl, trivial⟩ ?_
     conv => whnf
     repeat' ((with_reducible first | apply XBr.ff | refine XBr.y fun h => ?_ | refine XBr.n fun h => ?_ | refine XBr.dec (fun h => ?_) fun h => ?_ | refine XInt.a ?_) <;> conv => whnf)
     exact zp.go (m + 1) [.cells [.int .i64 ((zI b).getD m default).1, .int .i64 ((zI b).getD m default).2], .cells (moC (b.months.getD m default))] (by omega) (by omega) rfl ⟨rfl, rfl, rfl, rfl, rfl, rfl, rfl, rfl, rfl, trivial⟩
    obtain rfl : m = b.months.length := by omega
    repeat' ((with_reducible first | refine XBr.y fun h => ?_ | refine XBr.n fun h => ?_ | refine XBr.dec (fun h => ?_) fun h => ?_ | refine XInt.a ?_) <;> conv => whnf)
    refine Walk.loopK zb [] [(1, _), (3, _), (6, _), (9, _), (15, _), (16, _)] ⟨rfl, rfl, rfl, rfl, rfl, rfl, trivial⟩ (fun q : Nat × Bool => c0 <= q.1 /\ (q.1 : Int) <= min b.room (b.first + b.unsure) + 1 /\ (c0 < q.1 -> q.2 = true)) (fun q => [(21, .bool q.2), (22, natA q.1)]) (fun _ => [.cells (bedC (ownB b)), .cells (bedC (thB b))]) (fun q => (min b.room (b.first + b.unsure) + 1).toNat - q.1) (c0, false) ⟨Nat.le_refl _, by dsimp only; omega, fun h => absurd h (Nat.lt_irrefl _)⟩ rfl ⟨rfl, congrArg (fun z => some (AV.int .i64 z)) (show max 0 (b.first - b.unsure) = (c0 : Int) by omega), trivial⟩ ?_
    rintro ⟨n, met⟩ ⟨hn1, hn2, hn3⟩
    dsimp only at hn1 hn2 hn3 ⊢
    conv => whnf
    by_cases hltn : (n : Int) <= min b.room (b.first + b.unsure)
    ·cases met
     ·have hnc : n = c0 := by
       by_cases h : c0 < n
       ·cases hn3 h
       ·omega
      subst hnc
      repeat' first | ((with_reducible first | apply XBr.ff | refine XBr.y fun h => ?_ | refine XBr.n fun h => ?_ | refine XBr.dec (fun h => ?_) fun h => ?_ | refine XInt.a ?_ | apply Chk.go | apply ChkA.go | apply ChkF.go | apply ChkB.go | apply zw.mk) <;> conv => whnf) | (with_reducible first | apply XAnd.mk | exact trivial) | (exact zd.mk rfl rfl) | (apply Walk.drawN (id := 31) zb zg [] [] (hsU _) [_, _, _, _, _, _, _, _, _, _, _, _] (by kernel_rfl) rfl) | ((first | refine za.ret (hchd _) ?_ | refine za.ret (hal _) ?_); conv => whnf) | fail
      exact zk.go (n + 1, true) ⟨by dsimp only; omega, by dsimp only; omega, fun _ => rfl⟩ (by dsimp only; omega) rfl ⟨rfl, rfl, rfl, rfl, rfl, rfl, congrArg (fun z => some (AV.bool z)) (beq_self_eq_true e), rfl, trivial⟩
     ·skip
      repeat' first | ((with_reducible first | apply XBr.tt | refine XBr.y fun h => ?_ | refine XBr.n fun h => ?_ | refine XBr.dec (fun h => ?_) fun h => ?_ | refine XInt.a ?_ | apply Chk.go | apply ChkA.go | apply ChkF.go | apply ChkB.go | apply zw.mk) <;> conv => whnf) | (with_reducible first | apply XAnd.mk | exact trivial) | (exact zd.mk rfl rfl) | (apply Walk.drawN (id := 31) zb zg [] [] (hsU _) [_, _, _, _, _, _, _, _, _, _, _, _] (by kernel_rfl) rfl) | fail
      exact zk.go (n + 1, true) ⟨by dsimp only; omega, by dsimp only; omega, fun _ => rfl⟩ (by dsimp only; omega) rfl ⟨rfl, rfl, rfl, rfl, rfl, rfl, rfl, rfl, trivial⟩
    ·obtain rfl : met = true := hn3 (by omega)
     repeat' first | ((with_reducible first | apply XBr.tt | refine XBr.y fun h => ?_ | refine XBr.n fun h => ?_ | refine XBr.dec (fun h => ?_) fun h => ?_ | refine XInt.a ?_) <;> conv => whnf) | ((refine za.ret zr ?_); conv => whnf) | fail
     exact ⟨.low rfl⟩
   ·have hsi : inZ share 0 b.room = false := Bool.eq_false_iff.2 fun h => hsh (zx.1 h)
    rw [if_pos hsi] at hke
    refine Comp.body (T := tab) (res := [.tmp 6]) zb [] Tryz.func23 rfl (by kernel_rfl) Tryz.ntmps23 rfl (by simp only [List.length_cons, List.length_nil]; decide) (by simp only [lowL, bedL, AV.low, lowI]; rfl) ?_; conv => whnf
    repeat' first | ((with_reducible first | apply XBr.ff | refine XBr.y fun h => ?_ | refine XBr.n fun h => ?_ | refine XBr.dec (fun h => ?_) fun h => ?_) <;> conv => whnf) | (((refine za.ret hgr ?_); rw [hg]); conv => whnf) | fail
    refine Walk.place (Walk.place ?_)
    apply Walk.drawX zb zg [] [6, 7, 8, 10] (fun fl => match fl with
     | [a, b', x, y] => [(bif a then .cells (bif x then bedC (ownB b) else bzero) else .free), (bif b' then .cells (bif y then bedC (thB b) else bzero) else .free)]
     | _ => []) [_, _, _, _, _, _, .ptr 0 0, .ptr 1 0, _, _, _] (by kernel_rfl) rfl
    ·skip
     repeat' first | ((with_reducible first | apply Chk.go | apply ChkA.go); conv => whnf) | (with_reducible first | apply XAnd.mk | exact trivial) | (exact zd.mk rfl rfl) | ((first | refine za.ret how ?_ | refine za.ret hth ?_ | refine za.ret hdu ?_); conv => whnf) | (first | ((refine zq.at 0 rfl ?_); (conv => whnf); exact zd.mk rfl rfl) | ((refine zq.at 1 rfl ?_); (conv => whnf); exact zd.mk rfl rfl)) | fail
    ·skip
     repeat' first | ((with_reducible first | apply Chk.go | apply ChkF.go | apply ChkB.go); conv => whnf) | (with_reducible first | apply XAnd.mk | exact trivial) | (exact zd.mk rfl rfl) | ((first | refine za.ret how ?_ | refine za.ret hth ?_ | refine za.ret hdu ?_); conv => whnf) | (first | ((refine zq.at 0 rfl ?_); (conv => whnf); exact zd.mk rfl rfl) | ((refine zq.at 1 rfl ?_); (conv => whnf); exact zd.mk rfl rfl)) | fail
    conv => whnf
    repeat' first | ((with_reducible first | apply XBr.tt | apply XBr.ff | refine XBr.y fun h => ?_ | refine XBr.n fun h => ?_ | refine XBr.dec (fun h => ?_) fun h => ?_ | refine XBr.y1 fun h => ?_ | refine XBr.n1 fun h => ?_ | refine XBr.beq (fun h => ?_) fun h => ?_) <;> conv => whnf) | ((first | refine za.ret hpl ?_ | refine za.ret hen ?_ | refine za.ret hke ?_ | refine za.ret hwo ?_); conv => whnf) | fail
    all_goals
     refine Walk.norm zb [] [(1, _), (2, _), (3, _), (6, _), (7, _), (8, _), (9, _), (10, _), (11, _), (12, _), (13, _), (14, _), (15, _), (16, _), (17, _)] ⟨rfl, rfl, rfl, rfl, rfl, rfl, rfl, rfl, rfl, rfl, rfl, rfl, rfl, rfl, rfl, trivial⟩ ?_
     conv => whnf
     repeat' first | ((with_reducible first | apply XBr.tt | apply XBr.ff | refine XBr.y fun h => ?_ | refine XBr.n fun h => ?_ | refine XBr.dec (fun h => ?_) fun h => ?_ | refine XBr.y1 fun h => ?_ | refine XBr.n1 fun h => ?_ | refine XBr.beq (fun h => ?_) fun h => ?_ | refine XBr.y2 fun h => ?_ | refine XBr.n2 fun h => ?_ | refine XBr.bne (fun h => ?_) fun h => ?_) <;> conv => whnf) | with_reducible apply XBr.not | ((first | refine za.ret hsa ?_ | refine za.ret heq ?_ | (with_reducible refine XBr.no (by decide) ?_)); conv => whnf) | fail
    all_goals
     refine Walk.loopGK zb [] [(1, _), (3, _), (6, _), (9, _), (15, _), (16, _), (133, _), (134, _)] ⟨rfl, rfl, rfl, rfl, rfl, rfl, rfl, rfl, trivial⟩ (fun m : Nat => m <= b.months.length) (fun m => [(135, natA m)]) (fun _ => [.cells (bedC (ownB b)), .cells (bedC (thB b))]) (fun m => b.months.length - m) 0 (Nat.zero_le _) rfl ⟨rfl, trivial⟩ ?_ (fun _ _ => (show (2 : Nat) <= 2 from Nat.le_refl 2)) ?_
     ·intro q _
      refine ⟨fun z hz => ?_, fun z hz => ?_⟩
      ·simp only [List.mem_cons, List.not_mem_nil, or_false] at hz
       rcases hz with rfl | rfl <;> exact zY _
      ·simp only [List.cons_append, List.nil_append, List.mem_cons, List.not_mem_nil, or_false] at hz
       rcases hz with rfl | rfl | rfl | rfl | rfl | rfl | rfl | rfl | rfl <;> first | rfl | exact lowI _ | exact zU _ | exact zY b
     intro m hm
     conv => whnf
     by_cases hlt : m < b.months.length
     ·have hmo := ok.mo' hlt
      simp only [moB] at hmo
      have hw : (zI b).getD m default = ((b.months.getD m default).pl, (b.months.getD m default).th) := by
       unfold zI
       rw [List.getD_eq_getElem?_getD, List.getElem?_map, List.getElem?_eq_getElem hlt, List.getD_eq_getElem?_getD, List.getElem?_eq_getElem hlt]; rfl
      have hw1 : ((zI b).getD m default).1 = (b.months.getD m default).pl := by rw [hw]
      have hw2 : ((zI b).getD m default).2 = (b.months.getD m default).th := by rw [hw]
      repeat' first | ((with_reducible first | refine XBr.y fun h => ?_ | refine XBr.n fun h => ?_ | refine XBr.dec (fun h => ?_) fun h => ?_) <;> conv => whnf) | (refine XIx.a ?_; conv => whnf) | fail
      refine Walk.norm zb [] [(1, _), (3, _), (6, _), (9, _), (15, _), (16, _), (18, _), (19, _), (20, _), (133, _), (134, _), (135, _)] ⟨rfl, rfl, rfl, rfl, rfl, rfl, rfl, rfl, rfl, rfl, rfl, rfl, trivial⟩ ?_
      conv => whnf
      repeat' ((with_reducible first | apply XBr.ff | refine XBr.y fun h => ?_ | refine XBr.n fun h => ?_ | refine XBr.dec (fun h => ?_) fun h => ?_ | refine XInt.a ?_) <;> conv => whnf)
      exact zp.go (m + 1) [.cells [.int .i64 ((zI b).getD m default).1, .int .i64 ((zI b).getD m default).2], .cells (moC (b.months.getD m default))] (by omega) (by omega) rfl ⟨rfl, rfl, rfl, rfl, rfl, rfl, rfl, rfl, rfl, trivial⟩
     obtain rfl : m = b.months.length := by omega
     repeat' ((with_reducible first | refine XBr.y fun h => ?_ | refine XBr.n fun h => ?_ | refine XBr.dec (fun h => ?_) fun h => ?_ | refine XInt.a ?_) <;> conv => whnf)
     refine Walk.loopK zb [] [(1, _), (3, _), (6, _), (9, _), (15, _), (16, _)] ⟨rfl, rfl, rfl, rfl, rfl, rfl, trivial⟩ (fun q : Nat × Bool => c0 <= q.1 /\ (q.1 : Int) <= min b.room (b.first + b.unsure) + 1 /\ (c0 < q.1 -> q.2 = true)) (fun q => [(21, .bool q.2), (22, natA q.1)]) (fun _ => [.cells (bedC (ownB b)), .cells (bedC (thB b))]) (fun q => (min b.room (b.first + b.unsure) + 1).toNat - q.1) (c0, false) ⟨Nat.le_refl _, by dsimp only; omega, fun h => absurd h (Nat.lt_irrefl _)⟩ rfl ⟨rfl, congrArg (fun z => some (AV.int .i64 z)) (show max 0 (b.first - b.unsure) = (c0 : Int) by omega), trivial⟩ ?_
     rintro ⟨n, met⟩ ⟨hn1, hn2, hn3⟩
     dsimp only at hn1 hn2 hn3 ⊢
     conv => whnf
     by_cases hltn : (n : Int) <= min b.room (b.first + b.unsure)
     ·cases met
      ·have hnc : n = c0 := by
        by_cases h : c0 < n
        ·cases hn3 h
        ·omega
       subst hnc
       repeat' first | ((with_reducible first | apply XBr.ff | refine XBr.y fun h => ?_ | refine XBr.n fun h => ?_ | refine XBr.dec (fun h => ?_) fun h => ?_ | refine XInt.a ?_ | apply Chk.go | apply ChkA.go | apply ChkF.go | apply ChkB.go | apply zw.mk) <;> conv => whnf) | (with_reducible first | apply XAnd.mk | exact trivial) | (exact zd.mk rfl rfl) | (apply Walk.drawN (id := 31) zb zg [] [] (hsU _) [_, _, _, _, _, _, _, _, _, _, _, _] (by kernel_rfl) rfl) | ((first | refine za.ret (hchd _) ?_ | refine za.ret (hal _) ?_); conv => whnf) | fail
       exact zk.go (n + 1, true) ⟨by dsimp only; omega, by dsimp only; omega, fun _ => rfl⟩ (by dsimp only; omega) rfl ⟨rfl, rfl, rfl, rfl, rfl, rfl, congrArg (fun z => some (AV.bool z)) (beq_self_eq_true e), rfl, trivial⟩
      ·skip
       repeat' first | ((with_reducible first | apply XBr.tt | refine XBr.y fun h => ?_ | refine XBr.n fun h => ?_ | refine XBr.dec (fun h => ?_) fun h => ?_ | refine XInt.a ?_ | apply Chk.go | apply ChkA.go | apply ChkF.go | apply ChkB.go | apply zw.mk) <;> conv => whnf) | (with_reducible first | apply XAnd.mk | exact trivial) | (exact zd.mk rfl rfl) | (apply Walk.drawN (id := 31) zb zg [] [] (hsU _) [_, _, _, _, _, _, _, _, _, _, _, _] (by kernel_rfl) rfl) | fail
       exact zk.go (n + 1, true) ⟨by dsimp only; omega, by dsimp only; omega, fun _ => rfl⟩ (by dsimp only; omega) rfl ⟨rfl, rfl, rfl, rfl, rfl, rfl, rfl, rfl, trivial⟩
     ·obtain rfl : met = true := hn3 (by omega)
      repeat' first | ((with_reducible first | apply XBr.tt | refine XBr.y fun h => ?_ | refine XBr.n fun h => ?_ | refine XBr.dec (fun h => ?_) fun h => ?_ | refine XInt.a ?_) <;> conv => whnf) | ((refine za.ret zr ?_); conv => whnf) | fail
      exact ⟨.low rfl⟩
 ·unfold ju at hke
  unfold vC at hwo
  rw [if_pos hE] at hke hwo
  generalize ym b plan = E at hE hke hwo hpl
  refine Comp.body (T := tab) (res := [.tmp 6]) zb [] Tryz.func23 rfl (by kernel_rfl) Tryz.ntmps23 rfl (by simp only [List.length_cons, List.length_nil]; decide) (by simp only [lowL, bedL, AV.low, lowI]; rfl) ?_; conv => whnf
  repeat' first | ((with_reducible first | apply XBr.ff | refine XBr.y fun h => ?_ | refine XBr.n fun h => ?_ | refine XBr.dec (fun h => ?_) fun h => ?_) <;> conv => whnf) | (((refine za.ret hgr ?_); rw [hg]); conv => whnf) | fail
  refine Walk.place (Walk.place ?_)
  apply Walk.drawX zb zg [] [6, 7, 8, 10] (fun fl => match fl with
   | [a, b', x, y] => [(bif a then .cells (bif x then bedC (ownB b) else bzero) else .free), (bif b' then .cells (bif y then bedC (thB b) else bzero) else .free)]
   | _ => []) [_, _, _, _, _, _, .ptr 0 0, .ptr 1 0, _, _, _] (by kernel_rfl) rfl
  ·skip
   repeat' first | ((with_reducible first | apply Chk.go | apply ChkA.go); conv => whnf) | (with_reducible first | apply XAnd.mk | exact trivial) | (exact zd.mk rfl rfl) | ((first | refine za.ret how ?_ | refine za.ret hth ?_ | refine za.ret hdu ?_); conv => whnf) | (first | ((refine zq.at 0 rfl ?_); (conv => whnf); exact zd.mk rfl rfl) | ((refine zq.at 1 rfl ?_); (conv => whnf); exact zd.mk rfl rfl)) | fail
  ·skip
   repeat' first | ((with_reducible first | apply Chk.go | apply ChkF.go | apply ChkB.go); conv => whnf) | (with_reducible first | apply XAnd.mk | exact trivial) | (exact zd.mk rfl rfl) | ((first | refine za.ret how ?_ | refine za.ret hth ?_ | refine za.ret hdu ?_); conv => whnf) | (first | ((refine zq.at 0 rfl ?_); (conv => whnf); exact zd.mk rfl rfl) | ((refine zq.at 1 rfl ?_); (conv => whnf); exact zd.mk rfl rfl)) | fail
  conv => whnf
  repeat' first | ((with_reducible first | refine XBr.y1 fun h => ?_ | refine XBr.n1 fun h => ?_ | refine XBr.beq (fun h => ?_) fun h => ?_) <;> conv => whnf) | ((first | refine za.ret hpl ?_ | refine za.ret hke ?_ | refine za.ret hwo ?_); conv => whnf) | fail
  all_goals
   refine Walk.norm zb [] [(1, _), (2, _), (3, _), (6, _), (7, _), (8, _), (9, _), (10, _), (11, _), (12, _), (13, _), (14, _), (15, _), (16, _), (17, _)] ⟨rfl, rfl, rfl, rfl, rfl, rfl, rfl, rfl, rfl, rfl, rfl, rfl, rfl, rfl, rfl, trivial⟩ ?_
   conv => whnf
   repeat' first | ((with_reducible first | apply XBr.tt | apply XBr.ff | refine XBr.y1 fun h => ?_ | refine XBr.n1 fun h => ?_ | refine XBr.beq (fun h => ?_) fun h => ?_ | refine XBr.y2 fun h => ?_ | refine XBr.n2 fun h => ?_ | refine XBr.bne (fun h => ?_) fun h => ?_) <;> conv => whnf) | with_reducible apply XBr.not | ((first | refine za.ret hsa ?_ | refine za.ret heq ?_ | refine za.ret zr ?_ | (with_reducible refine XBr.no (by decide) ?_)); conv => whnf) | fail
  all_goals first | exact ⟨.low rfl⟩ | (exfalso; simp at h; done)
end GA
end
section
namespace GA
open Go Go.RowKit Go.Proofs
def sus (l : List Su) : List AV := l.map suA
theorem zbD {n : Nat} (l : List Su) : lowL n (sus l) = true := yO l
end GA
end
section
namespace GA
open Go Go.RowKit Go.Proofs
def yc (q : List Int -> Bool) (S : Nat) : Nat -> List Int -> Nat -> Option (List Int)
 | 0, l, _ => if q l = true then some l else none
 | k + 1, l, f => (List.range' f (S - f)).findSome? fun i : Nat => yc q S k (l ++ [(i : Int)]) (i + 1)
structure Pck (S f : Nat) (t : List Int) : Prop where
 lt : t.Pairwise (· < ·)
 b : ∀ x ∈ t, (f : Int) <= x /\ x < S
theorem Pck.cons {S f i : Nat} {t : List Int} (h : Pck S (i + 1) t) (hf : f <= i) (hi : i < S) : Pck S f ((i : Int) :: t) :=
 ⟨List.pairwise_cons.2 ⟨fun x hx => by have := h.b x hx; omega, h.lt⟩, fun x hx => by
  rcases List.mem_cons.1 hx with rfl | hx
  ·omega
  ·have := h.b x hx; omega⟩
theorem jy {q : List Int -> Bool} {S : Nat} : ∀ (k : Nat) (l : List Int) (f : Nat) (L : List Int), yc q S k l f = some L -> ∃ t, L = l ++ t /\ t.length = k /\ Pck S f t /\ q L = true
 | 0, l, f, L, h => by
   rw [yc] at h
   split at h
   ·rename_i hq
    cases h
    exact ⟨[], (List.append_nil _).symm, rfl, ⟨List.Pairwise.nil, fun x hx => by cases hx⟩, hq⟩
   ·cases h
 | k + 1, l, f, L, h => by
   rw [yc, List.findSome?_eq_some_iff] at h
   obtain ⟨a, i, c, h1, h2, -⟩ := h
   have hi : i ∈ List.range' f (S - f) := by rw [h1]; simp
   rw [List.mem_range'_1] at hi
   obtain ⟨t, e, hl, hp, hq⟩ := jy k _ _ _ h2
   exact ⟨(i : Int) :: t, by rw [e, List.append_assoc]; rfl, by rw [List.length_cons, hl], hp.cons hi.1 (by omega), hq⟩
theorem wC {q : List Int -> Bool} {S : Nat} : ∀ (k : Nat) (l : List Int) (f : Nat), yc q S k l f = none -> ∀ t : List Int, t.length = k -> Pck S f t -> q (l ++ t) = false
 | 0, l, f, h, t, hl, hp => by
   rw [yc] at h
   obtain rfl := List.length_eq_zero_iff.1 hl
   rw [List.append_nil]
   split at h
   ·cases h
   ·rename_i hq; exact Bool.not_eq_true _ ▸ hq
 | k + 1, l, f, h, t, hl, hp => by
   rw [yc, List.findSome?_eq_none_iff] at h
   cases t with
   | nil => simp at hl
   | cons x t =>
     have hx := hp.b x List.mem_cons_self
     have hlt := List.pairwise_cons.1 hp.lt
     have h2 := h x.toNat (by rw [List.mem_range'_1]; omega)
     rw [Int.toNat_of_nonneg (by omega)] at h2
     have := wC k _ _ h2 t (by simpa using hl) ⟨hlt.2, fun y hy => by have := hlt.1 y hy; have := hp.b y (List.mem_cons_of_mem _ hy); omega⟩
     rwa [List.append_assoc] at this
theorem zaO {q : List Int -> Bool} {S k : Nat} {l : List Int} {f : Nat} (h : S <= f) : yc q S (k + 1) l f = none := by
 rw [yc, show S - f = 0 by omega]; rfl
theorem qG {q : List Int -> Bool} {S k : Nat} {l : List Int} {f : Nat} (h : f < S) {L : List Int} (h2 : yc q S k (l ++ [(f : Int)]) (f + 1) = some L) : yc q S (k + 1) l f = some L := by
 rw [yc, show S - f = (S - (f + 1)) + 1 by omega, List.range'_succ, List.findSome?_cons, h2]
theorem vD {q : List Int -> Bool} {S k : Nat} {l : List Int} {f : Nat} (h : f < S) (h2 : yc q S k (l ++ [(f : Int)]) (f + 1) = none) : yc q S (k + 1) l f = yc q S (k + 1) l (f + 1) := by
 rw [yc, show S - f = (S - (f + 1)) + 1 by omega, List.range'_succ, List.findSome?_cons, h2]
 rw [yc]
theorem fG {α : Type} {g : Nat -> Option α} {N j : Nat} (hj : j < N) (h : ∀ k, k < j -> g k = none) {v : α} (hv : g j = some v) : (List.range N).findSome? g = some v := by
 obtain ⟨d, rfl⟩ : ∃ d, N = j + (d + 1) := ⟨N - j - 1, by omega⟩
 rw [List.findSome?_eq_some_iff]
 refine ⟨List.range j, j, List.range' (j + 1) d, ?_, hv, fun x hx => h x (List.mem_range.1 hx)⟩
 rw [List.range_eq_range', List.range_eq_range', <- List.range'_succ]
 have := List.range'_append_1 (s := 0) (m := j) (n := d + 1)
 rw [Nat.zero_add] at this
 exact this.symm
def clsF (q : List Int -> Bool) (S : Nat) : Option (List Int) := (List.range (S + 1)).findSome? fun k => yc q S k [] 0
theorem vm {q : List Int -> Bool} {S : Nat} {L : List Int} (h : clsF q S = some L) : Pck S 0 L /\ q L = true /\ L.length <= S /\ ∀ t, t.length < L.length -> Pck S 0 t -> q t = false := by
 unfold clsF at h
 rw [List.findSome?_eq_some_iff] at h
 obtain ⟨a, k, c, h1, h2, h3⟩ := h
 obtain ⟨t, e, hl, hp, hq⟩ := jy k _ _ _ h2
 rw [List.nil_append] at e
 subst e
 have hk : k ∈ List.range (S + 1) := by rw [h1]; simp
 have hk2 := List.mem_range.1 hk
 refine ⟨hp, hq, by omega, fun u hu hpu => ?_⟩
 have hmem : u.length ∈ a := by
  have h5 : (List.range (S + 1))[u.length]? = some u.length := List.getElem?_range (by omega)
  have hal : a.length = k := by
   have h6 : (List.range (S + 1))[a.length]? = some k := by rw [h1, List.getElem?_append_right (Nat.le_refl _), Nat.sub_self]; rfl
   have h7 : a.length < S + 1 := by
    have := congrArg List.length h1
    simp at this; omega
   rw [List.getElem?_range h7] at h6
   exact Option.some.inj h6
  rw [h1, List.getElem?_append_left (by omega)] at h5
  exact List.mem_of_getElem? h5
 have := h3 _ hmem
 exact wC u.length [] 0 this u rfl hpu
theorem every_pck (S : Nat) : Pck S 0 ((List.range S).map fun i : Nat => (i : Int)) := by
 refine ⟨?_, fun x hx => ?_⟩
 ·rw [List.pairwise_map]
  exact (List.pairwise_lt_range).imp fun h => by omega
 ·obtain ⟨i, hi, rfl⟩ := List.mem_map.1 hx
  have := List.mem_range.1 hi
  omega
theorem clsF_ex {q : List Int -> Bool} {S : Nat} (h : q ((List.range S).map fun i : Nat => (i : Int)) = true) : clsF q S ≠ none := fun hn => by
 unfold clsF at hn
 rw [List.findSome?_eq_none_iff] at hn
 have := wC S [] 0 (hn S (List.mem_range.2 (by omega))) _ (by simp) (every_pck S)
 rw [List.nil_append, h] at this
 cases this
end GA
end
section
namespace GA
open Go Go.RowKit Go.Proofs
def gn (b : Bd) : List (List Int) := vecF (b.months.length + 1) (canL b)
theorem canRs_get {b : Bd} {m : Nat} (h : m <= b.months.length) : (gn b).getD m default = canL b m := yq _ (by omega)
theorem canRs_len (b : Bd) : (gn b).length = b.months.length + 1 := zj _ _
def canV (b : Bd) : AV := if z8 b ≠ 0 then .tup [.sl true [], .int .i64 (z8 b)] else .tup [.sl false (yL (gn b)), .int .i64 0]
def canS (b : Bd) (i : Nat) : List AV := yL (vecF i (canL b))
theorem qB (b : Bd) (i : Nat) : (canS b i).length = i := by unfold canS yL; rw [List.length_map, zj]
theorem vh {n : Nat} (l : List (List Int)) : lowL n (yL l) = true := lowRw l
theorem can_all_c (b : Bd) (hm : b.months.length <= 100000) (hs : b.surveys.length <= 100000) : Comp Tryz.prog 121 [bedA b] (canV b) := by
 have hp := vG b hm hs
 unfold possA at hp
 unfold canV
 by_cases hE : z8 b = 0
 ·obtain ⟨ok, _⟩ := ky.1 hE
  have m2 := ok.m2
  rw [if_neg (fun h => h hE)] at hp ⊢
  have e2 : (((matF (b.months.length + 1) 121 (cnB b alwP)).map (arrF AV.bool)).length : Int) = b.months.length + 1 := by rw [List.length_map, matF, zj]; omega
  refine Comp.body (T := tab) (res := [.tmp 2, .tmp 3]) zb [] Tryz.func121 rfl (by kernel_rfl) Tryz.ntmps121 rfl (by simp only [List.length_cons, List.length_nil]; decide) (by simp only [lowL, bedL]; rfl) ?_; conv => whnf
  repeat' ((refine za.ret hp ?_); conv => whnf)
  refine Walk.nilgr 7 22 rfl ?_
  refine Walk.loopGK zb [] [(2, _), (3, _), (6, _), (16, _), (17, _)] ⟨rfl, rfl, rfl, rfl, rfl, trivial⟩ (fun i : Nat => i <= b.months.length + 1) (fun i => [(7, .gr 0 i), (18, natA i)]) (fun i => [.grow 22 (decide (i = 0)) (canS b i)]) (fun i => b.months.length + 1 - i) 0 (Nat.zero_le _) ?_ ⟨rfl, rfl, trivial⟩ ?_ (fun _ _ => (show (1 : Nat) <= 1 from Nat.le_refl 1)) ?_
  ·have e0 : canS b 0 = [] := List.length_eq_zero_iff.1 (qB b 0)
   rw [e0]; rfl
  ·intro i _
   refine ⟨fun z hz => ?_, fun z hz => ?_⟩
   ·rw [List.mem_singleton] at hz; subst hz; exact vh _
   ·simp only [List.cons_append, List.nil_append, List.mem_cons, List.not_mem_nil, or_false] at hz
    rcases hz with rfl | rfl | rfl | rfl | rfl | rfl | rfl <;> first | rfl | exact vY b
  intro i hi
  have hli := qB b i
  have hls := zak (cnB b alwP i)
  change Comp Tryz.prog _ _ (slA (canL b i)) at hls
  conv => whnf
  by_cases hlt : i < b.months.length + 1
  ·have hcl := gK hE (m := i) (by omega)
   repeat' first | ((with_reducible first | refine XBr.y fun h => ?_ | refine XBr.n fun h => ?_ | refine XBr.dec (fun h => ?_) fun h => ?_ | refine XInt.a ?_) <;> conv => whnf) | ((first | refine zh.a ?_ | refine XIx.mat i rfl (by omega) rfl ?_ | refine ka rfl ?_ | refine zbG rfl ?_ | refine zcb ?_ | refine za.ret hls ?_); conv => whnf) | fail
   refine zp.go (i + 1) [.cells ((vecF 121 (cnB b alwP i)).map .bool)] (by omega) (by omega) ?_ ⟨rfl, rfl, rfl, rfl, rfl, rfl, rfl, trivial⟩
   show [Blk.grow _ (decide (i + 1 = 0)) (canS b (i + 1))] ++ _ = [Blk.grow _ (decide (i = 0) && false) (canS b i ++ [_]), _]
   have e : canS b (i + 1) = canS b i ++ [slA (canL b i)] := by
    unfold canS yL
    rw [vecF, dif_neg (by omega), Nat.add_sub_cancel, List.map_append]; rfl
   rw [e, Bool.and_false]; rfl
  ·obtain rfl : i = b.months.length + 1 := by omega
   repeat' ((with_reducible first | refine XBr.y fun h => ?_ | refine XBr.n fun h => ?_ | refine XBr.dec (fun h => ?_) fun h => ?_) <;> conv => whnf)
   exact ⟨Froz.tup (.cons (Froz.grow rfl hli (vh _)) (.cons (.low rfl) .nil))⟩
 ·rw [if_pos hE] at hp ⊢
  generalize z8 b = e at hp hE
  refine Comp.body (T := tab) (res := [.tmp 2, .tmp 3]) zb [] Tryz.func121 rfl (by kernel_rfl) Tryz.ntmps121 rfl (by simp only [List.length_cons, List.length_nil]; decide) (by simp only [lowL, bedL]; rfl) ?_; conv => whnf
  repeat' ((refine za.ret hp ?_); conv => whnf)
  refine Walk.loopK zb [] [(2, _), (3, _), (6, _), (16, _), (17, _)] ⟨rfl, rfl, rfl, rfl, rfl, trivial⟩ (fun _ : Unit => True) (fun _ => [(7, .sl true []), (18, .int .i64 0)]) (fun _ => []) (fun _ => 0) () trivial rfl ⟨rfl, rfl, trivial⟩ ?_
  intro _ _
  conv => whnf
  repeat' ((with_reducible first | refine XBr.y fun h => ?_ | refine XBr.n fun h => ?_ | refine XBr.dec (fun h => ?_) fun h => ?_) <;> conv => whnf)
  ·rename_i h; simp at h
  ·exact ⟨.low rfl⟩
def lkF (F : Nat -> Nat) : Nat -> Nat × Nat
 | 0 => (0, 0)
 | i + 1 => if (lkF F i).2 < F i then (i, F i) else lkF F i
theorem lkF_le {F : Nat -> Nat} {N : Nat} (h : ∀ i, F i <= N) : ∀ i, (lkF F i).2 <= N /\ (lkF F i).1 <= i
 | 0 => ⟨Nat.zero_le _, Nat.le_refl _⟩
 | i + 1 => by
   have := lkF_le h i
   have := h i
   unfold lkF
   split
   ·exact ⟨this, Nat.le_succ _⟩
   ·omega
def lkB (b : Bd) : Nat × Nat := lkF (fun m => (canL b m).length) (b.months.length + 1)
def zac (b : Bd) : AV := if z8 b ≠ 0 then .tup [.int .i64 0, .int .i64 0, .int .i64 (z8 b)] else .tup [natA (lkB b).1, natA (lkB b).2, .int .i64 0]
theorem look_c (b : Bd) (hm : b.months.length <= 100000) (hs : b.surveys.length <= 100000) : Comp Tryz.prog 123 [bedA b] (zac b) := by
 have hp := vG b hm hs
 unfold possA at hp
 unfold zac lkB
 by_cases hE : z8 b = 0
 ·obtain ⟨ok, _⟩ := ky.1 hE
  have m2 := ok.m2
  rw [if_neg (fun h => h hE)] at hp ⊢
  have e2 : (((matF (b.months.length + 1) 121 (cnB b alwP)).map (arrF AV.bool)).length : Int) = b.months.length + 1 := by rw [List.length_map, matF, zj]; omega
  have hlk := lkF_le (F := fun m => (canL b m).length) (N := 121) fun i => yR _ _
  have hls := fun i => zak (cnB b alwP i)
  change ∀ i, Comp Tryz.prog _ _ (slA (canL b i)) at hls
  have hcl : ∀ i, ((ints (canL b i)).length : Int) = (canL b i).length := fun i => by rw [zm]
  have hc2 : ∀ i, (canL b i).length <= 121 := fun i => yR _ _
  have hnx : ∀ i, lkF (fun m => (canL b m).length) (i + 1) = if (lkF (fun m => (canL b m).length) i).2 < (canL b i).length then (i, (canL b i).length) else lkF (fun m => (canL b m).length) i := fun i => rfl
  refine Comp.body (T := tab) (res := [.tmp 2, .tmp 3, .tmp 4]) zb [] Tryz.func123 rfl (by kernel_rfl) Tryz.ntmps123 rfl (by simp only [List.length_cons, List.length_nil]; decide) (by simp only [lowL, bedL]; rfl) ?_; conv => whnf
  repeat' ((refine za.ret hp ?_); conv => whnf)
  refine Walk.loopGK zb [] [(2, _), (3, _), (4, _), (7, _), (19, _), (20, _)] ⟨rfl, rfl, rfl, rfl, rfl, rfl, trivial⟩ (fun i : Nat => i <= b.months.length + 1) (fun i => [(8, natA (lkF (fun m => (canL b m).length) i).1), (9, natA (lkF (fun m => (canL b m).length) i).2), (21, natA i)]) (fun i => []) (fun i => b.months.length + 1 - i) 0 (Nat.zero_le _) rfl ⟨rfl, rfl, rfl, trivial⟩ ?_ (fun _ _ => Nat.le_refl _) ?_
  ·intro i _
   refine ⟨fun z hz => (by cases hz), fun z hz => ?_⟩
   simp only [List.cons_append, List.nil_append, List.mem_cons, List.not_mem_nil, or_false] at hz
   rcases hz with rfl | rfl | rfl | rfl | rfl | rfl | rfl | rfl | rfl <;> first | rfl | exact vY b
  intro i hi
  have hls := hls i
  have hcl := hcl i
  have hc2 := hc2 i
  have hnx := hnx i
  have hlk := hlk i
  unfold slA at hls
  generalize hqe : lkF (fun m => (canL b m).length) i = q at hnx hlk
  obtain ⟨at', many⟩ := q
  dsimp only at hnx hlk ⊢
  conv => whnf
  by_cases hlt : i < b.months.length + 1
  ·skip
   repeat' first | ((with_reducible first | refine XBr.y fun h => ?_ | refine XBr.n fun h => ?_ | refine XBr.dec (fun h => ?_) fun h => ?_ | refine XInt.a ?_) <;> conv => whnf) | ((first | refine XIx.mat i rfl (by omega) rfl ?_ | refine ka rfl ?_ | refine zbG rfl ?_ | refine zcb ?_ | refine za.ret hls ?_); conv => whnf) | fail
   ·rw [if_pos (by omega)] at hnx
    refine zp.go (i + 1) [.cells ((vecF 121 (cnB b alwP i)).map .bool)] (by omega) (by omega) rfl ⟨rfl, rfl, rfl, rfl, rfl, rfl, ?_, ?_, rfl, trivial⟩
    ·rw [hnx]; rfl
    ·rw [hnx]; exact congrArg (fun z => some (AV.int .i64 z)) hcl
   ·rw [if_neg (by omega)] at hnx
    refine zp.go (i + 1) [.cells ((vecF 121 (cnB b alwP i)).map .bool)] (by omega) (by omega) rfl ⟨rfl, rfl, rfl, rfl, rfl, rfl, ?_, ?_, rfl, trivial⟩
    ·rw [hnx]; rfl
    ·rw [hnx]; rfl
  ·obtain rfl : i = b.months.length + 1 := by omega
   repeat' ((with_reducible first | refine XBr.y fun h => ?_ | refine XBr.n fun h => ?_ | refine XBr.dec (fun h => ?_) fun h => ?_) <;> conv => whnf)
   rw [hqe]
   exact ⟨.low rfl⟩
 ·rw [if_pos hE] at hp ⊢
  generalize z8 b = e at hp hE
  refine Comp.body (T := tab) (res := [.tmp 2, .tmp 3, .tmp 4]) zb [] Tryz.func123 rfl (by kernel_rfl) Tryz.ntmps123 rfl (by simp only [List.length_cons, List.length_nil]; decide) (by simp only [lowL, bedL]; rfl) ?_; conv => whnf
  repeat' ((refine za.ret hp ?_); conv => whnf)
  refine Walk.loopK zb [] [(2, _), (3, _), (4, _), (7, _), (19, _), (20, _)] ⟨rfl, rfl, rfl, rfl, rfl, rfl, trivial⟩ (fun _ : Unit => True) (fun _ => [(8, .int .i64 0), (9, .int .i64 0), (21, .int .i64 0)]) (fun _ => []) (fun _ => 0) () trivial rfl ⟨rfl, rfl, rfl, trivial⟩ ?_
  intro _ _
  conv => whnf
  repeat' ((with_reducible first | refine XBr.y fun h => ?_ | refine XBr.n fun h => ?_ | refine XBr.dec (fun h => ?_) fun h => ?_) <;> conv => whnf)
  ·rename_i h; simp at h
  ·exact ⟨.low rfl⟩
end GA
end
section
namespace GA
open Go Go.RowKit Go.Proofs
theorem idx_int (nl : Bool) (xs : List Int) (v : Int) (hx : xs.length <= 100000) : Comp Tryz.prog 275 [.sl nl (ints xs), .int .i64 v] (.int .i64 (idxR (fun x => v == x) xs)) := by
 have e1 : ((ints xs).length : Int) = xs.length := by rw [List.length_map]
 refine Comp.body (T := tab) (res := [.tmp 4]) zb [] Tryz.func275 rfl (by kernel_rfl) Tryz.ntmps275 rfl (by simp only [List.length_cons, List.length_nil]; decide) (by simp only [lowL, AV.low, lowI]; rfl) ?_; conv => whnf
 skip
 refine Walk.loop zb [] (fun k : Nat => k <= xs.length /\ ∀ j, j < k -> (v == xs.getD j default) = false) (fun k => [(0, .sl nl (ints xs)), (1, .int .i64 v), (7, .int .i64 (ints xs).length), (8, natA k)]) (fun _ => []) (fun k => xs.length - k) 0 ⟨by omega, by omega⟩ rfl ⟨rfl, rfl, rfl, rfl, trivial⟩ ?_
 rintro k ⟨hk, h3⟩
 conv => whnf
 repeat' first | ((with_reducible first | refine XBr.y fun h => ?_ | refine XBr.n fun h => ?_ | refine XBr.dec (fun h => ?_) fun h => ?_ | refine XBr.y1 fun h => ?_ | refine XBr.n1 fun h => ?_ | refine XBr.beq (fun h => ?_) fun h => ?_ | refine XInt.a ?_) <;> conv => whnf) | (refine XIx.a ?_; conv => whnf) | fail
 ·refine XOut.int ?_
  simp only [idxR, vk (p := fun x => v == x) (d := default) (i := k) (by omega) (by rw [<- h]; exact beq_self_eq_true v) h3]
 ·refine zk.go (k + 1) ⟨by omega, fun j hj => ?_⟩ (by omega) rfl ⟨rfl, rfl, rfl, rfl, trivial⟩
  by_cases hji : j = k
  ·subst hji; exact beq_eq_false_iff_ne.2 h
  ·exact h3 j (by omega)
 ·refine XOut.int ?_
  simp only [idxR, ve (p := fun x => v == x) (d := default) fun j hj => h3 j (by omega)]
theorem zdV (nl : Bool) (xs : List Int) (v : Int) (hx : xs.length <= 100000) : Comp Tryz.prog 257 [.sl nl (ints xs), .int .i64 v] (.bool (xs.contains v)) := by
 refine Comp.body (T := tab) (res := [.tmp 4]) zb [] Tryz.func257 rfl (by kernel_rfl) Tryz.ntmps257 rfl (by simp only [List.length_cons, List.length_nil]; decide) (by simp only [lowL, AV.low, lowI]; rfl) ?_; conv => whnf
 refine za.ret (idx_int nl xs v hx) ?_
 conv => whnf
 refine XOut.bool ?_
 rw [Bool.eq_iff_iff, decide_eq_true_eq, qr, List.any_eq_true, List.contains_iff_mem]
 exact ⟨fun ⟨x, h1, h2⟩ => by rw [eq_of_beq h2]; exact h1, fun h => ⟨v, h, beq_self_eq_true v⟩⟩
def conP (L : List Int) : Nat -> Bool := fun i => L.contains (i : Int)
def clB (b : Bd) (L : List Int) : Bool := zH b (conP L)
theorem conF_c (b : Bd) (nl : Bool) (L : List Int) (hL : L.length <= 100000) : Flt b 256 [.pim [.sl nl (ints L)]] (conP L) := by
 refine ⟨by simp only [lowL, AV.low, lowI]; rfl, fun i hi => ?_⟩
 have hc := zdV nl L i hL
 show Comp Tryz.prog _ _ (.bool (L.contains (i : Int)))
 generalize L.contains (i : Int) = r at hc
 refine Comp.body (T := tab) (res := [.tmp 3]) zb [] Tryz.func256 rfl (by kernel_rfl) Tryz.ntmps256 rfl (by simp only [List.length_cons, List.length_nil]; decide) (by simp only [lowL, AV.low, lowI]; rfl) ?_; conv => whnf
 repeat' ((refine za.ret hc ?_); conv => whnf)
 exact ⟨.low rfl⟩
theorem zab (b : Bd) (ok : BdOk b) (nl : Bool) (L : List Int) (hL : L.length <= 100000) : Comp Tryz.prog 255 [.sl nl (ints L), .pim [dskA b]] (.bool (clB b L)) := by
 have hc := can_c b ok 256 [.pim [.sl nl (ints L)]] (conP L) (conF_c b nl L hL)
 have hn : (vecF 121 (cnB b (conP L) 0) == List.replicate 121 false) = clB b L := rfl
 generalize clB b L = r at hn
 refine Comp.body (T := tab) (res := [.tmp 3]) zb [] Tryz.func255 rfl (by kernel_rfl) Tryz.ntmps255 rfl (by simp only [List.length_cons, List.length_nil]; decide) (by simp only [lowL, AV.low, lowI, dskL]; rfl) ?_; conv => whnf
 repeat' first | ((first | (first | refine za.ret hc ?_ | refine XIx.mat 0 rfl (by omega) rfl ?_ | refine ka rfl ?_) | ((refine xeqb0 ?_); rw [hn])); conv => whnf) | fail
 exact ⟨.low rfl⟩
def clH (b : Bd) (d c o m : Nat) (out : AV) : List Blk := [.cells [dskA b], .cells [.fn 255 [.ptr d 0]], .cells [out], .cells [.fn 258 [.ptr o 0, .ptr c 0, .pim (bedC b), .ptr m 0]]]
theorem wt (b : Bd) (l : List Int) : ∀ x ∈ clH b 0 1 2 3 (slA l), x.low 4 = true := by
 intro x hx
 simp only [clH, List.mem_cons, List.not_mem_nil, or_false] at hx
 rcases hx with rfl | rfl | rfl | rfl
 ·simp only [Blk.low, lowL, dskL]; rfl
 ·rfl
 ·simp only [Blk.low, lowL, qm]; rfl
 ·simp only [Blk.low, lowL, AV.low, show lowL 4 (bedC b) = true from zY b]; rfl
def outL (o : Option (List Int)) : List Int := o.getD []
def zbw (b : Bd) (k : Nat) (l : List Int) (f : Nat) : Prop :=
 yb Tryz.prog 258 [slA l, natA f, natA k, .ptr 2 0, .ptr 1 0, .pim (bedC b), .ptr 3 0] (clH b 0 1 2 3 (slA [])) fun r H' => r = .bool (yc (clB b) b.surveys.length k l f).isSome /\ H' = clH b 0 1 2 3 (slA (outL (yc (clB b) b.surveys.length k l f)))
def rho4 (d c o m : Nat) : Nat -> Nat
 | 0 => d
 | 1 => c
 | 2 => o
 | _ => m
theorem za.more {b : Bd} {k : Nat} {l : List Int} {f : Nat} (x : zbw b k l f) {v : AV} (hv : v = slA l) {H : List Blk} {K : AV -> List Blk -> Prop} (d c o m : Nat) (hd : d < c /\ c < o /\ o < m) (h0 : lget H d = some (.cells [dskA b])) (h1 : lget H c = some (.cells [.fn 255 [.ptr d 0]])) (h2 : lget H o = some (.cells [slA []]))
  (h3 : lget H m = some (.cells [.fn 258 [.ptr o 0, .ptr c 0, .pim (bedC b), .ptr m 0]])) (hk : K (.bool (yc (clB b) b.surveys.length k l f).isSome) (H.set o (.cells [slA (outL (yc (clB b) b.surveys.length k l f))]))) :
  za Tryz.prog 258 [v, natA f, natA k, .ptr o 0, .ptr c 0, .pim (bedC b), .ptr m 0] H K := by
 subst hv
 have hb : renL (rho4 d c o m) (bedC b) = bedC b := vl (zY b)
 have hD : renL (rho4 d c o m) (dskC b) = dskC b := vl (lowDk1 b)
 have hL : ∀ xs : List Int, renL (rho4 d c o m) (ints xs) = ints xs := fun xs => vl (lowI xs)
 rw [zu] at h0 h1 h2 h3
 constructor
 have e := yb.frame (ρ := rho4 d c o m) (H := H) (k := K) x ?_ ?_ (wt b []) ?_ ?_
 ·simp only [List.map_cons, List.map_nil, slA, natA, AV.ren, hb, hL] at e
  exact e
 ·intro i j hi hj he
  simp only [clH, List.length_cons, List.length_nil] at hi hj
  rcases i with _ | _ | _ | _ | i <;> rcases j with _ | _ | _ | _ | j <;> simp only [rho4] at he <;> omega
 ·intro i x1 hi
  rcases i with _ | _ | _ | _ | i
  ·simp only [clH, List.getElem?_cons_zero, Option.some.injEq] at hi; subst hi
   simp only [Blk.ren, renL, dskA, AV.ren, hD]; exact h0
  ·simp only [clH, List.getElem?_cons_succ, List.getElem?_cons_zero, Option.some.injEq] at hi; subst hi
   exact h1
  ·simp only [clH, List.getElem?_cons_succ, List.getElem?_cons_zero, Option.some.injEq] at hi; subst hi
   exact h2
  ·simp only [clH, List.getElem?_cons_succ, List.getElem?_cons_zero, Option.some.injEq] at hi; subst hi
   simp only [Blk.ren, renL, AV.ren, hb]; exact h3
  ·simp [clH] at hi
 ·simp only [clH, List.length_cons, List.length_nil, lowL, AV.low, natA, slA, lowI, show lowL 4 (bedC b) = true from zY b]; rfl
 ·rintro r1 H1' ⟨rfl, rfl⟩
  have ho := (List.getElem?_eq_some_iff.1 h2).1
  refine ⟨rfl, H.set o (.cells [slA (outL (yc (clB b) b.surveys.length k l f))]), by simp, fun i x1 hi => ?_, fun q hq => ?_, hk⟩
  ·rcases i with _ | _ | _ | _ | i
   ·simp only [clH, List.getElem?_cons_zero, Option.some.injEq] at hi; subst hi
    simp only [Blk.ren, renL, dskA, AV.ren, hD]
    rw [List.getElem?_set_ne (by simp only [rho4]; omega)]; exact h0
   ·simp only [clH, List.getElem?_cons_succ, List.getElem?_cons_zero, Option.some.injEq] at hi; subst hi
    rw [List.getElem?_set_ne (by simp only [rho4]; omega)]; exact h1
   ·simp only [clH, List.getElem?_cons_succ, List.getElem?_cons_zero, Option.some.injEq] at hi; subst hi
    simp only [Blk.ren, renL, slA, AV.ren, hL]
    exact List.getElem?_set_self ho
   ·simp only [clH, List.getElem?_cons_succ, List.getElem?_cons_zero, Option.some.injEq] at hi; subst hi
    simp only [Blk.ren, renL, AV.ren, hb]
    rw [List.getElem?_set_ne (by simp only [rho4]; omega)]; exact h3
   ·simp [clH] at hi
  ·exact List.getElem?_set_ne (by have := hq 2 (by simp [clH]); simpa [rho4] using this)
theorem more_c (b : Bd) (ok : BdOk b) (q0 : clB b [] = false) : ∀ (k : Nat) (l : List Int) (f : Nat), l.length + k <= 100 -> f <= 100 -> zbw b k l f
 | 0, l, f, hl, hf => by
   have hc := zab b ok l.isEmpty l (by omega)
   have e2 : ((ints l).length : Int) = l.length := by rw [zm]
   have hfr : yN Tryz.prog (clH b 0 1 2 3 (slA [])) [slA l, .ptr 0 0] [.sl l.isEmpty (ints l), .pim [dskA b]] := .cons (.low (lowI _)) (.cons (Froz.ptr rfl (one1 rfl) (.cons (.low (dskL b)) .nil)) .nil)
   have hq : yc (clB b) b.surveys.length 0 l f = if clB b l = true then some l else none := rfl
   unfold zbw
   rw [hq]
   cases hb : clB b l with
   | true =>
     have hne : l ≠ [] := fun e => by rw [e, q0] at hb; cases hb
     have hne2 := List.length_pos_iff.2 hne
     rw [hb] at hc
     refine yb.bodyK (T := tab) (res := [.tmp 10]) zb [] Tryz.func258 rfl (by kernel_rfl) Tryz.ntmps258 rfl (by simp only [List.length_cons, List.length_nil]; decide) ?_; conv => whnf
     repeat' first | ((with_reducible first | apply XBr.tt | refine XBr.y1 fun h => ?_ | refine XBr.n1 fun h => ?_ | refine XBr.beq (fun h => ?_) fun h => ?_) <;> conv => whnf) | ((refine za.lend hc (.cons (.low (lowI _)) (.cons (Froz.ptr rfl (one1 rfl) (.cons (.low (dskL b)) .nil)) .nil)) rfl ?_); conv => whnf) | fail
     exact XCut.mk' (clH b 0 1 2 3 (slA l)) [] rfl rfl (wt b l) rfl ⟨congrArg AV.bool (decide_eq_true (by omega)), rfl⟩
   | false =>
     rw [hb] at hc
     refine yb.bodyK (T := tab) (res := [.tmp 10]) zb [] Tryz.func258 rfl (by kernel_rfl) Tryz.ntmps258 rfl (by simp only [List.length_cons, List.length_nil]; decide) ?_; conv => whnf
     repeat' first | ((with_reducible first | apply XBr.ff | refine XBr.y1 fun h => ?_ | refine XBr.n1 fun h => ?_ | refine XBr.beq (fun h => ?_) fun h => ?_) <;> conv => whnf) | ((refine za.lend hc (.cons (.low (lowI _)) (.cons (Froz.ptr rfl (one1 rfl) (.cons (.low (dskL b)) .nil)) .nil)) rfl ?_); conv => whnf) | fail
     exact XCut.mk' (clH b 0 1 2 3 (slA [])) [] rfl rfl (wt b []) rfl ⟨rfl, rfl⟩
 | k + 1, l, f, hl, hf => by
   have e3 : ((b.surveys.map suA).length : Int) = b.surveys.length := by rw [List.length_map]
   have s1 := ok.s1
   unfold zbw
   refine yb.bodyK (T := tab) (res := [.tmp 10]) zb [] Tryz.func258 rfl (by kernel_rfl) Tryz.ntmps258 rfl (by simp only [List.length_cons, List.length_nil]; decide) ?_; conv => whnf
   repeat' ((with_reducible first | refine XBr.y1 fun h => ?_ | refine XBr.n1 fun h => ?_ | refine XBr.beq (fun h => ?_) fun h => ?_) <;> conv => whnf)
   refine Walk.loopGK zb [] [(0, _), (2, _), (5, _), (6, _)] ⟨rfl, rfl, rfl, rfl, trivial⟩ (fun i : Nat => f <= i /\ i <= max f b.surveys.length /\ yc (clB b) b.surveys.length (k + 1) l f = yc (clB b) b.surveys.length (k + 1) l i) (fun i => [(11, natA i)]) (fun _ => clH b 0 1 2 3 (slA [])) (fun i => b.surveys.length - i) f ⟨Nat.le_refl _, by omega, rfl⟩ rfl ⟨rfl, trivial⟩ ?_ (fun _ _ => (show (4 : Nat) <= 4 from Nat.le_refl 4)) ?_
   ·intro q _
    refine ⟨wt b [], fun z hz => ?_⟩
    simp only [List.cons_append, List.nil_append, List.mem_cons, List.not_mem_nil, or_false] at hz
    rcases hz with rfl | rfl | rfl | rfl | rfl <;> first | rfl | exact qm _ | exact zY b
   rintro i ⟨hi1, hi2, hi3⟩
   rw [hi3]
   conv => whnf
   by_cases hlt : i < b.surveys.length
   ·have hmo := more_c b ok q0 k (l ++ [(i : Int)]) (i + 1) (by rw [List.length_append, List.length_cons, List.length_nil]; omega) (by omega)
    have hk1 : ((k + 1 : Nat) : Int) - 1 = (k : Nat) := by omega
    cases hl0 : l with
    | nil =>
      subst hl0
      have hnl : True := trivial
      have hll : True := trivial
      have hsl : True := trivial
      cases hR : yc (clB b) b.surveys.length k (([] : List Int) ++ [(i : Int)]) (i + 1) with
      | none =>
        repeat' ((with_reducible first | refine XBr.y fun h => ?_ | refine XBr.n fun h => ?_ | refine XBr.dec (fun h => ?_) fun h => ?_) <;> conv => whnf)
        apply Walk.drawX zb zg [] [5, 10] (hsC [clH b 0 1 2 3 (slA []), clH b 0 1 2 3 (slA []) ++ [.grow 3 false [natA i]], clH b 0 1 2 3 (slA []) ++ [.dead]]) [_, _, .sl true [], _, _, .gr 4 1, _, _, _, _, .bool false] (by kernel_rfl) rfl
        ·skip
         repeat' first | ((with_reducible first | refine XInt.a ?_ | apply Chk.go | apply ChkA.go); conv => whnf) | (refine zh.a ?_; conv => whnf) | (with_reducible first | apply XAnd.mk | exact trivial) | (exact zd.mk rfl rfl) | (refine za.inl (T := tab) (res := [.tmp 2]) zb [] Tryz.func31 rfl (by kernel_rfl) Tryz.ntmps31 rfl (by simp only [List.length_append, List.length_cons, List.length_nil]; decide) ?_; conv => whnf) | ((with_reducible refine XBr.yes rfl ?_); conv => whnf) | (rw [hk1]; (refine za.freeze 4 _ rfl (by first | rfl | (rw [List.length_append, hll]; rfl)) (.gr (.same (.same (.same (.same (.same (.same .nil))))))) ?_); (refine za.more hmo (by first | rfl | exact hsl.symm) 0 1 2 3 (by omega) rfl rfl rfl rfl ?_); rw [hR]; exact zd.mk rfl rfl) | fail
        ·skip
         repeat' first | ((with_reducible first | refine XInt.a ?_ | apply Chk.go | apply ChkF.go | apply ChkB.go); conv => whnf) | (with_reducible first | apply XAnd.mk | exact trivial) | (exact zd.mk rfl rfl) | fail
        conv => whnf
        repeat' ((with_reducible first | apply XBr.ff | refine XInt.a ?_); conv => whnf)
        exact zp.go (i + 1) [.dead] ⟨by omega, by omega, vD hlt hR⟩ (by omega) rfl ⟨rfl, rfl, rfl, rfl, rfl, trivial⟩
      | some L =>
        repeat' ((with_reducible first | refine XBr.y fun h => ?_ | refine XBr.n fun h => ?_ | refine XBr.dec (fun h => ?_) fun h => ?_) <;> conv => whnf)
        apply Walk.drawX zb zg [] [5, 10] (hsC [clH b 0 1 2 3 (slA []), clH b 0 1 2 3 (slA []) ++ [.grow 3 false [natA i]], clH b 0 1 2 3 (slA L) ++ [.dead]]) [_, _, .sl true [], _, _, .gr 4 1, _, _, _, _, .bool true] (by kernel_rfl) rfl
        ·skip
         repeat' first | ((with_reducible first | refine XInt.a ?_ | apply Chk.go | apply ChkA.go); conv => whnf) | (refine zh.a ?_; conv => whnf) | (with_reducible first | apply XAnd.mk | exact trivial) | (exact zd.mk rfl rfl) | (refine za.inl (T := tab) (res := [.tmp 2]) zb [] Tryz.func31 rfl (by kernel_rfl) Tryz.ntmps31 rfl (by simp only [List.length_append, List.length_cons, List.length_nil]; decide) ?_; conv => whnf) | ((with_reducible refine XBr.yes rfl ?_); conv => whnf) | (rw [hk1]; (refine za.freeze 4 _ rfl (by first | rfl | (rw [List.length_append, hll]; rfl)) (.gr (.same (.same (.same (.same (.same (.same .nil))))))) ?_); (refine za.more hmo (by first | rfl | exact hsl.symm) 0 1 2 3 (by omega) rfl rfl rfl rfl ?_); rw [hR]; exact zd.mk rfl rfl) | fail
        ·skip
         repeat' first | ((with_reducible first | refine XInt.a ?_ | apply Chk.go | apply ChkF.go | apply ChkB.go); conv => whnf) | (with_reducible first | apply XAnd.mk | exact trivial) | (exact zd.mk rfl rfl) | fail
        conv => whnf
        repeat' ((with_reducible apply XBr.tt); conv => whnf)
        rw [qG hlt hR]
        exact XCut.mk' (clH b 0 1 2 3 (slA L)) [.dead] rfl rfl (wt b L) rfl ⟨rfl, rfl⟩
    | cons x0 xs0 =>
      have hnl : l.isEmpty = false := by rw [hl0]; rfl
      have hll : (ints l).length = l.length := zm _
      have hsl : slA (l ++ [(i : Int)]) = .sl false (ints l ++ [natA i]) := by unfold slA; rw [zD, ints, List.map_append, Bool.and_false]; rfl
      rw [<- hl0]
      clear hl0
      cases hR : yc (clB b) b.surveys.length k (l ++ [(i : Int)]) (i + 1) with
      | none =>
        repeat' ((with_reducible first | refine XBr.y fun h => ?_ | refine XBr.n fun h => ?_ | refine XBr.dec (fun h => ?_) fun h => ?_) <;> conv => whnf)
        apply Walk.drawX zb zg [] [2, 5, 10] (hsC [clH b 0 1 2 3 (slA []), clH b 0 1 2 3 (slA []) ++ [.grow 3 false (ints l)], clH b 0 1 2 3 (slA []) ++ [.grow 3 false (ints l ++ [natA i])], clH b 0 1 2 3 (slA []) ++ [.dead]]) [_, _, .gr 4 l.length, _, _, .gr 4 (l.length + 1), _, _, _, _, .bool false] (by kernel_rfl) rfl
        ·skip
         repeat' first | ((with_reducible first | refine XInt.a ?_ | apply Chk.go | apply ChkA.go); conv => whnf) | (refine zh.a ?_; conv => whnf) | (with_reducible first | apply XAnd.mk | exact trivial) | (exact zd.mk rfl rfl) | (exact zd.mk (by first | rfl | (simp only [List.map_append, List.length_append, List.length_map]; done) | (simp only [List.map_append, List.length_append, List.length_map]; rfl)) (by first | rfl | (simp only [List.map_append]; done) | (simp only [List.map_append]; rfl))) | (refine za.inl (T := tab) (res := [.tmp 2]) zb [] Tryz.func31 rfl (by kernel_rfl) Tryz.ntmps31 rfl (by simp only [List.length_append, List.length_cons, List.length_nil]; decide) ?_; conv => whnf) | ((with_reducible refine XBr.no hnl ?_); conv => whnf) | (rw [hk1]; (refine za.freeze 4 _ rfl (by first | rfl | (rw [List.length_append, hll]; rfl)) (.gr (.same (.same (.same (.same (.same (.same .nil))))))) ?_); (refine za.more hmo (by first | rfl | exact hsl.symm) 0 1 2 3 (by omega) rfl rfl rfl rfl ?_); rw [hR]; exact zd.mk rfl rfl) | fail
        ·skip
         repeat' first | ((with_reducible first | refine XInt.a ?_ | apply Chk.go | apply ChkF.go | apply ChkB.go); conv => whnf) | (refine zh.a ?_; conv => whnf) | (with_reducible first | apply XAnd.mk | exact trivial) | (exact zd.mk rfl rfl) | fail
        conv => whnf
        repeat' ((with_reducible first | apply XBr.ff | refine XInt.a ?_); conv => whnf)
        exact zp.go (i + 1) [.dead] ⟨by omega, by omega, vD hlt hR⟩ (by omega) rfl ⟨rfl, rfl, rfl, rfl, rfl, trivial⟩
      | some L =>
        repeat' ((with_reducible first | refine XBr.y fun h => ?_ | refine XBr.n fun h => ?_ | refine XBr.dec (fun h => ?_) fun h => ?_) <;> conv => whnf)
        apply Walk.drawX zb zg [] [2, 5, 10] (hsC [clH b 0 1 2 3 (slA []), clH b 0 1 2 3 (slA []) ++ [.grow 3 false (ints l)], clH b 0 1 2 3 (slA []) ++ [.grow 3 false (ints l ++ [natA i])], clH b 0 1 2 3 (slA L) ++ [.dead]]) [_, _, .gr 4 l.length, _, _, .gr 4 (l.length + 1), _, _, _, _, .bool true] (by kernel_rfl) rfl
        ·skip
         repeat' first | ((with_reducible first | refine XInt.a ?_ | apply Chk.go | apply ChkA.go); conv => whnf) | (refine zh.a ?_; conv => whnf) | (with_reducible first | apply XAnd.mk | exact trivial) | (exact zd.mk rfl rfl) | (exact zd.mk (by first | rfl | (simp only [List.map_append, List.length_append, List.length_map]; done) | (simp only [List.map_append, List.length_append, List.length_map]; rfl)) (by first | rfl | (simp only [List.map_append]; done) | (simp only [List.map_append]; rfl))) | (refine za.inl (T := tab) (res := [.tmp 2]) zb [] Tryz.func31 rfl (by kernel_rfl) Tryz.ntmps31 rfl (by simp only [List.length_append, List.length_cons, List.length_nil]; decide) ?_; conv => whnf) | ((with_reducible refine XBr.no hnl ?_); conv => whnf) | (rw [hk1]; (refine za.freeze 4 _ rfl (by first | rfl | (rw [List.length_append, hll]; rfl)) (.gr (.same (.same (.same (.same (.same (.same .nil))))))) ?_); (refine za.more hmo (by first | rfl | exact hsl.symm) 0 1 2 3 (by omega) rfl rfl rfl rfl ?_); rw [hR]; exact zd.mk rfl rfl) | fail
        ·skip
         repeat' first | ((with_reducible first | refine XInt.a ?_ | apply Chk.go | apply ChkF.go | apply ChkB.go); conv => whnf) | (refine zh.a ?_; conv => whnf) | (with_reducible first | apply XAnd.mk | exact trivial) | (exact zd.mk rfl rfl) | fail
        conv => whnf
        repeat' ((with_reducible apply XBr.tt); conv => whnf)
        rw [qG hlt hR]
        exact XCut.mk' (clH b 0 1 2 3 (slA L)) [.dead] rfl rfl (wt b L) rfl ⟨rfl, rfl⟩
   ·rw [zaO (by omega)]
    repeat' ((with_reducible first | refine XBr.y fun h => ?_ | refine XBr.n fun h => ?_ | refine XBr.dec (fun h => ?_) fun h => ?_) <;> conv => whnf)
    exact XCut.mk' (clH b 0 1 2 3 (slA [])) [] rfl rfl (wt b []) rfl ⟨rfl, rfl⟩
end GA
end
section
namespace GA
open Go Go.RowKit Go.Proofs
def okP (b : Bd) (share : Int) : Nat -> Nat -> List Int -> Prop
 | 0, q, xs => xs = [] /\ share <= q
 | _ + 1, _, [] => False
 | k + 1, q, x :: xs => 0 <= x /\ x <= lieR b (b.months.length - (k + 1)) q /\ okP b share k (lieR b (b.months.length - (k + 1)) q - x).toNat xs
theorem zdn {nx : Nat -> Int} {lies : Nat} : ∀ {n r : Nat}, r < n -> nx (lies - r) ≠ -1 -> (r : Int) + nx (lies - r) <= yW nx lies n
 | n + 1, r, h, hne => by
   unfold yW
   by_cases hr : r = n
   ·subst hr; rw [if_neg hne]; omega
   ·have := zdn (nx := nx) (lies := lies) (n := n) (r := r) (by omega) hne
    split <;> omega
theorem fZ {nx : Nat -> Int} {lies : Nat} (h0 : ∀ q, -1 <= nx q) : ∀ n, yW nx lies n = -1 \/ ∃ r, r < n /\ nx (lies - r) ≠ -1 /\ (r : Int) + nx (lies - r) = yW nx lies n
 | 0 => .inl rfl
 | n + 1 => by
   unfold yW
   by_cases hn : nx (lies - n) = -1
   ·rw [if_pos hn]
    rcases fZ h0 n with h | ⟨r, h1, h2, h3⟩
    ·exact .inl h
    ·exact .inr ⟨r, by omega, h2, h3⟩
   ·rw [if_neg hn]
    right
    have := h0 (lies - n)
    by_cases hc : yW nx lies n <= n + nx (lies - n)
    ·exact ⟨n, by omega, hn, by omega⟩
    ·rcases fZ (nx := nx) (lies := lies) h0 n with h | ⟨r, h1, h2, h3⟩
     ·omega
     ·exact ⟨r, by omega, h2, by omega⟩
theorem qF {nx : Nat -> Int} {lies r : Nat} {v : Int} : kH nx lies v r = true ↔ nx (lies - r) ≠ -1 /\ (r : Int) + nx (lies - r) = v := by
 unfold kH
 simp
theorem ga {b : Bd} (o : BedOk b) (share : Int) : ∀ k, k <= b.months.length -> ∀ a,
  (valM b share k a ≠ -1 -> okP b share k a (zV b share k a) /\ (zV b share k a).sum = valM b share k a) /\
  ∀ xs, okP b share k a xs -> valM b share k a ≠ -1 /\ xs.sum <= valM b share k a /\ (xs.sum = valM b share k a -> 0 <= cmpL xs (zV b share k a))
 | 0, _, a => by
   refine ⟨fun h => ?_, fun xs h => ?_⟩
   ·unfold valM at h ⊢
    by_cases hs : share <= a
    ·rw [if_pos hs]; exact ⟨⟨rfl, hs⟩, rfl⟩
    ·rw [if_neg hs] at h; exact absurd rfl h
   ·obtain ⟨rfl, hs⟩ := h
    unfold valM
    rw [if_pos hs]
    exact ⟨by omega, by simp, fun _ => by simp [zV, cmpL]⟩
 | k + 1, hk, a => by
   have hl := yp o (j := b.months.length - (k + 1)) (n := a) (by have := o.m1; omega)
   obtain ⟨lies, hlies⟩ : ∃ lies : Nat, lieR b (b.months.length - (k + 1)) a = lies := ⟨(lieR b (b.months.length - (k + 1)) a).toNat, by omega⟩
   have ih := ga o share k (by omega)
   have hvb := zai o share k (by omega)
   have hval : valM b share (k + 1) a = yW (valM b share k) lies (lies + 1) := by
    show yW _ (lieR b (b.months.length - (k + 1)) a).toNat ((lieR b (b.months.length - (k + 1)) a).toNat + 1) = _
    rw [hlies, Int.toNat_natCast]
   have key : ∀ r, r <= lies -> kH (valM b share k) lies (valM b share (k + 1) a) r = true -> ∃ r0, r0 <= r /\ kH (valM b share k) lies (valM b share (k + 1) a) r0 = true /\ zV b share (k + 1) a = (r0 : Int) :: zV b share k (lies - r0) := by
    intro r hr hrk
    cases hf : (List.range (lies + 1)).find? (kH (valM b share k) lies (valM b share (k + 1) a)) with
    | none =>
      have := List.find?_range_eq_none.1 hf r (by omega)
      rw [hrk] at this; cases this
    | some r0 =>
      obtain ⟨h1, h2, h3⟩ := List.find?_range_eq_some.1 hf
      have h2' := List.mem_range.1 h2
      have hle : r0 <= r := by
       by_cases hlt : r < r0
       ·have := h3 r hlt
        rw [hrk] at this; cases this
       ·omega
      exact ⟨r0, hle, h1, fq hlies (by omega) h1 fun q hq => by have := h3 q hq; simpa using this⟩
   refine ⟨fun h => ?_, fun xs h => ?_⟩
   ·rw [hval] at h
    rcases fZ (lies := lies) (fun q => (hvb q).1) (lies + 1) with h' | ⟨r, h1, h2, h3⟩
    ·exact absurd h' h
    ·obtain ⟨r0, q1, q2, q3⟩ := key r (by omega) (qF.2 ⟨h2, by rw [hval]; exact h3⟩)
     obtain ⟨p1, p2⟩ := qF.1 q2
     obtain ⟨i1, i2⟩ := (ih (lies - r0)).1 p1
     rw [q3]
     refine ⟨⟨by omega, by rw [hlies]; omega, ?_⟩, ?_⟩
     ·rw [hlies, show ((lies : Int) - (r0 : Int)).toNat = lies - r0 by omega]; exact i1
     ·rw [List.sum_cons, i2, p2]
   ·cases xs with
    | nil => exact h.elim
    | cons x xs =>
      obtain ⟨x1, x2, x3⟩ := h
      rw [hlies] at x2 x3
      obtain ⟨r, rfl⟩ : ∃ r : Nat, x = r := ⟨x.toNat, by omega⟩
      rw [show ((lies : Int) - (r : Int)).toNat = lies - r by omega] at x3
      obtain ⟨i1, i2, i3⟩ := (ih (lies - r)).2 xs x3
      have hub := zdn (nx := valM b share k) (lies := lies) (n := lies + 1) (r := r) (by omega) i1
      rw [<- hval] at hub
      have hv0 := (hvb (lies - r)).1
      refine ⟨by omega, by rw [List.sum_cons]; omega, fun hsum => ?_⟩
      rw [List.sum_cons] at hsum
      obtain ⟨r0, q1, q2, q3⟩ := key r (by omega) (qF.2 ⟨i1, by omega⟩)
      rw [q3]
      show 0 <= (if (r : Int) < r0 then -1 else if (r0 : Int) < r then 1 else cmpL xs (zV b share k (lies - r0)))
      rw [if_neg (by omega)]
      by_cases hlt : (r0 : Int) < r
      ·rw [if_pos hlt]; decide
      ·rw [if_neg hlt]
       obtain rfl : r0 = r := by omega
       exact i3 (by omega)
theorem w0 {b : Bd} (o : BedOk b) (share : Int) : ∀ k, k <= b.months.length -> ∀ a, (∀ x ∈ zV b share k a, 0 <= x /\ x <= b.room) /\ (zV b share k a).length <= k
 | 0, _, a => ⟨by simp [zV], Nat.le_refl _⟩
 | k + 1, hk, a => by
   have hl := yp o (j := b.months.length - (k + 1)) (n := a) (by have := o.m1; omega)
   unfold zV
   split
   ·rename_i r hr
    have hm := List.mem_range.1 (List.mem_of_find?_eq_some hr)
    have ih := w0 o share k (by omega) ((lieR b (b.months.length - (k + 1)) a).toNat - r)
    refine ⟨fun x hx => ?_, by simp only [List.length_cons]; omega⟩
    rcases List.mem_cons.1 hx with rfl | hx
    ·omega
    ·exact ih.1 x hx
   ·have ih := w0 o share k (by omega) a
    exact ⟨ih.1, by omega⟩
theorem zaH {b : Bd} {plan : List Int} {m n : Nat} (hm : m < b.months.length) : lieR (zF b plan) m n = lieR b m n := by
 have := jb (b := b) (plan := plan) hm
 unfold moB at this
 unfold lieR
 rw [this]; rfl
theorem endW_ok {b : Bd} {plan : List Int} (hl : plan.length = b.months.length) (hp : ∀ x ∈ plan, 0 <= x) {share : Int} (hs : 0 <= share) : ∀ k, k <= b.months.length -> ∀ n, share <= endW (zF b plan) k n ↔ okP b share k n (plan.drop (b.months.length - k))
 | 0, _, n => by
   rw [List.drop_of_length_le (by omega)]
   exact ⟨fun h => ⟨rfl, h⟩, fun h => h.2⟩
 | k + 1, hk, n => by
   have hm : b.months.length - (k + 1) < plan.length := by omega
   have hd := vj hm
   rw [show b.months.length - (k + 1) + 1 = b.months.length - k by omega] at hd
   rw [hd]
   have hmM : b.months.length - (k + 1) < b.months.length := by omega
   have hr : (moB (zF b plan) (b.months.length - (k + 1))).r = plan.getD (b.months.length - (k + 1)) default := by rw [jb hmM]; rfl
   have h0 := hp _ (zB (d := default) hm)
   unfold endW
   rw [z7, zaH hmM, hr]
   show _ ↔ 0 <= _ /\ _ <= _ /\ okP b share k _ _
   rw [<- endW_ok hl hp hs k (by omega)]
   split
   ·constructor <;> intro h <;> omega
   ·exact ⟨fun h => ⟨h0, by omega, h⟩, fun h => h.2.2⟩
theorem keepB_iff {b : Bd} {plan : List Int} (hl : plan.length = b.months.length) (hp : ∀ x ∈ plan, 0 <= x) {share : Int} (hs : 0 <= share) : j6 b plan share = true ↔ okP b share b.months.length (zn b).toNat plan := by
 unfold j6 endR
 rw [decide_eq_true_iff, z7]
 have := endW_ok hl hp hs b.months.length (Nat.le_refl _) (zn (zF b plan)).toNat
 rw [Nat.sub_self, List.drop_zero] at this
 exact this
theorem okP_len {b : Bd} {share : Int} : ∀ {k a : Nat} {xs : List Int}, okP b share k a xs -> xs.length = k
 | 0, _, _, h => by obtain ⟨rfl, _⟩ := h; rfl
 | k + 1, _, [], h => h.elim
 | k + 1, _, x :: xs, h => by rw [List.length_cons, okP_len h.2.2]
end GA
end
section
namespace GA
open Go Go.RowKit Go.Proofs
theorem za7 {xs : List Int} {m : Nat} (h : m < xs.length) : (xs.take (m + 1)).sum = (xs.take m).sum + xs.getD m default := by
 rw [List.take_add_one, List.getElem?_eq_getElem h, List.sum_append, List.getD_eq_getElem?_getD, List.getElem?_eq_getElem h]
 simp
theorem vT {xs : List Int} {r : Int} (h : ∀ x ∈ xs, 0 <= x /\ x <= r) (hr : r <= 120) : ∀ m, m <= xs.length -> 0 <= (xs.take m).sum /\ (xs.take m).sum <= 120 * m
 | 0, _ => by simp
 | m + 1, hm => by
   have ih := vT h hr m (by omega)
   have := h _ (zB (d := default) (show m < xs.length by omega))
   rw [za7 (by omega)]; omega
def allL (r : Nat) : Nat -> List (List Int)
 | 0 => [[]]
 | k + 1 => (List.range (r + 1)).flatMap fun n : Nat => (allL r k).map fun xs => (n : Int) :: xs
theorem qu {r : Nat} : ∀ {k : Nat} {xs : List Int}, xs ∈ allL r k ↔ xs.length = k /\ ∀ x ∈ xs, 0 <= x /\ x <= r
 | 0, xs => by
   rw [allL, List.mem_singleton]
   constructor
   ·rintro rfl; exact ⟨rfl, by simp⟩
   ·rintro ⟨h, -⟩; exact List.eq_nil_of_length_eq_zero h
 | k + 1, xs => by
   rw [allL, List.mem_flatMap]
   constructor
   ·rintro ⟨n, hn, h⟩
    obtain ⟨ys, hy, rfl⟩ := List.mem_map.1 h
    obtain ⟨h1, h2⟩ := qu.1 hy
    have := List.mem_range.1 hn
    refine ⟨by simp [h1], fun x hx => ?_⟩
    rcases List.mem_cons.1 hx with rfl | hx
    ·omega
    ·exact h2 x hx
   ·rintro ⟨h1, h2⟩
    cases xs with
    | nil => simp at h1
    | cons x ys =>
      have hx := h2 x List.mem_cons_self
      refine ⟨x.toNat, List.mem_range.2 (by omega), List.mem_map.2 ⟨ys, qu.2 ⟨by simpa using h1, fun y hy => h2 y (List.mem_cons_of_mem _ hy)⟩, ?_⟩⟩
      rw [Int.toNat_of_nonneg hx.1]
theorem gG (r : Nat) : ∀ k, (allL r k).Pairwise fun x y => cmpL x y < 0
 | 0 => by simp [allL]
 | k + 1 => by
   rw [allL, List.pairwise_flatMap]
   refine ⟨fun n _ => ?_, ?_⟩
   ·rw [List.pairwise_map]
    refine (gG r k).imp fun {x y} h => ?_
    show (if (n : Int) < n then -1 else if (n : Int) < n then 1 else cmpL x y) < 0
    rw [if_neg (by omega), if_neg (by omega)]; exact h
   ·refine List.pairwise_lt_range.imp fun {a c} h => ?_
    rintro x hx y hy
    obtain ⟨xs, -, rfl⟩ := List.mem_map.1 hx
    obtain ⟨ys, -, rfl⟩ := List.mem_map.1 hy
    show (if (a : Int) < c then -1 else if (c : Int) < a then 1 else cmpL xs ys) < 0
    rw [if_pos (by omega)]; decide
theorem qe (r : Nat) : ∀ k, (allL r k).length = (r + 1) ^ k
 | 0 => rfl
 | k + 1 => by
   rw [allL, List.length_flatMap]
   simp only [List.length_map, qe r k]
   rw [List.map_const', List.sum_replicate_nat, List.length_range, Nat.pow_succ, Nat.mul_comm]
theorem pow_b {r k : Nat} (hr : r <= 12) (hk : k <= 3) : (r + 1) ^ k <= 2197 := by
 have h1 : (r + 1) ^ k <= 13 ^ k := Nat.pow_le_pow_left (by omega) k
 have h2 : 13 ^ k <= 13 ^ 3 := Nat.pow_le_pow_right (by omega) hk
 have : (13 : Nat) ^ 3 = 2197 := by decide
 omega
def lsA (xs : List Int) : AV := .sl false (ints xs)
theorem lsA_low {n : Nat} (xs : List Int) : (lsA xs).low n = true := lowI xs
theorem lss_low {n : Nat} (l : List (List Int)) : lowL n (l.map lsA) = true := y6 (fun _ => lsA_low _) l
theorem wideLs (l : List (List Int)) : wide 1 (l.map lsA) = true := w7 (f := lsA) (n := 1) (fun _ => rfl) (fun _ => rfl) l
def goL (r k : Nat) (begun : List Int) (n : Nat) : List (List Int) := (List.range n).flatMap fun q : Nat => (allL r k).map fun xs => begun ++ (q : Int) :: xs
theorem zdb (r k : Nat) (begun : List Int) (n : Nat) : goL r k begun (n + 1) = goL r k begun n ++ (allL r k).map fun xs => (begun ++ [(n : Int)]) ++ xs := by
 unfold goL
 rw [List.range_succ, List.flatMap_append, List.flatMap_singleton]
 congr 1
 exact List.map_congr_left fun xs _ => by rw [List.append_assoc]; rfl
theorem goL_all (r k : Nat) (begun : List Int) : goL r k begun (r + 1) = (allL r (k + 1)).map fun xs => begun ++ xs := by
 unfold goL
 rw [allL, List.map_flatMap]
 congr 1
 funext n
 rw [List.map_map]; rfl
theorem goL_len (r k : Nat) (begun : List Int) : ∀ n, (goL r k begun n).length = n * (r + 1) ^ k
 | 0 => by simp [goL]
 | n + 1 => by rw [zdb, List.length_append, goL_len r k begun n, List.length_map, qe, Nat.succ_mul]
theorem plans_c (b : Bd) (r1 : 1 <= b.room) (r2 : b.room <= 12) (hM : b.months.length <= 3) : ∀ (k : Nat) (nl : Bool) (begun : List Int), begun.length + k = b.months.length -> (k = 0 -> nl = false) ->
  Comp Tryz.prog 260 [bedA b, .sl nl (ints begun)] (.sl false (((allL b.room.toNat k).map fun xs => begun ++ xs).map lsA))
 | 0, nl, begun, hl, hn => by
   have e1 : ((b.months.map moA).length : Int) = b.months.length := by rw [List.length_map]
   have e2 : ((ints begun).length : Int) = begun.length := by rw [zm]
   obtain rfl := hn rfl
   have hr : ((allL b.room.toNat 0).map fun xs => begun ++ xs).map lsA = [.sl false (ints begun)] := by
    show [lsA (begun ++ [])] = _
    rw [List.append_nil]; rfl
   rw [hr]
   refine Comp.body (T := tab) (res := [.tmp 4]) zb [] Tryz.func260 rfl (by kernel_rfl) Tryz.ntmps260 rfl (by simp only [List.length_cons, List.length_nil]; decide) (by simp only [lowL, bedL, AV.low, lowI]; rfl) ?_; conv => whnf
   repeat' first | ((with_reducible first | refine XBr.y1 fun h => ?_ | refine XBr.n1 fun h => ?_ | refine XBr.beq (fun h => ?_) fun h => ?_) <;> conv => whnf) | (refine zh.a ?_; conv => whnf) | fail
   exact ⟨.low (by show (lowL 0 (ints begun) && true) = true; rw [lowI]; rfl)⟩
 | k + 1, nl, begun, hl, _ => by
   have e1 : ((b.months.map moA).length : Int) = b.months.length := by rw [List.length_map]
   have e2 : ((ints begun).length : Int) = begun.length := by rw [zm]
   have e3 : (ints begun).length = begun.length := zm _
   have ih := fun (n : Nat) => plans_c b r1 r2 hM k false (begun ++ [(n : Int)]) (by rw [List.length_append, List.length_singleton]; omega) (fun _ => rfl)
   have hb1 := pow_b (r := b.room.toNat) (k := k) (by omega) (by omega)
   have hb2 := pow_b (r := b.room.toNat) (k := k + 1) (by omega) (by omega)
   refine Comp.body (T := tab) (res := [.tmp 4]) zb [] Tryz.func260 rfl (by kernel_rfl) Tryz.ntmps260 rfl (by simp only [List.length_cons, List.length_nil]; decide) (by simp only [lowL, bedL, AV.low, lowI]; rfl) ?_; conv => whnf
   repeat' ((with_reducible first | refine XBr.y1 fun h => ?_ | refine XBr.n1 fun h => ?_ | refine XBr.beq (fun h => ?_) fun h => ?_) <;> conv => whnf)
   refine Walk.nilgr 5 22 rfl ?_
   refine Walk.loopGK zb [] [(1, _), (2, _), (4, _)] ⟨rfl, rfl, rfl, trivial⟩ (fun n : Nat => (n : Int) <= b.room + 1) (fun n => [(5, .gr 0 (goL b.room.toNat k begun n).length), (6, natA n)]) (fun n => [.grow 22 (goL b.room.toNat k begun n).isEmpty ((goL b.room.toNat k begun n).map lsA)]) (fun n => (b.room + 1).toNat - n) 0 (by omega) rfl ⟨rfl, rfl, trivial⟩ ?_ (fun _ _ => (show (1 : Nat) <= 1 from Nat.le_refl 1)) ?_
   ·intro n _
    refine ⟨fun z hz => ?_, fun z hz => ?_⟩
    ·rw [List.mem_singleton] at hz; subst hz; exact lss_low _
    ·simp only [List.cons_append, List.nil_append, List.mem_cons, List.not_mem_nil, or_false] at hz
     rcases hz with rfl | rfl | rfl | rfl | rfl <;> first | rfl | exact lowI _ | exact zY b
   intro n hn
   have hgl := goL_len b.room.toNat k begun n
   have hgs := zdb b.room.toNat k begun n
   have hih := ih n
   have hml : (((allL b.room.toNat k).map fun xs => (begun ++ [(n : Int)]) ++ xs).map lsA).length = (b.room.toNat + 1) ^ k := by rw [List.length_map, List.length_map, qe]
   have hmul : (n : Int) <= b.room -> n * (b.room.toNat + 1) ^ k <= 2197 := fun h => by
    have : n * (b.room.toNat + 1) ^ k <= (b.room.toNat + 1) * (b.room.toNat + 1) ^ k := Nat.mul_le_mul_right _ (by omega)
    rw [Nat.pow_succ, Nat.mul_comm] at hb2
    omega
   conv => whnf
   by_cases hlt : (n : Int) <= b.room
   ·have hmul := hmul hlt
    generalize goL b.room.toNat k begun n = L at hgl hgs
    generalize hq : (((allL b.room.toNat k).map fun xs => (begun ++ [(n : Int)]) ++ xs)) = q at hgs hih hml
    generalize (b.room.toNat + 1) ^ k = w at hgl hml hmul hb1
    generalize n * w = nw at hgl hmul
    have hql : q.length = w := by rw [<- hml, List.length_map]
    have hap : [Blk.grow 22 (L ++ q).isEmpty ((L ++ q).map lsA), Blk.dead] = [Blk.grow 22 (L.isEmpty && (q.map lsA).isEmpty) (L.map lsA ++ q.map lsA), Blk.dead] := by
     rw [List.map_append]
     congr 2
     cases L <;> cases q <;> rfl
    have hLl : (L.map lsA).length = L.length := List.length_map _
    have hfl : (ints (begun ++ [(n : Int)])).length = (ints begun).length + 1 := by rw [zm, zm, List.length_append]; rfl
    repeat' ((with_reducible first | refine XBr.y fun h => ?_ | refine XBr.n fun h => ?_ | refine XBr.dec (fun h => ?_) fun h => ?_) <;> conv => whnf)
    apply Walk.drawX zb zg [23] [2, 4, 7, 8, 9] (hsC [[.grow 22 L.isEmpty (L.map lsA)],
     [.grow 22 L.isEmpty (L.map lsA), .grow 3 false []],
     [.grow 22 L.isEmpty (L.map lsA), .grow 3 false (ints begun)],
     [.grow 22 L.isEmpty (L.map lsA), .grow 3 false (ints (begun ++ [(n : Int)]))],
     [.grow 22 L.isEmpty (L.map lsA), .dead],
     [.grow 22 (L ++ q).isEmpty ((L ++ q).map lsA), .dead]]) [_, _, _, _, _, _, _, _, _, _, _] (by kernel_rfl) rfl
    ·skip
     repeat' first | ((with_reducible first | apply Chk.go | apply ChkA.go); conv => whnf) | (refine zh.a ?_; conv => whnf) | (with_reducible first | apply XAnd.mk | exact trivial) | (exact zd.mk rfl rfl) | (exact zd.mk (by first | rfl | (simp only [List.map_append, List.length_append, List.length_map]; done) | (simp only [List.map_append, List.length_append, List.length_map]; rfl)) (by first | rfl | (simp only [List.map_append]; done) | (simp only [List.map_append]; rfl))) | ((first | ((refine za.freeze 1 (0 + (ints begun).length + 1) rfl (by rw [hfl]; omega) (.same (.gr .nil)) ?_); (refine za.ret hih ?_)) | (refine zh.mk (wideLs _) ?_)); conv => whnf) | (first | exact zd.mk rfl hap | exact zd.mk rfl hap.symm) | fail
    ·skip
     repeat' first | ((with_reducible first | apply Chk.go | apply ChkF.go | apply ChkB.go); conv => whnf) | (refine zh.a ?_; conv => whnf) | (with_reducible first | apply XAnd.mk | exact trivial) | (exact zd.mk rfl rfl) | fail
    conv => whnf
    repeat' ((with_reducible refine XInt.a ?_); conv => whnf)
    refine zp.go (n + 1) [.dead] (by omega) (by omega) ?_ ⟨rfl, rfl, rfl, ?_, rfl, trivial⟩
    ·rw [hgs]; rfl
    ·show some (AV.gr 0 (L.length + (q.map lsA).length)) = some (AV.gr 0 (goL b.room.toNat k begun (n + 1)).length)
     rw [hgs, List.length_append, List.length_map]
   ·obtain rfl : n = b.room.toNat + 1 := by omega
    have hga := goL_all b.room.toNat k begun
    have hne : (goL b.room.toNat k begun (b.room.toNat + 1)).isEmpty = false := by
     cases hg : goL b.room.toNat k begun (b.room.toNat + 1) with
     | nil =>
       rw [hg] at hgl
       have : 0 < (b.room.toNat + 1) * (b.room.toNat + 1) ^ k := Nat.mul_pos (by omega) (Nat.pow_pos (by omega))
       simp only [List.length_nil] at hgl
       omega
     | cons x l => rfl
    rw [<- hga]
    have hz := Froz.grow (P := Tryz.prog) (H := [.grow 22 (goL b.room.toNat k begun (b.room.toNat + 1)).isEmpty ((goL b.room.toNat k begun (b.room.toNat + 1)).map lsA)]) (i := 0) (n := (goL b.room.toNat k begun (b.room.toNat + 1)).length) rfl (List.length_map _) (lss_low _)
    rw [hne] at hz
    repeat' ((with_reducible first | refine XBr.y fun h => ?_ | refine XBr.n fun h => ?_ | refine XBr.dec (fun h => ?_) fun h => ?_) <;> conv => whnf)
    rw [hne]
    exact ⟨hz⟩
theorem vR (b : Bd) (r m s : Int) : Comp Tryz.prog 119 [bedA b, .int .i64 r, .int .i64 m, .int .i64 s] (.bool (decide (r < b.room /\ b.room <= 120 \/ m < b.months.length /\ (b.months.length : Int) <= 10 \/ s < b.surveys.length /\ (b.surveys.length : Int) <= 8))) := by
 have e1 : ((b.months.map moA).length : Int) = b.months.length := by rw [List.length_map]
 have e2 : ((b.surveys.map suA).length : Int) = b.surveys.length := by rw [List.length_map]
 refine Comp.body (T := tab) (res := [.tmp 8]) zb [] Tryz.func119 rfl (by kernel_rfl) Tryz.ntmps119 rfl (by simp only [List.length_cons, List.length_nil]; decide) (by simp only [lowL, bedL, AV.low]; rfl) ?_; conv => whnf
 refine Walk.norm zb [] [(1, _), (2, _), (3, _), (4, _), (8, _)] ⟨rfl, rfl, rfl, rfl, rfl, trivial⟩ ?_
 conv => whnf
 repeat' ((with_reducible first | apply XBr.tt | apply XBr.ff | refine XBr.y fun h => ?_ | refine XBr.n fun h => ?_ | refine XBr.dec (fun h => ?_) fun h => ?_) <;> conv => whnf)
 all_goals
  refine XOut.bool ?_
  rw [Bool.eq_iff_iff]
  simp only [decide_eq_true_eq, Bool.true_eq_false, Bool.false_eq_true, true_iff, false_iff, iff_true, iff_false]
  omega
end GA
end
section
namespace GA
open Go Go.RowKit Go.Proofs
theorem kr {α : Type} (F : Nat -> α) (n : Nat) : vecF (n + 1) F = vecF n F ++ [F n] := by rw [ya, ya, List.range_succ, List.map_append]; rfl
theorem y5 {n W : Nat} {F : Nat -> AV} (h : ∀ i, i < W -> (F i).low n = true) : lowL n (vecF W F) = true := by
 rw [zA]; intro x hx
 obtain ⟨i, hi, rfl⟩ := yQ.1 hx
 exact h i hi
structure NI (b : Bd) (m n : Nat) (G : Nat -> Bool) (D : Int -> Int -> Prop) : Prop where
 o : ∀ k : Nat, G k = true ↔ ∃ sp st, InC b m sp st /\ D sp st /\ grC b m n sp st - (moB b m).r = k
theorem NI.to {b : Bd} {m n : Nat} {G : Nat -> Bool} {D D' : Int -> Int -> Prop} (h : NI b m n G D) (hd : ∀ x y, InC b m x y -> (D' x y ↔ D x y)) : NI b m n G D' :=
 ⟨fun k => (h.o k).trans ⟨fun ⟨x, y, h1, h2, h3⟩ => ⟨x, y, h1, (hd x y h1).2 h2, h3⟩, fun ⟨x, y, h1, h2, h3⟩ => ⟨x, y, h1, (hd x y h1).1 h2, h3⟩⟩⟩
theorem NI.skip {b : Bd} {m n : Nat} {G : Nat -> Bool} {D D' : Int -> Int -> Prop} {sp st : Int} (h : NI b m n G D) (hd : ∀ x y, InC b m x y -> (D' x y ↔ D x y \/ (x = sp /\ y = st))) (hv : grC b m n sp st - (moB b m).r < 0) : NI b m n G D' := by
 refine ⟨fun k => (h.o k).trans ⟨fun ⟨x, y, h1, h2, h3⟩ => ⟨x, y, h1, (hd x y h1).2 (.inl h2), h3⟩, fun ⟨x, y, h1, h2, h3⟩ => ⟨x, y, h1, ?_, h3⟩⟩⟩
 rcases (hd x y h1).1 h2 with h4 | ⟨rfl, rfl⟩
 ·exact h4
 ·omega
theorem NI.put {b : Bd} {m n : Nat} {G : Nat -> Bool} {D D' : Int -> Int -> Prop} {sp st : Int} (h : NI b m n G D) (hin : InC b m sp st) (hd : ∀ x y, InC b m x y -> (D' x y ↔ D x y \/ (x = sp /\ y = st))) (hv : 0 <= grC b m n sp st - (moB b m).r) : NI b m n (updV G (grC b m n sp st - (moB b m).r).toNat true) D' := by
 refine ⟨fun k => ?_⟩
 unfold updV
 by_cases e : k = (grC b m n sp st - (moB b m).r).toNat
 ·rw [if_pos e]
  exact ⟨fun _ => ⟨sp, st, hin, (hd sp st hin).2 (.inr ⟨rfl, rfl⟩), by omega⟩, fun _ => rfl⟩
 ·rw [if_neg e]
  refine (h.o k).trans ⟨fun ⟨x, y, h1, h2, h3⟩ => ⟨x, y, h1, (hd x y h1).2 (.inl h2), h3⟩, fun ⟨x, y, h1, h2, h3⟩ => ⟨x, y, h1, ?_, h3⟩⟩
  rcases (hd x y h1).1 h2 with h4 | ⟨rfl, rfl⟩
  ·exact h4
  ·omega
def nxF (b : Bd) (m n k : Nat) : Bool := befF b m k n
theorem NI.all {b : Bd} (ok : BedOk b) {m n : Nat} (hm : m < b.months.length) {G : Nat -> Bool} {D : Int -> Int -> Prop} (h : NI b m n G D) (hd : ∀ x y, InC b m x y -> D x y) (k : Nat) : G k = nxF b m n k := by
 unfold nxF befF
 rw [Bool.eq_iff_iff, decide_eq_true_iff, h.o k, mem_lv ok hm]
 exact ⟨fun ⟨x, y, h1, h2, h3⟩ => ⟨x, y, h1, h3⟩, fun ⟨x, y, h1, h3⟩ => ⟨x, y, h1, hd x y h1, h3⟩⟩
def vX (b : Bd) (m n : Nat) : AV := .sl false (bls (b.room + 1).toNat (nxF b m n))
def nxMo (b : Bd) (m : Nat) : AV := .sl false (vecF (b.room + 1).toNat (vX b m))
def nextA (b : Bd) : AV := .sl false (vecF b.months.length (nxMo b))
theorem zaZ {k : Nat} (b : Bd) (m n : Nat) : (vX b m n).low k = true := kC _ _
theorem qf {k : Nat} (b : Bd) (m : Nat) : (nxMo b m).low k = true := y5 fun _ _ => zaZ _ _ _
theorem gi {k : Nat} (b : Bd) : (nextA b).low k = true := y5 fun _ _ => qf _ _
set_option maxHeartbeats 1000000 in
theorem zcp (b : Bd) (ok : BedOk b) : Comp Tryz.prog 117 [bedA b] (nextA b) := by
 have m1 := ok.m1
 have m2 := ok.m2
 have r1 := ok.r1
 have r2 := ok.r2
 have e1 : ((b.months.map moA).length : Int) = b.months.length := by rw [List.length_map]
 refine Comp.body (T := tab) (res := [.tmp 2]) zb [] Tryz.func117 rfl (by kernel_rfl) Tryz.ntmps117 rfl (by simp only [List.length_cons, List.length_nil]; decide) (by simp only [lowL, bedL]; rfl) ?_; conv => whnf
 skip
 refine Walk.nilgr 3 195 rfl ?_
 refine Walk.loopGK zb [] [(1, _), (2, _)] ⟨rfl, rfl, trivial⟩ (fun m : Nat => m <= b.months.length) (fun m => [(3, .gr 0 m), (4, natA m)]) (fun m => [.grow 195 (decide (m = 0)) (vecF m (nxMo b))]) (fun m => b.months.length - m) 0 (Nat.zero_le _) (by rw [ya]; rfl) ⟨rfl, rfl, trivial⟩ ?_ (fun _ _ => (show (1 : Nat) <= 1 from Nat.le_refl 1)) ?_
 ·intro m _
  refine ⟨fun z hz => ?_, fun z hz => ?_⟩
  ·rw [List.mem_singleton] at hz; subst hz; exact y5 fun _ _ => qf _ _
  ·simp only [List.cons_append, List.nil_append, List.mem_cons, List.not_mem_nil, or_false] at hz
   rcases hz with rfl | rfl | rfl | rfl <;> first | rfl | exact zY b
 intro m hm
 conv => whnf
 by_cases hlt : m < b.months.length
 ·have hmo := ok.mo' hlt
  have hgb := fun (n : Nat) (sp st : Int) (q : InC b m sp st) => gy ok hlt (n := n) q
  have hgr := fun (n : Nat) (hn : (n : Int) <= b.room) (sp st : Int) (q : InC b m sp st) => kf b (moB b m) n sp st (by omega) (by omega) hmo.1 hmo.2.1 (by omega) (by omega) (by have := q.1; omega) (by have := q.2.1; omega) (by have := q.2.2.1; omega) (by have := q.2.2.2; omega)
  change ∀ (n : Nat) (hn : (n : Int) <= b.room) (sp st : Int) (q : InC b m sp st), Comp Tryz.prog _ _ (.int .i64 (grC b m n sp st)) at hgr
  have hml : (vecF m (nxMo b)).length = m := zj _ _
  repeat' first | ((with_reducible first | refine XBr.y fun h => ?_ | refine XBr.n fun h => ?_ | refine XBr.dec (fun h => ?_) fun h => ?_) <;> conv => whnf) | (refine XIx.a ?_; conv => whnf) | fail
  refine Walk.nilgr 6 198 rfl ?_
  refine Walk.thenFreeze 6 2 (b.room + 1).toNat ?_
  refine Walk.loopGK zb [] [(1, _), (2, _), (3, _), (4, _), (5, _)] ⟨rfl, rfl, rfl, rfl, rfl, trivial⟩ (fun n : Nat => (n : Int) <= b.room + 1) (fun n => [(6, .gr 2 n), (7, natA n)]) (fun n => [.grow 195 (decide (m = 0)) (vecF m (nxMo b)), .cells (moC (moB b m)), .grow 198 (decide (n = 0)) (vecF n (vX b m))]) (fun n => (b.room + 1).toNat - n) 0 (by omega) (by rw [ya (vX b m)]; rfl) ⟨rfl, rfl, trivial⟩ ?_ (fun _ _ => (show (3 : Nat) <= 3 from Nat.le_refl 3)) ?_
  ·intro n _
   refine ⟨fun z hz => ?_, fun z hz => ?_⟩
   ·simp only [List.mem_cons, List.not_mem_nil, or_false] at hz
    rcases hz with rfl | rfl | rfl
    ·exact y5 fun _ _ => qf _ _
    ·rfl
    ·exact y5 fun _ _ => zaZ _ _ _
   ·simp only [List.cons_append, List.nil_append, List.mem_cons, List.not_mem_nil, or_false] at hz
    rcases hz with rfl | rfl | rfl | rfl | rfl | rfl | rfl <;> first | rfl | exact zY b
  intro n hn
  have hnl : (vecF n (vX b m)).length = n := zj _ _
  conv => whnf
  by_cases hltn : (n : Int) <= b.room
  ·skip
   repeat' first | ((with_reducible first | refine XBr.y fun h => ?_ | refine XBr.n fun h => ?_ | refine XBr.dec (fun h => ?_) fun h => ?_ | refine XInt.a ?_) <;> conv => whnf) | (refine zh.a ?_; conv => whnf) | fail
   refine Walk.thenFreeze 8 3 (b.room + 1).toNat ?_
   refine Walk.loopK zb [] [(1, _), (2, _), (3, _), (4, _), (5, _), (6, _), (7, _), (8, _)] ⟨rfl, rfl, rfl, rfl, rfl, rfl, rfl, rfl, trivial⟩ (fun q : Int × (Nat -> Bool) => (moB b m).pl <= q.1 /\ q.1 <= (moB b m).ph + 1 /\ NI b m n q.2 fun x _ => x < q.1) (fun q => [(9, .int .i64 q.1)]) (fun q => [.grow 195 (decide (m = 0)) (vecF m (nxMo b)), .cells (moC (moB b m)), .grow 198 (decide (n = 0)) (vecF n (vX b m)), .grow 4 false (bls (b.room + 1).toNat q.2)]) (fun q => ((moB b m).ph + 1 - q.1).toNat) ((moB b m).pl, fun _ => false) ⟨Int.le_refl _, by dsimp only; omega, ⟨fun k => ⟨fun h => (by cases h), fun ⟨x, y, h1, h2, _⟩ => absurd h1.1 (by dsimp only at h2; omega)⟩⟩⟩ ?_ ⟨rfl, trivial⟩ ?_
   ·show [_, _, _, Blk.grow _ false (bls _ _)] = [_, _, _, Blk.grow _ false (List.replicate _ _)]
    rw [bls0]
   rintro ⟨sp, G⟩ ⟨hs1, hs2, hG⟩
   dsimp only at hs1 hs2 hG ⊢
   conv => whnf
   by_cases hlts : sp <= (moB b m).ph
   ·skip
    repeat' ((with_reducible first | refine XBr.y fun h => ?_ | refine XBr.n fun h => ?_ | refine XBr.dec (fun h => ?_) fun h => ?_) <;> conv => whnf)
    refine Walk.loopK zb [] [(1, _), (2, _), (3, _), (4, _), (5, _), (6, _), (7, _), (8, _), (9, _)] ⟨rfl, rfl, rfl, rfl, rfl, rfl, rfl, rfl, rfl, trivial⟩ (fun q : Int × (Nat -> Bool) => (moB b m).tl <= q.1 /\ q.1 <= (moB b m).th + 1 /\ NI b m n q.2 fun x y => x < sp \/ (x = sp /\ y < q.1)) (fun q => [(10, .int .i64 q.1)]) (fun q => [.grow 195 (decide (m = 0)) (vecF m (nxMo b)), .cells (moC (moB b m)), .grow 198 (decide (n = 0)) (vecF n (vX b m)), .grow 4 false (bls (b.room + 1).toNat q.2)]) (fun q => ((moB b m).th + 1 - q.1).toNat) ((moB b m).tl, G) ⟨Int.le_refl _, by dsimp only; omega, hG.to fun x y h => by have := h.2.2.1; dsimp only; omega⟩ rfl ⟨rfl, trivial⟩ ?_
    rintro ⟨st, G⟩ ⟨ht1, ht2, hG⟩
    dsimp only at ht1 ht2 hG ⊢
    conv => whnf
    by_cases hltt : st <= (moB b m).th
    ·have hin : InC b m sp st := ⟨hs1, hlts, ht1, hltt⟩
     have hg := hgr n hltn sp st hin
     have hb := hgb n sp st hin
     have hput := hG.put (D' := fun x y => x < sp \/ (x = sp /\ y < st + 1)) hin (fun x y _ => by omega)
     have hskip := hG.skip (D' := fun x y => x < sp \/ (x = sp /\ y < st + 1)) (sp := sp) (st := st) (fun x y _ => by omega)
     generalize grC b m n sp st = v at hg hb hput hskip
     repeat' first | ((with_reducible first | refine XBr.y fun h => ?_ | refine XBr.n fun h => ?_ | refine XBr.dec (fun h => ?_) fun h => ?_ | refine XInt.a ?_ | apply Chk.go | apply ChkA.go | apply ChkF.go | apply ChkB.go | apply zw.mk) <;> conv => whnf) | (with_reducible first | apply XAnd.mk | exact trivial) | (exact zd.mk rfl rfl) | (apply Walk.drawN (id := 17) zb zg [] [] (hsU _) [_, _, _, _, _, _, _, _, _, _, _] (by kernel_rfl) rfl) | ((first | refine za.ret hg ?_ | refine zh.mk ⟨z9 _ _, rfl, by omega, by omega⟩ ?_ | refine XPut.bls (v - (moB b m).r).toNat rfl rfl (by omega) ?_); conv => whnf) | fail
     ·rename_i h
      exact zk.go (st + 1, _) ⟨by dsimp only; omega, by dsimp only; omega, hput h⟩ (by dsimp only; omega) rfl ⟨rfl, rfl, rfl, rfl, rfl, rfl, rfl, rfl, rfl, rfl, trivial⟩
     ·rename_i h
      exact zk.go (st + 1, G) ⟨by dsimp only; omega, by dsimp only; omega, hskip (Int.not_le.1 h)⟩ (by dsimp only; omega) rfl ⟨rfl, rfl, rfl, rfl, rfl, rfl, rfl, rfl, rfl, rfl, trivial⟩
    ·skip
     repeat' ((with_reducible first | refine XBr.y fun h => ?_ | refine XBr.n fun h => ?_ | refine XBr.dec (fun h => ?_) fun h => ?_ | refine XInt.a ?_) <;> conv => whnf)
     exact zk.go (sp + 1, G) ⟨by dsimp only; omega, by dsimp only; omega, hG.to fun x y h => by have := h.2.2.2; dsimp only; omega⟩ (by dsimp only; omega) rfl ⟨rfl, rfl, rfl, rfl, rfl, rfl, rfl, rfl, rfl, trivial⟩
   ·have hrow : bls (b.room + 1).toNat G = bls (b.room + 1).toNat (nxF b m n) := congrArg (List.map AV.bool) (zy fun k _ => hG.all ok hlt (fun x y h => by have := h.2.1; omega) k)
    rw [hrow]
    repeat' first | ((with_reducible first | refine XBr.y fun h => ?_ | refine XBr.n fun h => ?_ | refine XBr.dec (fun h => ?_) fun h => ?_ | refine XInt.a ?_) <;> conv => whnf) | ((first | refine zh.a ?_ | refine XFrz.go rfl rfl (z9 _ _) ?_); conv => whnf) | fail
    refine zp.go (n + 1) [.dead] (by omega) (by omega) ?_ ⟨rfl, rfl, rfl, rfl, rfl, rfl, rfl, trivial⟩
    rw [kr (vX b m), show decide (n + 1 = 0) = (decide (n = 0) && false) by simp]; rfl
  ·obtain rfl : n = (b.room + 1).toNat := by omega
   repeat' first | ((with_reducible first | refine XBr.y fun h => ?_ | refine XBr.n fun h => ?_ | refine XBr.dec (fun h => ?_) fun h => ?_ | refine XInt.a ?_) <;> conv => whnf) | ((first | refine zh.a ?_ | refine XFrz.go rfl rfl (zj _ _) ?_); conv => whnf) | fail
   refine zp.go (m + 1) [.cells (moC (moB b m)), .dead] (by omega) (by omega) ?_ ⟨rfl, rfl, rfl, rfl, trivial⟩
   rw [kr (nxMo b), show decide (m + 1 = 0) = (decide (m = 0) && false) by simp]
   have e4 : decide ((b.room + 1).toNat = 0) = false := decide_eq_false (by omega)
   rw [e4]; rfl
 ·obtain rfl : m = b.months.length := by omega
  repeat' ((with_reducible first | refine XBr.y fun h => ?_ | refine XBr.n fun h => ?_ | refine XBr.dec (fun h => ?_) fun h => ?_) <;> conv => whnf)
  have e3 : decide (b.months.length = 0) = false := decide_eq_false (by omega)
  have hz := Froz.grow (P := Tryz.prog) (H := [.grow 195 (decide (b.months.length = 0)) (vecF b.months.length (nxMo b))]) (i := 0) (n := b.months.length) rfl (zj _ _) (y5 fun _ _ => qf _ _)
  rw [e3] at hz ⊢
  exact ⟨hz⟩
end GA
end
