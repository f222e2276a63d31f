/- Arrays and structs of numbers, compared. -/
import Derived.Test.YtlbdomhfcghjdaaAbsM
import Derived.Laws.StructEq
import Derived.ChangeKeysEq
namespace GA
open Go Go.RowKit
set_option linter.unusedVariables false

def isIntT (P : Program) (t : TypeId) : Bool := match P.underlying t with | some (.int _) => true | _ => false
/-- Of an array or a struct of numbers alone: how many. -/
def intsT (P : Program) (t : TypeId) : Option Nat :=
  if P.eqGuardType P.depth t then none else
  match P.underlying t with
  | some (.array n e) => if isIntT P e && (P.info? e).isSome && P.cellsOf e == 1 then some n else none
  | some (.struct fs) => if !P.stoodInHeld t && fs.toList.zipIdx.all (fun x => x.1.name != "_" && x.1.offset == x.2 && isIntT P x.1.type) then some fs.size else none
  | _ => none

def opEqA (P : Program) (t : TypeId) (cs ds : List AV) (k : Bool → Prop) : Prop :=
  ∃ as bs : List Int, cs = as.map (.int .i64) ∧ ds = bs.map (.int .i64) ∧ as.length = bs.length ∧ intsT P t = some as.length ∧ k (as == bs)
def opBinE (P : Program) (t : TypeId) (op : BinOp) (x y : AV) (k : AV → Prop) : Prop :=
  match op, x, y with
  | .eql, .agg cs, .agg ds => opEqA P t cs ds fun b => k (.bool b)
  | .neq, .agg cs, .agg ds => opEqA P t cs ds fun b => k (.bool !b)
  | _, _, _ => opBin P t op x y k

section
variable {P : Program} {E : Env} {h : Nat → Option Obj} {β : Nat → Value} {H : List Blk} {w : World}

theorem isIntT_spec {t : TypeId} (e : isIntT P t = true) : ∃ q, P.underlying t = some (.int q) ∧ P.plainKey t = true := by
  unfold isIntT at e; split at e
  · rename_i q hq; exact ⟨q, hq, by simp [Program.plainKey, hq]⟩
  · cases e

theorem eqItems_ints {d : Nat} {e : TypeId} (he : isIntT P e = true) {xs ys : Array Value} : ∀ (n i : Nat) (as bs : List Int), as.length = n → bs.length = n →
    (∀ (j : Nat) a, as[j]? = some a → xs[i + j]? = some (.int .i64 a)) → (∀ (j : Nat) a, bs[j]? = some a → ys[i + j]? = some (.int .i64 a)) →
    (Op.eqItems (d + 1) e 1 xs ys (List.range' i n)).run P w = .ok (as == bs) w
  | 0, i, [], [], _, _, _, _ => by simp [Op.eqItems]
  | n + 1, i, a :: as, b :: bs, h1, h2, h3, h4 => by
    obtain ⟨q, hq, hp⟩ := isIntT_spec he
    have g1 := run_part_plain w hp (h3 0 a rfl)
    have g2 := run_part_plain w hp (h4 0 b rfl)
    rw [Nat.add_zero] at g1 g2
    have ih := eqItems_ints (d := d) he n (i + 1) as bs (by simpa using h1) (by simpa using h2) (fun j x e => by have := h3 (j + 1) x (by simpa using e); rwa [show i + (j + 1) = i + 1 + j by omega] at this) (fun j x e => by have := h4 (j + 1) x (by simpa using e); rwa [show i + (j + 1) = i + 1 + j by omega] at this)
    simp only [List.range'_succ, Op.eqItems, Sem.run_bind, Nat.mul_one, g1, g2, Result.andThen_ok, run_equalIn_int w d e .i64 q a b hq]
    by_cases hab : a = b
    · subst hab; simp [ih]
    · have : (a == b) = false := by simpa using hab
      have h2 : (a :: as == b :: bs) = false := by simp [hab]
      rw [this, h2]; simp
  | 0, _, _ :: _, _, h, _, _, _ => by simp at h
  | 0, _, [], _ :: _, _, h, _, _ => by simp at h
  | n + 1, _, [], _, h, _, _, _ => by simp at h
  | n + 1, _, _ :: _, [], _, h, _, _ => by simp at h

theorem eqFields_ints {d : Nat} {xs ys : Array Value} : ∀ (fs : List Field) (i : Nat) (as bs : List Int), fs.length = as.length → bs.length = as.length → (∀ x ∈ fs.zipIdx i, x.1.name ≠ "_" ∧ x.1.offset = x.2 ∧ isIntT P x.1.type = true) →
    (∀ (j : Nat) a, as[j]? = some a → xs[i + j]? = some (.int .i64 a)) → (∀ (j : Nat) a, bs[j]? = some a → ys[i + j]? = some (.int .i64 a)) →
    (Op.eqFields (d + 1) xs ys fs).run P w = .ok (as == bs) w
  | [], i, [], [], _, _, _, _, _ => by simp [Op.eqFields]
  | f :: fs, i, a :: as, b :: bs, h1, h2, hf, h3, h4 => by
    obtain ⟨hn, ho, hi⟩ := hf (f, i) (by simp)
    simp only at hn ho hi
    obtain ⟨q, hq, hp⟩ := isIntT_spec hi
    have g1 := run_part_plain w hp (h3 0 a rfl)
    have g2 := run_part_plain w hp (h4 0 b rfl)
    rw [Nat.add_zero] at g1 g2
    have ih := eqFields_ints (d := d) fs (i + 1) as bs (by simpa using h1) (by simpa using h2) (fun x hx => hf x (by rw [List.zipIdx_cons]; exact List.mem_cons_of_mem _ hx)) (fun j x e => by have := h3 (j + 1) x (by simpa using e); rwa [show i + (j + 1) = i + 1 + j by omega] at this) (fun j x e => by have := h4 (j + 1) x (by simpa using e); rwa [show i + (j + 1) = i + 1 + j by omega] at this)
    simp only [Op.eqFields, hn, ne_eq, not_false_eq_true, if_true, Sem.run_bind, ho, g1, g2, Result.andThen_ok, run_equalIn_int w d f.type .i64 q a b hq]
    by_cases hab : a = b
    · subst hab; simp [ih]
    · have : (a == b) = false := by simpa using hab
      have h2 : (a :: as == b :: bs) = false := by simp [hab]
      rw [this, h2]; simp
  | [], _, _ :: _, _, h, _, _, _, _ => by simp at h
  | [], _, [], _ :: _, _, h, _, _, _ => by simp at h
  | _ :: _, _, [], _, h, _, _, _, _ => by simp at h
  | _ :: _, _, _ :: _, [], _, h, _, _, _ => by simp at h

theorem rep_ints {as : List Int} {v : Value} (r : Rep P h β H (.agg (as.map (.int .i64))) v) : ∃ xs, v = .agg xs ∧ ∀ (j : Nat) a, as[j]? = some a → xs[j]? = some (.int .i64 a) := by
  cases r with
  | agg us hs hone hc hr =>
    refine ⟨_, rfl, fun j a e => ?_⟩
    have e' : (as.map (AV.int .i64))[j]? = some (.int .i64 a) := by rw [List.getElem?_map, e]; rfl
    rw [hc j _ e', rep_int (hr j _ e')]

theorem opEqA_run (s : SR P E h β H w) {t : TypeId} {cs ds : List AV} {u v : Value} {k : Bool → Prop} (hx : Rep P h β H (.agg cs) u) (hy : Rep P h β H (.agg ds) v) (hk : opEqA P t cs ds k) :
    ∃ b, k b ∧ (∀ op ox oy, (eqGuard op t ox oy u v).run P w = .ok () w) ∧ (binOp .eql t u v).run P w = .ok (.bool b) w ∧ (binOp .neq t u v).run P w = .ok (.bool !b) w := by
  obtain ⟨as, bs, rfl, rfl, hl, hT, hk⟩ := hk
  obtain ⟨xs, rfl, hxs⟩ := rep_ints hx
  obtain ⟨ys, rfl, hys⟩ := rep_ints hy
  have hg : P.eqGuardType P.depth t = false ∧ (Op.equalIn 10000 t (.agg xs) (.agg ys)).run P w = .ok (as == bs) w := by
    unfold intsT at hT
    split at hT
    · cases hT
    · rename_i hg
      refine ⟨by simpa using hg, ?_⟩
      split at hT
      · rename_i n e hu
        split at hT
        · rename_i hh
          simp only [Bool.and_eq_true, beq_iff_eq] at hh
          obtain ⟨⟨h1, h2⟩, h3⟩ := hh
          cases hT
          cases hi : P.info? e with
          | none => rw [hi] at h2; cases h2
          | some i =>
            rw [run_equalIn_array w 9999 xs ys hu hi, h3, List.range_eq_range']
            exact eqItems_ints (d := 9998) h1 as.length 0 as bs rfl hl.symm (fun j a e => by rw [Nat.zero_add]; exact hxs j a e) (fun j a e => by rw [Nat.zero_add]; exact hys j a e)
        · cases hT
      · rename_i fs hu
        split at hT
        · rename_i hh
          simp only [Bool.and_eq_true, Bool.not_eq_true', List.all_eq_true, bne_iff_ne, beq_iff_eq] at hh
          have hfo : P.fieldsOf t = fs := by simp [Program.fieldsOf, hu]
          have hfs : fs.size = as.length := by simpa using hT
          rw [run_equalIn_struct w 9999 t xs ys (by rw [hfo]; exact hu) hh.1, hfo]
          exact eqFields_ints (d := 9998) fs.toList 0 as bs (by simpa using hfs) hl.symm (fun x hx => by obtain ⟨⟨a, b⟩, c⟩ := hh.2 x hx; exact ⟨a, b, c⟩) (fun j a e => by rw [Nat.zero_add]; exact hxs j a e) (fun j a e => by rw [Nat.zero_add]; exact hys j a e)
        · cases hT
      · cases hT
  refine ⟨_, hk, fun op ox oy => run_eqGuard_agg w op t ox oy xs ys hg.1, ?_, ?_⟩
  · rw [run_eql_struct, hg.2]; rfl
  · rw [run_neq_struct, hg.2]; rfl

theorem opBinE_sound (s : SR P E h β H w) {t : TypeId} {op : BinOp} {x y : AV} {u v : Value} (hx : Rep P h β H x u) (hy : Rep P h β H y v) {k : AV → Prop} (hk : opBinE P t op x y k) (ox oy : Operand) :
    Yields P E h β H (do eqGuard op t ox oy u v; binOp op t u v) w (fun r H' => H' = H ∧ k r) := by
  unfold opBinE at hk
  split at hk
  · obtain ⟨b, h1, h2, h3, h4⟩ := opEqA_run s hx hy hk
    refine Yields.pure s (r := .bool b) ?_ (.bool _) ⟨rfl, h1⟩
    rw [Sem.run_bind, h2]; exact h3
  · obtain ⟨b, h1, h2, h3, h4⟩ := opEqA_run s hx hy hk
    refine Yields.pure s (r := .bool !b) ?_ (.bool _) ⟨rfl, h1⟩
    rw [Sem.run_bind, h2]; exact h4
  · exact opBin_sound s hx hy hk ox oy
end
end GA
