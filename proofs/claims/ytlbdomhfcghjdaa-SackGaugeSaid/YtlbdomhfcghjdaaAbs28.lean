/- Rounds over what an iterator yields; memory by changes. -/
import Derived.Test.YtlbdomhfcghjdaaAbs27
namespace GA
open Go Go.RowKit
set_option linter.unusedVariables false

def hsV (H : List Blk) (l : List (List Blk → List Blk)) (fl : List Bool) : List Blk := match lget l (fl.countP id) with | some f => f H | none => H
/-- Memory, by which operations have changed it. -/
def hsW (H : List Blk) (l : List (List Blk → List Blk)) (fl : List Bool) : List Blk := match lget l (bin fl) with | some f => f H | none => H
def look (n : Int) : List (Int × Nat) → Option Nat
  | [] => none
  | (k, u) :: l => if k = n then some u else look n l
def putm (n : Int) (v : Nat) : List (Int × Nat) → List (Int × Nat)
  | [] => [(n, v)]
  | (k, u) :: l => if k = n then (k, v) :: l else (k, u) :: putm n v l
def esA (m : List (Int × Nat)) : List (Int × AV) := m.map fun p => (p.1, .int .i64 p.2)
theorem mget_esA (n : Int) : ∀ m : List (Int × Nat), mget n (esA m) = (look n m).map fun v : Nat => AV.int .i64 v
  | [] => rfl
  | (k, u) :: l => by
    have := mget_esA n l
    simp only [esA, List.map_cons, mget, look] at this ⊢
    split
    · rfl
    · exact this
theorem mput_esA (n : Int) (v : Nat) : ∀ m : List (Int × Nat), mput n (.int .i64 v) (esA m) = esA (putm n v m)
  | [] => rfl
  | (k, u) :: l => by
    have := mput_esA n v l
    simp only [esA, List.map_cons, mput, putm] at this ⊢
    split
    · rfl
    · simp only [List.map_cons, this]
theorem look_put (n k : Int) (v : Nat) : ∀ m : List (Int × Nat), look k (putm n v m) = if k = n then some v else look k m
  | [] => by simp only [putm, look]; split <;> split <;> simp_all
  | (j, u) :: l => by
    have := look_put n k v l
    simp only [putm]
    split
    · rename_i e
      subst e
      simp only [look]
      split
      · rename_i e; rw [if_pos e.symm]
      · rename_i e; rw [if_neg (fun h => e h.symm)]
    · rename_i e
      simp only [look]
      split
      · rename_i e2; subst e2; rw [if_neg e]
      · exact this
theorem low_esA {n : Nat} (m : List (Int × Nat)) : (Blk.map (esA m)).low n = true := by
  simp only [Blk.low, esA, List.map_map]
  exact lowL_iff.2 fun x hx => by obtain ⟨p, _, rfl⟩ := List.mem_map.1 hx; rfl
theorem ren_esA (f : Nat → Nat) (m : List (Int × Nat)) : (Blk.map (esA m)).ren f = .map (esA m) := Blk.ren_low (n := 0) (fun i hi => by omega) (low_esA m)
end GA
