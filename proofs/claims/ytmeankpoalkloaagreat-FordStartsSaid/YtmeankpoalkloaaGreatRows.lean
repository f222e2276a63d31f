/-
  No cell of these rows narrows 'for every input' (looked for: loops, veiled, ifaces, maps, wideKeys, modest, calm, conditions, laid).
  DERIVED. THE GIVEN ROWS OF THIS SEAT. 6 by the template 'for every input the law returns true; each argument reads behind the call as it read before'; 0 by the template 'total and deterministic' (their statements: YtmeankpoalkloaaGreatTotals.lean).
  GIVEN WITH THE SEED: the statements are not yours to turn. If you find one false, say at which input.
  Laid BY PROGRAM, IN A SANDBOX (cutbox-rows.mjs): the forced cells as the released guide's own fill.sh prints them over the translation a49f3ea8f717457a… (all of the seat's roots in one cut). By AI agents, Wed Nov 11 2026. No macro, syntax, notation, axiom, sorry.
-/
import Derived.Test.YtmeankpoalkloaaGreatChecked
import GoSem.Claim
import GoSem.ClaimJoined
import GoSem.ClaimMapViews
import Derived.JoinedTies
import Derived.KernelRfl
namespace Go.Proofs.YtmeankpoalkloaaGreat
/- THE CELL 'sum', in the pinned program and in every row, IS THE sha256 OF THE DUMP (.gsa) THAT YtmeankpoalkloaaGreatProg.lean LOADS. Nothing in Lean hashes anything: it is a label: what it is worth is what the hold of that sum in a sandbox is worth. -/
noncomputable def Tryz.pinned : Pinned := { name := "ytmeankpoalkloaagreat", sum := "a49f3ea8f717457a5b372671726e01ee815931827531ed49b9cfc3e7894f97fc", checked := Tryz.checked }
namespace Rows
def none {H : Type} : Left H := { results := [], args := [] }

/-- 'laurellaw02.FordSteps': WHATEVER THE INPUT: true; the input reads as it did. -/
def fordStepsSpec : ChangeSpec := { name := "fordSteps", fn := fun _ => fun
  | [d1, d2, d3, d4, d5] => { results := [.lit (.bool true)], args := [d1, d2, d3, d4, d5] }
  | _ => none }
def fordStepsRow : OpenClaim := { program := "ytmeankpoalkloaagreat", sum := "a49f3ea8f717457a5b372671726e01ee815931827531ed49b9cfc3e7894f97fc", func := "laurel/laurellaw02.FordSteps", spec := "fordSteps", unfollowed := true, recurses := true, apart := false }
def FordStepsSaid : Prop := fordStepsRow.holds Tryz.pinned (OpenSpec.ofChange fordStepsSpec)

/-- ITS FALSE NEIGHBOUR: 'it returns false'. Refute it at one input. -/
def fordStepsWrong : ChangeSpec := { name := "fordSteps", fn := fun _ => fun
  | [d1, d2, d3, d4, d5] => { results := [.lit (.bool false)], args := [d1, d2, d3, d4, d5] }
  | _ => none }
def FordStepsWrongFalsely : Prop := fordStepsRow.holds Tryz.pinned (OpenSpec.ofChange fordStepsWrong)

/-- 'laurellaw02.FordTables': WHATEVER THE INPUT: true; the input reads as it did. -/
def fordTablesSpec : ChangeSpec := { name := "fordTables", fn := fun _ => fun
  | [d1, d2] => { results := [.lit (.bool true)], args := [d1, d2] }
  | _ => none }
def fordTablesRow : OpenClaim := { program := "ytmeankpoalkloaagreat", sum := "a49f3ea8f717457a5b372671726e01ee815931827531ed49b9cfc3e7894f97fc", func := "laurel/laurellaw02.FordTables", spec := "fordTables", unfollowed := true, recurses := true, apart := false }
def FordTablesSaid : Prop := fordTablesRow.holds Tryz.pinned (OpenSpec.ofChange fordTablesSpec)

/-- ITS FALSE NEIGHBOUR: 'it returns false'. Refute it at one input. -/
def fordTablesWrong : ChangeSpec := { name := "fordTables", fn := fun _ => fun
  | [d1, d2] => { results := [.lit (.bool false)], args := [d1, d2] }
  | _ => none }
def FordTablesWrongFalsely : Prop := fordTablesRow.holds Tryz.pinned (OpenSpec.ofChange fordTablesWrong)

/-- 'laurellaw02.FordWorth': WHATEVER THE INPUT: true; the input reads as it did. -/
def fordWorthSpec : ChangeSpec := { name := "fordWorth", fn := fun _ => fun
  | [d1, d2] => { results := [.lit (.bool true)], args := [d1, d2] }
  | _ => none }
def fordWorthRow : OpenClaim := { program := "ytmeankpoalkloaagreat", sum := "a49f3ea8f717457a5b372671726e01ee815931827531ed49b9cfc3e7894f97fc", func := "laurel/laurellaw02.FordWorth", spec := "fordWorth", unfollowed := true, recurses := true, apart := false }
def FordWorthSaid : Prop := fordWorthRow.holds Tryz.pinned (OpenSpec.ofChange fordWorthSpec)

/-- ITS FALSE NEIGHBOUR: 'it returns false'. Refute it at one input. -/
def fordWorthWrong : ChangeSpec := { name := "fordWorth", fn := fun _ => fun
  | [d1, d2] => { results := [.lit (.bool false)], args := [d1, d2] }
  | _ => none }
def FordWorthWrongFalsely : Prop := fordWorthRow.holds Tryz.pinned (OpenSpec.ofChange fordWorthWrong)

/-- 'laurellaw02.FordStarts': WHATEVER THE INPUT: true; the input reads as it did. -/
def fordStartsSpec : ChangeSpec := { name := "fordStarts", fn := fun _ => fun
  | [d1, d2, d3] => { results := [.lit (.bool true)], args := [d1, d2, d3] }
  | _ => none }
def fordStartsRow : OpenClaim := { program := "ytmeankpoalkloaagreat", sum := "a49f3ea8f717457a5b372671726e01ee815931827531ed49b9cfc3e7894f97fc", func := "laurel/laurellaw02.FordStarts", spec := "fordStarts", unfollowed := true, recurses := true, apart := false }
def FordStartsSaid : Prop := fordStartsRow.holds Tryz.pinned (OpenSpec.ofChange fordStartsSpec)

/-- ITS FALSE NEIGHBOUR: 'it returns false'. Refute it at one input. -/
def fordStartsWrong : ChangeSpec := { name := "fordStarts", fn := fun _ => fun
  | [d1, d2, d3] => { results := [.lit (.bool false)], args := [d1, d2, d3] }
  | _ => none }
def FordStartsWrongFalsely : Prop := fordStartsRow.holds Tryz.pinned (OpenSpec.ofChange fordStartsWrong)

/-- 'laurellaw02.FordSmall': WHATEVER THE INPUT: true; the input reads as it did. -/
def fordSmallSpec : ChangeSpec := { name := "fordSmall", fn := fun _ => fun
  | [] => { results := [.lit (.bool true)], args := [] }
  | _ => none }
def fordSmallRow : OpenClaim := { program := "ytmeankpoalkloaagreat", sum := "a49f3ea8f717457a5b372671726e01ee815931827531ed49b9cfc3e7894f97fc", func := "laurel/laurellaw02.FordSmall", spec := "fordSmall", unfollowed := true, recurses := true, apart := false }
def FordSmallSaid : Prop := fordSmallRow.holds Tryz.pinned (OpenSpec.ofChange fordSmallSpec)

/-- ITS FALSE NEIGHBOUR: 'it returns false'. Refute it at one input. -/
def fordSmallWrong : ChangeSpec := { name := "fordSmall", fn := fun _ => fun
  | [] => { results := [.lit (.bool false)], args := [] }
  | _ => none }
def FordSmallWrongFalsely : Prop := fordSmallRow.holds Tryz.pinned (OpenSpec.ofChange fordSmallWrong)

/-- 'laurellaw04.BedWorked': WHATEVER THE INPUT: true; the input reads as it did. -/
def bedWorkedSpec : ChangeSpec := { name := "bedWorked", fn := fun _ => fun
  | [d1, d2, d3] => { results := [.lit (.bool true)], args := [d1, d2, d3] }
  | _ => none }
def bedWorkedRow : OpenClaim := { program := "ytmeankpoalkloaagreat", sum := "a49f3ea8f717457a5b372671726e01ee815931827531ed49b9cfc3e7894f97fc", func := "laurel/laurellaw04.BedWorked", spec := "bedWorked", inPlace := ["slices.overlaps[int]"], unfollowed := true, recurses := true, apart := false }
def BedWorkedSaid : Prop := bedWorkedRow.holds Tryz.pinned (OpenSpec.ofChange bedWorkedSpec)

/-- ITS FALSE NEIGHBOUR: 'it returns false'. Refute it at one input. -/
def bedWorkedWrong : ChangeSpec := { name := "bedWorked", fn := fun _ => fun
  | [d1, d2, d3] => { results := [.lit (.bool false)], args := [d1, d2, d3] }
  | _ => none }
def BedWorkedWrongFalsely : Prop := bedWorkedRow.holds Tryz.pinned (OpenSpec.ofChange bedWorkedWrong)

/- THE SECOND FORM. 'bulk': how many values and letters a reading holds, each counted each time it is reached (what is shared counts as often as it is met; a slice's spare places count too). A statement '..UptoSaid' is the law's where the arguments, and the package variables that the reading takes, are together of bulk at most 1048576: NARROWER than '..Said'. Prove '..Said' where nothing that the law and all that it calls make is longer than what came in: it says more and counts as full. Else prove '..UptoSaid'. A law counts once. -/
mutual
def uptoBulk {H : Type} : DataW H → Nat
  | .lit (.string bytes) => bytes.length + 1
  | .lit _ => 1
  | .nil => 1
  | .ptr d => uptoBulk d + 1
  | .slice elems spare => uptoBulkAll elems + uptoBulkAll spare + 1
  | .agg parts => uptoBulkAll parts + 1
  | .iface _ d => uptoBulk d + 1
  | .map entries => uptoBulkEntries entries + 1
  | .held _ => 1
def uptoBulkAll {H : Type} : List (DataW H) → Nat
  | [] => 0
  | d :: r => uptoBulk d + uptoBulkAll r
def uptoBulkEntries {H : Type} : List (Lit × DataW H) → Nat
  | [] => 0
  | x :: r => uptoBulkEntry x + uptoBulkEntries r
def uptoBulkEntry {H : Type} : Lit × DataW H → Nat
  | (.string bytes, d) => bytes.length + uptoBulk d + 1
  | (_, d) => uptoBulk d + 1
 end
def uptoSmall : (H : Type) → List (DataW H) → Bool := fun _ ds => decide (uptoBulkAll ds ≤ 1048576)
def OpenSpec.upto (s : _root_.Go.ChangeSpec) : _root_.Go.OpenSpec := { _root_.Go.OpenSpec.ofChange s with cond := some uptoSmall }

/-- 'laurellaw02.FordSteps', WHERE WHAT IT READS IS OF BULK AT MOST 1048576: true; the input reads as it did. -/
def fordStepsUptoRow : OpenClaim := { program := "ytmeankpoalkloaagreat", sum := "a49f3ea8f717457a5b372671726e01ee815931827531ed49b9cfc3e7894f97fc", func := "laurel/laurellaw02.FordSteps", spec := "fordSteps", unfollowed := true, recurses := true, apart := false, narrowed := true }
def FordStepsUptoSaid : Prop := fordStepsUptoRow.holds Tryz.pinned (OpenSpec.upto fordStepsSpec)

/-- 'laurellaw02.FordTables', WHERE WHAT IT READS IS OF BULK AT MOST 1048576: true; the input reads as it did. -/
def fordTablesUptoRow : OpenClaim := { program := "ytmeankpoalkloaagreat", sum := "a49f3ea8f717457a5b372671726e01ee815931827531ed49b9cfc3e7894f97fc", func := "laurel/laurellaw02.FordTables", spec := "fordTables", unfollowed := true, recurses := true, apart := false, narrowed := true }
def FordTablesUptoSaid : Prop := fordTablesUptoRow.holds Tryz.pinned (OpenSpec.upto fordTablesSpec)

/-- 'laurellaw02.FordWorth', WHERE WHAT IT READS IS OF BULK AT MOST 1048576: true; the input reads as it did. -/
def fordWorthUptoRow : OpenClaim := { program := "ytmeankpoalkloaagreat", sum := "a49f3ea8f717457a5b372671726e01ee815931827531ed49b9cfc3e7894f97fc", func := "laurel/laurellaw02.FordWorth", spec := "fordWorth", unfollowed := true, recurses := true, apart := false, narrowed := true }
def FordWorthUptoSaid : Prop := fordWorthUptoRow.holds Tryz.pinned (OpenSpec.upto fordWorthSpec)

/-- 'laurellaw02.FordStarts', WHERE WHAT IT READS IS OF BULK AT MOST 1048576: true; the input reads as it did. -/
def fordStartsUptoRow : OpenClaim := { program := "ytmeankpoalkloaagreat", sum := "a49f3ea8f717457a5b372671726e01ee815931827531ed49b9cfc3e7894f97fc", func := "laurel/laurellaw02.FordStarts", spec := "fordStarts", unfollowed := true, recurses := true, apart := false, narrowed := true }
def FordStartsUptoSaid : Prop := fordStartsUptoRow.holds Tryz.pinned (OpenSpec.upto fordStartsSpec)

/-- 'laurellaw02.FordSmall', WHERE WHAT IT READS IS OF BULK AT MOST 1048576: true; the input reads as it did. -/
def fordSmallUptoRow : OpenClaim := { program := "ytmeankpoalkloaagreat", sum := "a49f3ea8f717457a5b372671726e01ee815931827531ed49b9cfc3e7894f97fc", func := "laurel/laurellaw02.FordSmall", spec := "fordSmall", unfollowed := true, recurses := true, apart := false, narrowed := true }
def FordSmallUptoSaid : Prop := fordSmallUptoRow.holds Tryz.pinned (OpenSpec.upto fordSmallSpec)

/-- 'laurellaw04.BedWorked', WHERE WHAT IT READS IS OF BULK AT MOST 1048576: true; the input reads as it did. -/
def bedWorkedUptoRow : OpenClaim := { program := "ytmeankpoalkloaagreat", sum := "a49f3ea8f717457a5b372671726e01ee815931827531ed49b9cfc3e7894f97fc", func := "laurel/laurellaw04.BedWorked", spec := "bedWorked", inPlace := ["slices.overlaps[int]"], unfollowed := true, recurses := true, apart := false, narrowed := true }
def BedWorkedUptoSaid : Prop := bedWorkedUptoRow.holds Tryz.pinned (OpenSpec.upto bedWorkedSpec)

end Rows
end Go.Proofs.YtmeankpoalkloaaGreat
