/-
  No cell of these rows narrows 'for every input' (looked for: loops, veiled, ifaces, maps, wideKeys, modest, calm, conditions, laid).
  DERIVED. THE GIVEN ROWS OF THIS SEAT. 9 by the template 'for every input the law returns true; each argument reads behind the call as it read before'; 0 by the template 'total and deterministic' (their statements: YtmeankpoalkloaaTotals.lean).
  GIVEN WITH THE SEED: the statements are not yours to turn. If you find one false, say at which input.
  Laid BY PROGRAM, IN A SANDBOX (cutbox-rows.mjs): the forced cells as the released guide's own fill.sh prints them over the translation 5d78c5df85f94e55… (all of the seat's roots in one cut). By AI agents, Wed Nov 11 2026. No macro, syntax, notation, axiom, sorry.
-/
import Derived.Test.YtmeankpoalkloaaChecked
import GoSem.Claim
import GoSem.ClaimJoined
import GoSem.ClaimMapViews
import Derived.JoinedTies
import Derived.KernelRfl
namespace Go.Proofs.Ytmeankpoalkloaa
/- THE CELL 'sum', in the pinned program and in every row, IS THE sha256 OF THE DUMP (.gsa) THAT YtmeankpoalkloaaProg.lean LOADS. Nothing in Lean hashes anything: it is a label: what it is worth is what the hold of that sum in a sandbox is worth. -/
noncomputable def Try.pinned : Pinned := { name := "ytmeankpoalkloaa", sum := "5d78c5df85f94e55a6a1e02ca6657be847cde34213a959ebf482fabad7f1a0f4", checked := Try.checked }
namespace Rows
def none {H : Type} : Left H := { results := [], args := [] }

/-- 'laurellaw02.FordBound': WHATEVER THE INPUT: true; the input reads as it did. -/
def fordBoundSpec : ChangeSpec := { name := "fordBound", fn := fun _ => fun
  | [d1, d2] => { results := [.lit (.bool true)], args := [d1, d2] }
  | _ => none }
def fordBoundRow : OpenClaim := { program := "ytmeankpoalkloaa", sum := "5d78c5df85f94e55a6a1e02ca6657be847cde34213a959ebf482fabad7f1a0f4", func := "laurel/laurellaw02.FordBound", spec := "fordBound", unfollowed := true, recurses := true, apart := false }
def FordBoundSaid : Prop := fordBoundRow.holds Try.pinned (OpenSpec.ofChange fordBoundSpec)

/-- ITS FALSE NEIGHBOUR: 'it returns false'. Refute it at one input. -/
def fordBoundWrong : ChangeSpec := { name := "fordBound", fn := fun _ => fun
  | [d1, d2] => { results := [.lit (.bool false)], args := [d1, d2] }
  | _ => none }
def FordBoundWrongFalsely : Prop := fordBoundRow.holds Try.pinned (OpenSpec.ofChange fordBoundWrong)

/-- 'laurellaw02.FordDrier': WHATEVER THE INPUT: true; the input reads as it did. -/
def fordDrierSpec : ChangeSpec := { name := "fordDrier", fn := fun _ => fun
  | [d1, d2, d3, d4] => { results := [.lit (.bool true)], args := [d1, d2, d3, d4] }
  | _ => none }
def fordDrierRow : OpenClaim := { program := "ytmeankpoalkloaa", sum := "5d78c5df85f94e55a6a1e02ca6657be847cde34213a959ebf482fabad7f1a0f4", func := "laurel/laurellaw02.FordDrier", spec := "fordDrier", unfollowed := true, recurses := true, apart := false }
def FordDrierSaid : Prop := fordDrierRow.holds Try.pinned (OpenSpec.ofChange fordDrierSpec)

/-- ITS FALSE NEIGHBOUR: 'it returns false'. Refute it at one input. -/
def fordDrierWrong : ChangeSpec := { name := "fordDrier", fn := fun _ => fun
  | [d1, d2, d3, d4] => { results := [.lit (.bool false)], args := [d1, d2, d3, d4] }
  | _ => none }
def FordDrierWrongFalsely : Prop := fordDrierRow.holds Try.pinned (OpenSpec.ofChange fordDrierWrong)

/-- 'laurellaw02.FordSands': WHATEVER THE INPUT: true; the input reads as it did. -/
def fordSandsSpec : ChangeSpec := { name := "fordSands", fn := fun _ => fun
  | [d1, d2, d3, d4] => { results := [.lit (.bool true)], args := [d1, d2, d3, d4] }
  | _ => none }
def fordSandsRow : OpenClaim := { program := "ytmeankpoalkloaa", sum := "5d78c5df85f94e55a6a1e02ca6657be847cde34213a959ebf482fabad7f1a0f4", func := "laurel/laurellaw02.FordSands", spec := "fordSands", unfollowed := true, recurses := true, apart := false }
def FordSandsSaid : Prop := fordSandsRow.holds Try.pinned (OpenSpec.ofChange fordSandsSpec)

/-- ITS FALSE NEIGHBOUR: 'it returns false'. Refute it at one input. -/
def fordSandsWrong : ChangeSpec := { name := "fordSands", fn := fun _ => fun
  | [d1, d2, d3, d4] => { results := [.lit (.bool false)], args := [d1, d2, d3, d4] }
  | _ => none }
def FordSandsWrongFalsely : Prop := fordSandsRow.holds Try.pinned (OpenSpec.ofChange fordSandsWrong)

/-- 'laurellaw02.FordDriven': WHATEVER THE INPUT: true; the input reads as it did. -/
def fordDrivenSpec : ChangeSpec := { name := "fordDriven", fn := fun _ => fun
  | [d1, d2] => { results := [.lit (.bool true)], args := [d1, d2] }
  | _ => none }
def fordDrivenRow : OpenClaim := { program := "ytmeankpoalkloaa", sum := "5d78c5df85f94e55a6a1e02ca6657be847cde34213a959ebf482fabad7f1a0f4", func := "laurel/laurellaw02.FordDriven", spec := "fordDriven", unfollowed := true, recurses := true, apart := false }
def FordDrivenSaid : Prop := fordDrivenRow.holds Try.pinned (OpenSpec.ofChange fordDrivenSpec)

/-- ITS FALSE NEIGHBOUR: 'it returns false'. Refute it at one input. -/
def fordDrivenWrong : ChangeSpec := { name := "fordDriven", fn := fun _ => fun
  | [d1, d2] => { results := [.lit (.bool false)], args := [d1, d2] }
  | _ => none }
def FordDrivenWrongFalsely : Prop := fordDrivenRow.holds Try.pinned (OpenSpec.ofChange fordDrivenWrong)

/-- 'laurellaw02.FordTold': WHATEVER THE INPUT: true; the input reads as it did. -/
def fordToldSpec : ChangeSpec := { name := "fordTold", fn := fun _ => fun
  | [d1, d2] => { results := [.lit (.bool true)], args := [d1, d2] }
  | _ => none }
def fordToldRow : OpenClaim := { program := "ytmeankpoalkloaa", sum := "5d78c5df85f94e55a6a1e02ca6657be847cde34213a959ebf482fabad7f1a0f4", func := "laurel/laurellaw02.FordTold", spec := "fordTold", unfollowed := true, recurses := true, apart := false }
def FordToldSaid : Prop := fordToldRow.holds Try.pinned (OpenSpec.ofChange fordToldSpec)

/-- ITS FALSE NEIGHBOUR: 'it returns false'. Refute it at one input. -/
def fordToldWrong : ChangeSpec := { name := "fordTold", fn := fun _ => fun
  | [d1, d2] => { results := [.lit (.bool false)], args := [d1, d2] }
  | _ => none }
def FordToldWrongFalsely : Prop := fordToldRow.holds Try.pinned (OpenSpec.ofChange fordToldWrong)

/-- 'laurellaw02.FordLess': WHATEVER THE INPUT: true; the input reads as it did. -/
def fordLessSpec : ChangeSpec := { name := "fordLess", fn := fun _ => fun
  | [d1, d2, d3] => { results := [.lit (.bool true)], args := [d1, d2, d3] }
  | _ => none }
def fordLessRow : OpenClaim := { program := "ytmeankpoalkloaa", sum := "5d78c5df85f94e55a6a1e02ca6657be847cde34213a959ebf482fabad7f1a0f4", func := "laurel/laurellaw02.FordLess", spec := "fordLess", unfollowed := true, recurses := true, apart := false }
def FordLessSaid : Prop := fordLessRow.holds Try.pinned (OpenSpec.ofChange fordLessSpec)

/-- ITS FALSE NEIGHBOUR: 'it returns false'. Refute it at one input. -/
def fordLessWrong : ChangeSpec := { name := "fordLess", fn := fun _ => fun
  | [d1, d2, d3] => { results := [.lit (.bool false)], args := [d1, d2, d3] }
  | _ => none }
def FordLessWrongFalsely : Prop := fordLessRow.holds Try.pinned (OpenSpec.ofChange fordLessWrong)

/-- 'laurellaw02.FordNamed': WHATEVER THE INPUT: true; the input reads as it did. -/
def fordNamedSpec : ChangeSpec := { name := "fordNamed", fn := fun _ => fun
  | [d1, d2, d3, d4] => { results := [.lit (.bool true)], args := [d1, d2, d3, d4] }
  | _ => none }
def fordNamedRow : OpenClaim := { program := "ytmeankpoalkloaa", sum := "5d78c5df85f94e55a6a1e02ca6657be847cde34213a959ebf482fabad7f1a0f4", func := "laurel/laurellaw02.FordNamed", spec := "fordNamed", inPlace := ["slices.overlaps[int]"], unfollowed := true, recurses := true, apart := false }
def FordNamedSaid : Prop := fordNamedRow.holds Try.pinned (OpenSpec.ofChange fordNamedSpec)

/-- ITS FALSE NEIGHBOUR: 'it returns false'. Refute it at one input. -/
def fordNamedWrong : ChangeSpec := { name := "fordNamed", fn := fun _ => fun
  | [d1, d2, d3, d4] => { results := [.lit (.bool false)], args := [d1, d2, d3, d4] }
  | _ => none }
def FordNamedWrongFalsely : Prop := fordNamedRow.holds Try.pinned (OpenSpec.ofChange fordNamedWrong)

/-- 'laurellaw02.FordHome': WHATEVER THE INPUT: true; the input reads as it did. -/
def fordHomeSpec : ChangeSpec := { name := "fordHome", fn := fun _ => fun
  | [d1, d2] => { results := [.lit (.bool true)], args := [d1, d2] }
  | _ => none }
def fordHomeRow : OpenClaim := { program := "ytmeankpoalkloaa", sum := "5d78c5df85f94e55a6a1e02ca6657be847cde34213a959ebf482fabad7f1a0f4", func := "laurel/laurellaw02.FordHome", spec := "fordHome", unfollowed := true, recurses := true, apart := false }
def FordHomeSaid : Prop := fordHomeRow.holds Try.pinned (OpenSpec.ofChange fordHomeSpec)

/-- ITS FALSE NEIGHBOUR: 'it returns false'. Refute it at one input. -/
def fordHomeWrong : ChangeSpec := { name := "fordHome", fn := fun _ => fun
  | [d1, d2] => { results := [.lit (.bool false)], args := [d1, d2] }
  | _ => none }
def FordHomeWrongFalsely : Prop := fordHomeRow.holds Try.pinned (OpenSpec.ofChange fordHomeWrong)

/-- 'laurellaw06.SackFew': WHATEVER THE INPUT: true; the input reads as it did. -/
def sackFewSpec : ChangeSpec := { name := "sackFew", fn := fun _ => fun
  | [d1, d2, d3] => { results := [.lit (.bool true)], args := [d1, d2, d3] }
  | _ => none }
def sackFewRow : OpenClaim := { program := "ytmeankpoalkloaa", sum := "5d78c5df85f94e55a6a1e02ca6657be847cde34213a959ebf482fabad7f1a0f4", func := "laurel/laurellaw06.SackFew", spec := "sackFew", inPlace := ["slices.overlaps[int]"], unfollowed := true, recurses := true, apart := false }
def SackFewSaid : Prop := sackFewRow.holds Try.pinned (OpenSpec.ofChange sackFewSpec)

/-- ITS FALSE NEIGHBOUR: 'it returns false'. Refute it at one input. -/
def sackFewWrong : ChangeSpec := { name := "sackFew", fn := fun _ => fun
  | [d1, d2, d3] => { results := [.lit (.bool false)], args := [d1, d2, d3] }
  | _ => none }
def SackFewWrongFalsely : Prop := sackFewRow.holds Try.pinned (OpenSpec.ofChange sackFewWrong)

/- THE SECOND FORM. 'bulk': how many values and letters a reading holds, each counted each time it is reached (what is shared counts as often as it is met; a slice's spare places count too). A statement '..UptoSaid' is the law's where the arguments, and the package variables that the reading takes, are together of bulk at most 1048576: NARROWER than '..Said'. Prove '..Said' where nothing that the law and all that it calls make is longer than what came in: it says more and counts as full. Else prove '..UptoSaid'. A law counts once. -/
mutual
def uptoBulk {H : Type} : DataW H → Nat
  | .lit (.string bytes) => bytes.length + 1
  | .lit _ => 1
  | .nil => 1
  | .ptr d => uptoBulk d + 1
  | .slice elems spare => uptoBulkAll elems + uptoBulkAll spare + 1
  | .agg parts => uptoBulkAll parts + 1
  | .iface _ d => uptoBulk d + 1
  | .map entries => uptoBulkEntries entries + 1
  | .held _ => 1
def uptoBulkAll {H : Type} : List (DataW H) → Nat
  | [] => 0
  | d :: r => uptoBulk d + uptoBulkAll r
def uptoBulkEntries {H : Type} : List (Lit × DataW H) → Nat
  | [] => 0
  | x :: r => uptoBulkEntry x + uptoBulkEntries r
def uptoBulkEntry {H : Type} : Lit × DataW H → Nat
  | (.string bytes, d) => bytes.length + uptoBulk d + 1
  | (_, d) => uptoBulk d + 1
 end
def uptoSmall : (H : Type) → List (DataW H) → Bool := fun _ ds => decide (uptoBulkAll ds ≤ 1048576)
def OpenSpec.upto (s : _root_.Go.ChangeSpec) : _root_.Go.OpenSpec := { _root_.Go.OpenSpec.ofChange s with cond := some uptoSmall }

/-- 'laurellaw02.FordBound', WHERE WHAT IT READS IS OF BULK AT MOST 1048576: true; the input reads as it did. -/
def fordBoundUptoRow : OpenClaim := { program := "ytmeankpoalkloaa", sum := "5d78c5df85f94e55a6a1e02ca6657be847cde34213a959ebf482fabad7f1a0f4", func := "laurel/laurellaw02.FordBound", spec := "fordBound", unfollowed := true, recurses := true, apart := false, narrowed := true }
def FordBoundUptoSaid : Prop := fordBoundUptoRow.holds Try.pinned (OpenSpec.upto fordBoundSpec)

/-- 'laurellaw02.FordDrier', WHERE WHAT IT READS IS OF BULK AT MOST 1048576: true; the input reads as it did. -/
def fordDrierUptoRow : OpenClaim := { program := "ytmeankpoalkloaa", sum := "5d78c5df85f94e55a6a1e02ca6657be847cde34213a959ebf482fabad7f1a0f4", func := "laurel/laurellaw02.FordDrier", spec := "fordDrier", unfollowed := true, recurses := true, apart := false, narrowed := true }
def FordDrierUptoSaid : Prop := fordDrierUptoRow.holds Try.pinned (OpenSpec.upto fordDrierSpec)

/-- 'laurellaw02.FordSands', WHERE WHAT IT READS IS OF BULK AT MOST 1048576: true; the input reads as it did. -/
def fordSandsUptoRow : OpenClaim := { program := "ytmeankpoalkloaa", sum := "5d78c5df85f94e55a6a1e02ca6657be847cde34213a959ebf482fabad7f1a0f4", func := "laurel/laurellaw02.FordSands", spec := "fordSands", unfollowed := true, recurses := true, apart := false, narrowed := true }
def FordSandsUptoSaid : Prop := fordSandsUptoRow.holds Try.pinned (OpenSpec.upto fordSandsSpec)

/-- 'laurellaw02.FordDriven', WHERE WHAT IT READS IS OF BULK AT MOST 1048576: true; the input reads as it did. -/
def fordDrivenUptoRow : OpenClaim := { program := "ytmeankpoalkloaa", sum := "5d78c5df85f94e55a6a1e02ca6657be847cde34213a959ebf482fabad7f1a0f4", func := "laurel/laurellaw02.FordDriven", spec := "fordDriven", unfollowed := true, recurses := true, apart := false, narrowed := true }
def FordDrivenUptoSaid : Prop := fordDrivenUptoRow.holds Try.pinned (OpenSpec.upto fordDrivenSpec)

/-- 'laurellaw02.FordTold', WHERE WHAT IT READS IS OF BULK AT MOST 1048576: true; the input reads as it did. -/
def fordToldUptoRow : OpenClaim := { program := "ytmeankpoalkloaa", sum := "5d78c5df85f94e55a6a1e02ca6657be847cde34213a959ebf482fabad7f1a0f4", func := "laurel/laurellaw02.FordTold", spec := "fordTold", unfollowed := true, recurses := true, apart := false, narrowed := true }
def FordToldUptoSaid : Prop := fordToldUptoRow.holds Try.pinned (OpenSpec.upto fordToldSpec)

/-- 'laurellaw02.FordLess', WHERE WHAT IT READS IS OF BULK AT MOST 1048576: true; the input reads as it did. -/
def fordLessUptoRow : OpenClaim := { program := "ytmeankpoalkloaa", sum := "5d78c5df85f94e55a6a1e02ca6657be847cde34213a959ebf482fabad7f1a0f4", func := "laurel/laurellaw02.FordLess", spec := "fordLess", unfollowed := true, recurses := true, apart := false, narrowed := true }
def FordLessUptoSaid : Prop := fordLessUptoRow.holds Try.pinned (OpenSpec.upto fordLessSpec)

/-- 'laurellaw02.FordNamed', WHERE WHAT IT READS IS OF BULK AT MOST 1048576: true; the input reads as it did. -/
def fordNamedUptoRow : OpenClaim := { program := "ytmeankpoalkloaa", sum := "5d78c5df85f94e55a6a1e02ca6657be847cde34213a959ebf482fabad7f1a0f4", func := "laurel/laurellaw02.FordNamed", spec := "fordNamed", inPlace := ["slices.overlaps[int]"], unfollowed := true, recurses := true, apart := false, narrowed := true }
def FordNamedUptoSaid : Prop := fordNamedUptoRow.holds Try.pinned (OpenSpec.upto fordNamedSpec)

/-- 'laurellaw02.FordHome', WHERE WHAT IT READS IS OF BULK AT MOST 1048576: true; the input reads as it did. -/
def fordHomeUptoRow : OpenClaim := { program := "ytmeankpoalkloaa", sum := "5d78c5df85f94e55a6a1e02ca6657be847cde34213a959ebf482fabad7f1a0f4", func := "laurel/laurellaw02.FordHome", spec := "fordHome", unfollowed := true, recurses := true, apart := false, narrowed := true }
def FordHomeUptoSaid : Prop := fordHomeUptoRow.holds Try.pinned (OpenSpec.upto fordHomeSpec)

/-- 'laurellaw06.SackFew', WHERE WHAT IT READS IS OF BULK AT MOST 1048576: true; the input reads as it did. -/
def sackFewUptoRow : OpenClaim := { program := "ytmeankpoalkloaa", sum := "5d78c5df85f94e55a6a1e02ca6657be847cde34213a959ebf482fabad7f1a0f4", func := "laurel/laurellaw06.SackFew", spec := "sackFew", inPlace := ["slices.overlaps[int]"], unfollowed := true, recurses := true, apart := false, narrowed := true }
def SackFewUptoSaid : Prop := sackFewUptoRow.holds Try.pinned (OpenSpec.upto sackFewSpec)

end Rows
end Go.Proofs.Ytmeankpoalkloaa
