/-
  No cell of these rows narrows 'for every input' (looked for: loops, veiled, ifaces, maps, wideKeys, modest, calm, conditions, laid).
  DERIVED. THE GIVEN ROWS OF THIS SEAT. 4 by the template 'for every input the law returns true; each argument reads behind the call as it read before'; 0 by the template 'total and deterministic' (their statements: YtinbgkoefajhbaaTotals.lean).
  GIVEN WITH THE SEED: the statements are not yours to turn. If you find one false, say at which input.
  Laid BY PROGRAM, IN A SANDBOX (cutbox-rows.mjs): the forced cells as the released guide's own fill.sh prints them over the translation b3b51ed40dce7ad6… (all of the seat's roots in one cut). By AI agents, Wed Nov 11 2026. No macro, syntax, notation, axiom, sorry.
-/
import Derived.Test.YtinbgkoefajhbaaChecked
import GoSem.Claim
import GoSem.ClaimJoined
import GoSem.ClaimMapViews
import Derived.JoinedTies
import Derived.KernelRfl
namespace Go.Proofs.Ytinbgkoefajhbaa
/- THE CELL 'sum', in the pinned program and in every row, IS THE sha256 OF THE DUMP (.gsa) THAT YtinbgkoefajhbaaProg.lean LOADS. Nothing in Lean hashes anything: it is a label: what it is worth is what the hold of that sum in a sandbox is worth. -/
noncomputable def Try.pinned : Pinned := { name := "ytinbgkoefajhbaa", sum := "b3b51ed40dce7ad6602887c3d18be5d7c4836541d8535b70229a3fa5eff3ce46", checked := Try.checked }
namespace Rows
def none {H : Type} : Left H := { results := [], args := [] }

/-- 'laurellaw02.FordDrier': WHATEVER THE INPUT: true; the input reads as it did. -/
def fordDrierSpec : ChangeSpec := { name := "fordDrier", fn := fun _ => fun
  | [d1, d2, d3, d4] => { results := [.lit (.bool true)], args := [d1, d2, d3, d4] }
  | _ => none }
def fordDrierRow : OpenClaim := { program := "ytinbgkoefajhbaa", sum := "b3b51ed40dce7ad6602887c3d18be5d7c4836541d8535b70229a3fa5eff3ce46", func := "laurel/laurellaw02.FordDrier", spec := "fordDrier", unfollowed := true, recurses := true, apart := false }
def FordDrierSaid : Prop := fordDrierRow.holds Try.pinned (OpenSpec.ofChange fordDrierSpec)

/-- ITS FALSE NEIGHBOUR: 'it returns false'. Refute it at one input. -/
def fordDrierWrong : ChangeSpec := { name := "fordDrier", fn := fun _ => fun
  | [d1, d2, d3, d4] => { results := [.lit (.bool false)], args := [d1, d2, d3, d4] }
  | _ => none }
def FordDrierWrongFalsely : Prop := fordDrierRow.holds Try.pinned (OpenSpec.ofChange fordDrierWrong)

/-- 'laurellaw02.FordLess': WHATEVER THE INPUT: true; the input reads as it did. -/
def fordLessSpec : ChangeSpec := { name := "fordLess", fn := fun _ => fun
  | [d1, d2, d3] => { results := [.lit (.bool true)], args := [d1, d2, d3] }
  | _ => none }
def fordLessRow : OpenClaim := { program := "ytinbgkoefajhbaa", sum := "b3b51ed40dce7ad6602887c3d18be5d7c4836541d8535b70229a3fa5eff3ce46", func := "laurel/laurellaw02.FordLess", spec := "fordLess", unfollowed := true, recurses := true, apart := false }
def FordLessSaid : Prop := fordLessRow.holds Try.pinned (OpenSpec.ofChange fordLessSpec)

/-- ITS FALSE NEIGHBOUR: 'it returns false'. Refute it at one input. -/
def fordLessWrong : ChangeSpec := { name := "fordLess", fn := fun _ => fun
  | [d1, d2, d3] => { results := [.lit (.bool false)], args := [d1, d2, d3] }
  | _ => none }
def FordLessWrongFalsely : Prop := fordLessRow.holds Try.pinned (OpenSpec.ofChange fordLessWrong)

/-- 'laurellaw02.FordNamed': WHATEVER THE INPUT: true; the input reads as it did. -/
def fordNamedSpec : ChangeSpec := { name := "fordNamed", fn := fun _ => fun
  | [d1, d2, d3, d4] => { results := [.lit (.bool true)], args := [d1, d2, d3, d4] }
  | _ => none }
def fordNamedRow : OpenClaim := { program := "ytinbgkoefajhbaa", sum := "b3b51ed40dce7ad6602887c3d18be5d7c4836541d8535b70229a3fa5eff3ce46", func := "laurel/laurellaw02.FordNamed", spec := "fordNamed", inPlace := ["slices.overlaps[int]"], unfollowed := true, recurses := true, apart := false }
def FordNamedSaid : Prop := fordNamedRow.holds Try.pinned (OpenSpec.ofChange fordNamedSpec)

/-- ITS FALSE NEIGHBOUR: 'it returns false'. Refute it at one input. -/
def fordNamedWrong : ChangeSpec := { name := "fordNamed", fn := fun _ => fun
  | [d1, d2, d3, d4] => { results := [.lit (.bool false)], args := [d1, d2, d3, d4] }
  | _ => none }
def FordNamedWrongFalsely : Prop := fordNamedRow.holds Try.pinned (OpenSpec.ofChange fordNamedWrong)

/-- 'laurellaw06.SackFew': WHATEVER THE INPUT: true; the input reads as it did. -/
def sackFewSpec : ChangeSpec := { name := "sackFew", fn := fun _ => fun
  | [d1, d2, d3] => { results := [.lit (.bool true)], args := [d1, d2, d3] }
  | _ => none }
def sackFewRow : OpenClaim := { program := "ytinbgkoefajhbaa", sum := "b3b51ed40dce7ad6602887c3d18be5d7c4836541d8535b70229a3fa5eff3ce46", func := "laurel/laurellaw06.SackFew", spec := "sackFew", inPlace := ["slices.overlaps[int]"], unfollowed := true, recurses := true, apart := false }
def SackFewSaid : Prop := sackFewRow.holds Try.pinned (OpenSpec.ofChange sackFewSpec)

/-- ITS FALSE NEIGHBOUR: 'it returns false'. Refute it at one input. -/
def sackFewWrong : ChangeSpec := { name := "sackFew", fn := fun _ => fun
  | [d1, d2, d3] => { results := [.lit (.bool false)], args := [d1, d2, d3] }
  | _ => none }
def SackFewWrongFalsely : Prop := sackFewRow.holds Try.pinned (OpenSpec.ofChange sackFewWrong)

/- THE SECOND FORM. 'bulk': how many values and letters a reading holds, each counted each time it is reached (what is shared counts as often as it is met; a slice's spare places count too). A statement '..UptoSaid' is the law's where the arguments, and the package variables that the reading takes, are together of bulk at most 1048576: NARROWER than '..Said'. Prove '..Said' where nothing that the law and all that it calls make is longer than what came in: it says more and counts as full. Else prove '..UptoSaid'. A law counts once. -/
mutual
def uptoBulk {H : Type} : DataW H → Nat
  | .lit (.string bytes) => bytes.length + 1
  | .lit _ => 1
  | .nil => 1
  | .ptr d => uptoBulk d + 1
  | .slice elems spare => uptoBulkAll elems + uptoBulkAll spare + 1
  | .agg parts => uptoBulkAll parts + 1
  | .iface _ d => uptoBulk d + 1
  | .map entries => uptoBulkEntries entries + 1
  | .held _ => 1
def uptoBulkAll {H : Type} : List (DataW H) → Nat
  | [] => 0
  | d :: r => uptoBulk d + uptoBulkAll r
def uptoBulkEntries {H : Type} : List (Lit × DataW H) → Nat
  | [] => 0
  | x :: r => uptoBulkEntry x + uptoBulkEntries r
def uptoBulkEntry {H : Type} : Lit × DataW H → Nat
  | (.string bytes, d) => bytes.length + uptoBulk d + 1
  | (_, d) => uptoBulk d + 1
 end
def uptoSmall : (H : Type) → List (DataW H) → Bool := fun _ ds => decide (uptoBulkAll ds ≤ 1048576)
def OpenSpec.upto (s : _root_.Go.ChangeSpec) : _root_.Go.OpenSpec := { _root_.Go.OpenSpec.ofChange s with cond := some uptoSmall }

/-- 'laurellaw02.FordDrier', WHERE WHAT IT READS IS OF BULK AT MOST 1048576: true; the input reads as it did. -/
def fordDrierUptoRow : OpenClaim := { program := "ytinbgkoefajhbaa", sum := "b3b51ed40dce7ad6602887c3d18be5d7c4836541d8535b70229a3fa5eff3ce46", func := "laurel/laurellaw02.FordDrier", spec := "fordDrier", unfollowed := true, recurses := true, apart := false, narrowed := true }
def FordDrierUptoSaid : Prop := fordDrierUptoRow.holds Try.pinned (OpenSpec.upto fordDrierSpec)

/-- 'laurellaw02.FordLess', WHERE WHAT IT READS IS OF BULK AT MOST 1048576: true; the input reads as it did. -/
def fordLessUptoRow : OpenClaim := { program := "ytinbgkoefajhbaa", sum := "b3b51ed40dce7ad6602887c3d18be5d7c4836541d8535b70229a3fa5eff3ce46", func := "laurel/laurellaw02.FordLess", spec := "fordLess", unfollowed := true, recurses := true, apart := false, narrowed := true }
def FordLessUptoSaid : Prop := fordLessUptoRow.holds Try.pinned (OpenSpec.upto fordLessSpec)

/-- 'laurellaw02.FordNamed', WHERE WHAT IT READS IS OF BULK AT MOST 1048576: true; the input reads as it did. -/
def fordNamedUptoRow : OpenClaim := { program := "ytinbgkoefajhbaa", sum := "b3b51ed40dce7ad6602887c3d18be5d7c4836541d8535b70229a3fa5eff3ce46", func := "laurel/laurellaw02.FordNamed", spec := "fordNamed", inPlace := ["slices.overlaps[int]"], unfollowed := true, recurses := true, apart := false, narrowed := true }
def FordNamedUptoSaid : Prop := fordNamedUptoRow.holds Try.pinned (OpenSpec.upto fordNamedSpec)

/-- 'laurellaw06.SackFew', WHERE WHAT IT READS IS OF BULK AT MOST 1048576: true; the input reads as it did. -/
def sackFewUptoRow : OpenClaim := { program := "ytinbgkoefajhbaa", sum := "b3b51ed40dce7ad6602887c3d18be5d7c4836541d8535b70229a3fa5eff3ce46", func := "laurel/laurellaw06.SackFew", spec := "sackFew", inPlace := ["slices.overlaps[int]"], unfollowed := true, recurses := true, apart := false, narrowed := true }
def SackFewUptoSaid : Prop := sackFewUptoRow.holds Try.pinned (OpenSpec.upto sackFewSpec)

end Rows
end Go.Proofs.Ytinbgkoefajhbaa
