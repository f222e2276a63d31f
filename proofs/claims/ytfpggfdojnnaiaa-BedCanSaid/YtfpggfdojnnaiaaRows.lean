/-
  No cell of these rows narrows 'for every input' (looked for: loops, veiled, ifaces, maps, wideKeys, modest, calm, conditions, laid).
  DERIVED. THE GIVEN ROWS OF THIS SEAT. 16 by the template 'for every input the law returns true; each argument reads behind the call as it read before'; 0 by the template 'total and deterministic' (their statements: YtfpggfdojnnaiaaTotals.lean).
  GIVEN WITH THE SEED: the statements are not yours to turn. If you find one false, say at which input.
  Laid BY PROGRAM, IN A SANDBOX (cutbox-rows.mjs): the forced cells as the released guide's own fill.sh prints them over the translation 2497fbc1451d9d41… (all of the seat's roots in one cut). By AI agents, Wed Nov 11 2026. No macro, syntax, notation, axiom, sorry.
-/
import Derived.Test.YtfpggfdojnnaiaaChecked
import GoSem.Claim
import GoSem.ClaimJoined
import GoSem.ClaimMapViews
import Derived.JoinedTies
import Derived.KernelRfl
namespace Go.Proofs.Ytfpggfdojnnaiaa
/- THE CELL 'sum', in the pinned program and in every row, IS THE sha256 OF THE DUMP (.gsa) THAT YtfpggfdojnnaiaaProg.lean LOADS. Nothing in Lean hashes anything: it is a label: what it is worth is what the hold of that sum in a sandbox is worth. -/
noncomputable def Try.pinned : Pinned := { name := "ytfpggfdojnnaiaa", sum := "2497fbc1451d9d413cdf02e6a2ccb3458099ee686531d5f7567f5e08392d480f", checked := Try.checked }
namespace Rows
def none {H : Type} : Left H := { results := [], args := [] }

/-- 'laurellaw04.BedEven': WHATEVER THE INPUT: true; the input reads as it did. -/
def bedEvenSpec : ChangeSpec := { name := "bedEven", fn := fun _ => fun
  | [d1, d2] => { results := [.lit (.bool true)], args := [d1, d2] }
  | _ => none }
def bedEvenRow : OpenClaim := { program := "ytfpggfdojnnaiaa", sum := "2497fbc1451d9d413cdf02e6a2ccb3458099ee686531d5f7567f5e08392d480f", func := "laurel/laurellaw04.BedEven", spec := "bedEven", inPlace := ["slices.overlaps[int]"], unfollowed := true, recurses := true, apart := false }
def BedEvenSaid : Prop := bedEvenRow.holds Try.pinned (OpenSpec.ofChange bedEvenSpec)

/-- ITS FALSE NEIGHBOUR: 'it returns false'. Refute it at one input. -/
def bedEvenWrong : ChangeSpec := { name := "bedEven", fn := fun _ => fun
  | [d1, d2] => { results := [.lit (.bool false)], args := [d1, d2] }
  | _ => none }
def BedEvenWrongFalsely : Prop := bedEvenRow.holds Try.pinned (OpenSpec.ofChange bedEvenWrong)

/-- 'laurellaw04.BedKeeps': WHATEVER THE INPUT: true; the input reads as it did. -/
def bedKeepsSpec : ChangeSpec := { name := "bedKeeps", fn := fun _ => fun
  | [d1, d2, d3] => { results := [.lit (.bool true)], args := [d1, d2, d3] }
  | _ => none }
def bedKeepsRow : OpenClaim := { program := "ytfpggfdojnnaiaa", sum := "2497fbc1451d9d413cdf02e6a2ccb3458099ee686531d5f7567f5e08392d480f", func := "laurel/laurellaw04.BedKeeps", spec := "bedKeeps", inPlace := ["slices.overlaps[int]"], unfollowed := true, recurses := true, apart := false }
def BedKeepsSaid : Prop := bedKeepsRow.holds Try.pinned (OpenSpec.ofChange bedKeepsSpec)

/-- ITS FALSE NEIGHBOUR: 'it returns false'. Refute it at one input. -/
def bedKeepsWrong : ChangeSpec := { name := "bedKeeps", fn := fun _ => fun
  | [d1, d2, d3] => { results := [.lit (.bool false)], args := [d1, d2, d3] }
  | _ => none }
def BedKeepsWrongFalsely : Prop := bedKeepsRow.holds Try.pinned (OpenSpec.ofChange bedKeepsWrong)

/-- 'laurellaw04.BedMonths': WHATEVER THE INPUT: true; the input reads as it did. -/
def bedMonthsSpec : ChangeSpec := { name := "bedMonths", fn := fun _ => fun
  | [d1, d2, d3, d4] => { results := [.lit (.bool true)], args := [d1, d2, d3, d4] }
  | _ => none }
def bedMonthsRow : OpenClaim := { program := "ytfpggfdojnnaiaa", sum := "2497fbc1451d9d413cdf02e6a2ccb3458099ee686531d5f7567f5e08392d480f", func := "laurel/laurellaw04.BedMonths", spec := "bedMonths", inPlace := ["slices.overlaps[int]"], unfollowed := true, recurses := true, apart := false }
def BedMonthsSaid : Prop := bedMonthsRow.holds Try.pinned (OpenSpec.ofChange bedMonthsSpec)

/-- ITS FALSE NEIGHBOUR: 'it returns false'. Refute it at one input. -/
def bedMonthsWrong : ChangeSpec := { name := "bedMonths", fn := fun _ => fun
  | [d1, d2, d3, d4] => { results := [.lit (.bool false)], args := [d1, d2, d3, d4] }
  | _ => none }
def BedMonthsWrongFalsely : Prop := bedMonthsRow.holds Try.pinned (OpenSpec.ofChange bedMonthsWrong)

/-- 'laurellaw04.BedFloored': WHATEVER THE INPUT: true; the input reads as it did. -/
def bedFlooredSpec : ChangeSpec := { name := "bedFloored", fn := fun _ => fun
  | [d1, d2, d3] => { results := [.lit (.bool true)], args := [d1, d2, d3] }
  | _ => none }
def bedFlooredRow : OpenClaim := { program := "ytfpggfdojnnaiaa", sum := "2497fbc1451d9d413cdf02e6a2ccb3458099ee686531d5f7567f5e08392d480f", func := "laurel/laurellaw04.BedFloored", spec := "bedFloored", inPlace := ["slices.overlaps[int]"], unfollowed := true, recurses := true, apart := false }
def BedFlooredSaid : Prop := bedFlooredRow.holds Try.pinned (OpenSpec.ofChange bedFlooredSpec)

/-- ITS FALSE NEIGHBOUR: 'it returns false'. Refute it at one input. -/
def bedFlooredWrong : ChangeSpec := { name := "bedFloored", fn := fun _ => fun
  | [d1, d2, d3] => { results := [.lit (.bool false)], args := [d1, d2, d3] }
  | _ => none }
def BedFlooredWrongFalsely : Prop := bedFlooredRow.holds Try.pinned (OpenSpec.ofChange bedFlooredWrong)

/-- 'laurellaw04.BedMost': WHATEVER THE INPUT: true; the input reads as it did. -/
def bedMostSpec : ChangeSpec := { name := "bedMost", fn := fun _ => fun
  | [d1, d2] => { results := [.lit (.bool true)], args := [d1, d2] }
  | _ => none }
def bedMostRow : OpenClaim := { program := "ytfpggfdojnnaiaa", sum := "2497fbc1451d9d413cdf02e6a2ccb3458099ee686531d5f7567f5e08392d480f", func := "laurel/laurellaw04.BedMost", spec := "bedMost", inPlace := ["slices.overlaps[int]"], unfollowed := true, recurses := true, apart := false }
def BedMostSaid : Prop := bedMostRow.holds Try.pinned (OpenSpec.ofChange bedMostSpec)

/-- ITS FALSE NEIGHBOUR: 'it returns false'. Refute it at one input. -/
def bedMostWrong : ChangeSpec := { name := "bedMost", fn := fun _ => fun
  | [d1, d2] => { results := [.lit (.bool false)], args := [d1, d2] }
  | _ => none }
def BedMostWrongFalsely : Prop := bedMostRow.holds Try.pinned (OpenSpec.ofChange bedMostWrong)

/-- 'laurellaw04.BedRuled': WHATEVER THE INPUT: true; the input reads as it did. -/
def bedRuledSpec : ChangeSpec := { name := "bedRuled", fn := fun _ => fun
  | [d1, d2, d3] => { results := [.lit (.bool true)], args := [d1, d2, d3] }
  | _ => none }
def bedRuledRow : OpenClaim := { program := "ytfpggfdojnnaiaa", sum := "2497fbc1451d9d413cdf02e6a2ccb3458099ee686531d5f7567f5e08392d480f", func := "laurel/laurellaw04.BedRuled", spec := "bedRuled", inPlace := ["slices.overlaps[int]"], unfollowed := true, recurses := true, apart := false }
def BedRuledSaid : Prop := bedRuledRow.holds Try.pinned (OpenSpec.ofChange bedRuledSpec)

/-- ITS FALSE NEIGHBOUR: 'it returns false'. Refute it at one input. -/
def bedRuledWrong : ChangeSpec := { name := "bedRuled", fn := fun _ => fun
  | [d1, d2, d3] => { results := [.lit (.bool false)], args := [d1, d2, d3] }
  | _ => none }
def BedRuledWrongFalsely : Prop := bedRuledRow.holds Try.pinned (OpenSpec.ofChange bedRuledWrong)

/-- 'laurellaw04.BedMore': WHATEVER THE INPUT: true; the input reads as it did. -/
def bedMoreSpec : ChangeSpec := { name := "bedMore", fn := fun _ => fun
  | [d1, d2] => { results := [.lit (.bool true)], args := [d1, d2] }
  | _ => none }
def bedMoreRow : OpenClaim := { program := "ytfpggfdojnnaiaa", sum := "2497fbc1451d9d413cdf02e6a2ccb3458099ee686531d5f7567f5e08392d480f", func := "laurel/laurellaw04.BedMore", spec := "bedMore", inPlace := ["slices.overlaps[int]"], unfollowed := true, recurses := true, apart := false }
def BedMoreSaid : Prop := bedMoreRow.holds Try.pinned (OpenSpec.ofChange bedMoreSpec)

/-- ITS FALSE NEIGHBOUR: 'it returns false'. Refute it at one input. -/
def bedMoreWrong : ChangeSpec := { name := "bedMore", fn := fun _ => fun
  | [d1, d2] => { results := [.lit (.bool false)], args := [d1, d2] }
  | _ => none }
def BedMoreWrongFalsely : Prop := bedMoreRow.holds Try.pinned (OpenSpec.ofChange bedMoreWrong)

/-- 'laurellaw04.BedCourses': WHATEVER THE INPUT: true; the input reads as it did. -/
def bedCoursesSpec : ChangeSpec := { name := "bedCourses", fn := fun _ => fun
  | [d1, d2] => { results := [.lit (.bool true)], args := [d1, d2] }
  | _ => none }
def bedCoursesRow : OpenClaim := { program := "ytfpggfdojnnaiaa", sum := "2497fbc1451d9d413cdf02e6a2ccb3458099ee686531d5f7567f5e08392d480f", func := "laurel/laurellaw04.BedCourses", spec := "bedCourses", inPlace := ["slices.overlaps[int]"], unfollowed := true, recurses := true, apart := false }
def BedCoursesSaid : Prop := bedCoursesRow.holds Try.pinned (OpenSpec.ofChange bedCoursesSpec)

/-- ITS FALSE NEIGHBOUR: 'it returns false'. Refute it at one input. -/
def bedCoursesWrong : ChangeSpec := { name := "bedCourses", fn := fun _ => fun
  | [d1, d2] => { results := [.lit (.bool false)], args := [d1, d2] }
  | _ => none }
def BedCoursesWrongFalsely : Prop := bedCoursesRow.holds Try.pinned (OpenSpec.ofChange bedCoursesWrong)

/-- 'laurellaw04.BedCourse': WHATEVER THE INPUT: true; the input reads as it did. -/
def bedCourseSpec : ChangeSpec := { name := "bedCourse", fn := fun _ => fun
  | [d1, d2, d3] => { results := [.lit (.bool true)], args := [d1, d2, d3] }
  | _ => none }
def bedCourseRow : OpenClaim := { program := "ytfpggfdojnnaiaa", sum := "2497fbc1451d9d413cdf02e6a2ccb3458099ee686531d5f7567f5e08392d480f", func := "laurel/laurellaw04.BedCourse", spec := "bedCourse", inPlace := ["slices.overlaps[int]"], unfollowed := true, recurses := true, apart := false }
def BedCourseSaid : Prop := bedCourseRow.holds Try.pinned (OpenSpec.ofChange bedCourseSpec)

/-- ITS FALSE NEIGHBOUR: 'it returns false'. Refute it at one input. -/
def bedCourseWrong : ChangeSpec := { name := "bedCourse", fn := fun _ => fun
  | [d1, d2, d3] => { results := [.lit (.bool false)], args := [d1, d2, d3] }
  | _ => none }
def BedCourseWrongFalsely : Prop := bedCourseRow.holds Try.pinned (OpenSpec.ofChange bedCourseWrong)

/-- 'laurellaw04.BedClash': WHATEVER THE INPUT: true; the input reads as it did. -/
def bedClashSpec : ChangeSpec := { name := "bedClash", fn := fun _ => fun
  | [d] => { results := [.lit (.bool true)], args := [d] }
  | _ => none }
def bedClashRow : OpenClaim := { program := "ytfpggfdojnnaiaa", sum := "2497fbc1451d9d413cdf02e6a2ccb3458099ee686531d5f7567f5e08392d480f", func := "laurel/laurellaw04.BedClash", spec := "bedClash", inPlace := ["slices.overlaps[int]"], unfollowed := true, recurses := true, apart := false }
def BedClashSaid : Prop := bedClashRow.holds Try.pinned (OpenSpec.ofChange bedClashSpec)

/-- ITS FALSE NEIGHBOUR: 'it returns false'. Refute it at one input. -/
def bedClashWrong : ChangeSpec := { name := "bedClash", fn := fun _ => fun
  | [d] => { results := [.lit (.bool false)], args := [d] }
  | _ => none }
def BedClashWrongFalsely : Prop := bedClashRow.holds Try.pinned (OpenSpec.ofChange bedClashWrong)

/-- 'laurellaw04.BedCan': WHATEVER THE INPUT: true; the input reads as it did. -/
def bedCanSpec : ChangeSpec := { name := "bedCan", fn := fun _ => fun
  | [d1, d2, d3] => { results := [.lit (.bool true)], args := [d1, d2, d3] }
  | _ => none }
def bedCanRow : OpenClaim := { program := "ytfpggfdojnnaiaa", sum := "2497fbc1451d9d413cdf02e6a2ccb3458099ee686531d5f7567f5e08392d480f", func := "laurel/laurellaw04.BedCan", spec := "bedCan", inPlace := ["slices.overlaps[int]"], unfollowed := true, recurses := true, apart := false }
def BedCanSaid : Prop := bedCanRow.holds Try.pinned (OpenSpec.ofChange bedCanSpec)

/-- ITS FALSE NEIGHBOUR: 'it returns false'. Refute it at one input. -/
def bedCanWrong : ChangeSpec := { name := "bedCan", fn := fun _ => fun
  | [d1, d2, d3] => { results := [.lit (.bool false)], args := [d1, d2, d3] }
  | _ => none }
def BedCanWrongFalsely : Prop := bedCanRow.holds Try.pinned (OpenSpec.ofChange bedCanWrong)

/-- 'laurellaw04.BedFloors': WHATEVER THE INPUT: true; the input reads as it did. -/
def bedFloorsSpec : ChangeSpec := { name := "bedFloors", fn := fun _ => fun
  | [d1, d2, d3] => { results := [.lit (.bool true)], args := [d1, d2, d3] }
  | _ => none }
def bedFloorsRow : OpenClaim := { program := "ytfpggfdojnnaiaa", sum := "2497fbc1451d9d413cdf02e6a2ccb3458099ee686531d5f7567f5e08392d480f", func := "laurel/laurellaw04.BedFloors", spec := "bedFloors", inPlace := ["slices.overlaps[int]"], unfollowed := true, recurses := true, apart := false }
def BedFloorsSaid : Prop := bedFloorsRow.holds Try.pinned (OpenSpec.ofChange bedFloorsSpec)

/-- ITS FALSE NEIGHBOUR: 'it returns false'. Refute it at one input. -/
def bedFloorsWrong : ChangeSpec := { name := "bedFloors", fn := fun _ => fun
  | [d1, d2, d3] => { results := [.lit (.bool false)], args := [d1, d2, d3] }
  | _ => none }
def BedFloorsWrongFalsely : Prop := bedFloorsRow.holds Try.pinned (OpenSpec.ofChange bedFloorsWrong)

/-- 'laurellaw04.BedSurvey': WHATEVER THE INPUT: true; the input reads as it did. -/
def bedSurveySpec : ChangeSpec := { name := "bedSurvey", fn := fun _ => fun
  | [d1, d2] => { results := [.lit (.bool true)], args := [d1, d2] }
  | _ => none }
def bedSurveyRow : OpenClaim := { program := "ytfpggfdojnnaiaa", sum := "2497fbc1451d9d413cdf02e6a2ccb3458099ee686531d5f7567f5e08392d480f", func := "laurel/laurellaw04.BedSurvey", spec := "bedSurvey", inPlace := ["slices.overlaps[int]"], unfollowed := true, recurses := true, apart := false }
def BedSurveySaid : Prop := bedSurveyRow.holds Try.pinned (OpenSpec.ofChange bedSurveySpec)

/-- ITS FALSE NEIGHBOUR: 'it returns false'. Refute it at one input. -/
def bedSurveyWrong : ChangeSpec := { name := "bedSurvey", fn := fun _ => fun
  | [d1, d2] => { results := [.lit (.bool false)], args := [d1, d2] }
  | _ => none }
def BedSurveyWrongFalsely : Prop := bedSurveyRow.holds Try.pinned (OpenSpec.ofChange bedSurveyWrong)

/-- 'laurellaw04.BedPlanned': WHATEVER THE INPUT: true; the input reads as it did. -/
def bedPlannedSpec : ChangeSpec := { name := "bedPlanned", fn := fun _ => fun
  | [d1, d2, d3] => { results := [.lit (.bool true)], args := [d1, d2, d3] }
  | _ => none }
def bedPlannedRow : OpenClaim := { program := "ytfpggfdojnnaiaa", sum := "2497fbc1451d9d413cdf02e6a2ccb3458099ee686531d5f7567f5e08392d480f", func := "laurel/laurellaw04.BedPlanned", spec := "bedPlanned", inPlace := ["slices.overlaps[int]"], unfollowed := true, recurses := true, apart := false }
def BedPlannedSaid : Prop := bedPlannedRow.holds Try.pinned (OpenSpec.ofChange bedPlannedSpec)

/-- ITS FALSE NEIGHBOUR: 'it returns false'. Refute it at one input. -/
def bedPlannedWrong : ChangeSpec := { name := "bedPlanned", fn := fun _ => fun
  | [d1, d2, d3] => { results := [.lit (.bool false)], args := [d1, d2, d3] }
  | _ => none }
def BedPlannedWrongFalsely : Prop := bedPlannedRow.holds Try.pinned (OpenSpec.ofChange bedPlannedWrong)

/-- 'laurellaw04.BedKept': WHATEVER THE INPUT: true; the input reads as it did. -/
def bedKeptSpec : ChangeSpec := { name := "bedKept", fn := fun _ => fun
  | [d1, d2, d3] => { results := [.lit (.bool true)], args := [d1, d2, d3] }
  | _ => none }
def bedKeptRow : OpenClaim := { program := "ytfpggfdojnnaiaa", sum := "2497fbc1451d9d413cdf02e6a2ccb3458099ee686531d5f7567f5e08392d480f", func := "laurel/laurellaw04.BedKept", spec := "bedKept", inPlace := ["slices.overlaps[int]"], unfollowed := true, recurses := true, apart := false }
def BedKeptSaid : Prop := bedKeptRow.holds Try.pinned (OpenSpec.ofChange bedKeptSpec)

/-- ITS FALSE NEIGHBOUR: 'it returns false'. Refute it at one input. -/
def bedKeptWrong : ChangeSpec := { name := "bedKept", fn := fun _ => fun
  | [d1, d2, d3] => { results := [.lit (.bool false)], args := [d1, d2, d3] }
  | _ => none }
def BedKeptWrongFalsely : Prop := bedKeptRow.holds Try.pinned (OpenSpec.ofChange bedKeptWrong)

/-- 'laurellaw06.SackFew': WHATEVER THE INPUT: true; the input reads as it did. -/
def sackFewSpec : ChangeSpec := { name := "sackFew", fn := fun _ => fun
  | [d1, d2, d3] => { results := [.lit (.bool true)], args := [d1, d2, d3] }
  | _ => none }
def sackFewRow : OpenClaim := { program := "ytfpggfdojnnaiaa", sum := "2497fbc1451d9d413cdf02e6a2ccb3458099ee686531d5f7567f5e08392d480f", func := "laurel/laurellaw06.SackFew", spec := "sackFew", inPlace := ["slices.overlaps[int]"], unfollowed := true, recurses := true, apart := false }
def SackFewSaid : Prop := sackFewRow.holds Try.pinned (OpenSpec.ofChange sackFewSpec)

/-- ITS FALSE NEIGHBOUR: 'it returns false'. Refute it at one input. -/
def sackFewWrong : ChangeSpec := { name := "sackFew", fn := fun _ => fun
  | [d1, d2, d3] => { results := [.lit (.bool false)], args := [d1, d2, d3] }
  | _ => none }
def SackFewWrongFalsely : Prop := sackFewRow.holds Try.pinned (OpenSpec.ofChange sackFewWrong)

/- THE SECOND FORM. 'bulk': how many values and letters a reading holds, each counted each time it is reached (what is shared counts as often as it is met; a slice's spare places count too). A statement '..UptoSaid' is the law's where the arguments, and the package variables that the reading takes, are together of bulk at most 1048576: NARROWER than '..Said'. Prove '..Said' where nothing that the law and all that it calls make is longer than what came in: it says more and counts as full. Else prove '..UptoSaid'. A law counts once. -/
mutual
def uptoBulk {H : Type} : DataW H → Nat
  | .lit (.string bytes) => bytes.length + 1
  | .lit _ => 1
  | .nil => 1
  | .ptr d => uptoBulk d + 1
  | .slice elems spare => uptoBulkAll elems + uptoBulkAll spare + 1
  | .agg parts => uptoBulkAll parts + 1
  | .iface _ d => uptoBulk d + 1
  | .map entries => uptoBulkEntries entries + 1
  | .held _ => 1
def uptoBulkAll {H : Type} : List (DataW H) → Nat
  | [] => 0
  | d :: r => uptoBulk d + uptoBulkAll r
def uptoBulkEntries {H : Type} : List (Lit × DataW H) → Nat
  | [] => 0
  | x :: r => uptoBulkEntry x + uptoBulkEntries r
def uptoBulkEntry {H : Type} : Lit × DataW H → Nat
  | (.string bytes, d) => bytes.length + uptoBulk d + 1
  | (_, d) => uptoBulk d + 1
 end
def uptoSmall : (H : Type) → List (DataW H) → Bool := fun _ ds => decide (uptoBulkAll ds ≤ 1048576)
def OpenSpec.upto (s : _root_.Go.ChangeSpec) : _root_.Go.OpenSpec := { _root_.Go.OpenSpec.ofChange s with cond := some uptoSmall }

/-- 'laurellaw04.BedEven', WHERE WHAT IT READS IS OF BULK AT MOST 1048576: true; the input reads as it did. -/
def bedEvenUptoRow : OpenClaim := { program := "ytfpggfdojnnaiaa", sum := "2497fbc1451d9d413cdf02e6a2ccb3458099ee686531d5f7567f5e08392d480f", func := "laurel/laurellaw04.BedEven", spec := "bedEven", inPlace := ["slices.overlaps[int]"], unfollowed := true, recurses := true, apart := false, narrowed := true }
def BedEvenUptoSaid : Prop := bedEvenUptoRow.holds Try.pinned (OpenSpec.upto bedEvenSpec)

/-- 'laurellaw04.BedKeeps', WHERE WHAT IT READS IS OF BULK AT MOST 1048576: true; the input reads as it did. -/
def bedKeepsUptoRow : OpenClaim := { program := "ytfpggfdojnnaiaa", sum := "2497fbc1451d9d413cdf02e6a2ccb3458099ee686531d5f7567f5e08392d480f", func := "laurel/laurellaw04.BedKeeps", spec := "bedKeeps", inPlace := ["slices.overlaps[int]"], unfollowed := true, recurses := true, apart := false, narrowed := true }
def BedKeepsUptoSaid : Prop := bedKeepsUptoRow.holds Try.pinned (OpenSpec.upto bedKeepsSpec)

/-- 'laurellaw04.BedMonths', WHERE WHAT IT READS IS OF BULK AT MOST 1048576: true; the input reads as it did. -/
def bedMonthsUptoRow : OpenClaim := { program := "ytfpggfdojnnaiaa", sum := "2497fbc1451d9d413cdf02e6a2ccb3458099ee686531d5f7567f5e08392d480f", func := "laurel/laurellaw04.BedMonths", spec := "bedMonths", inPlace := ["slices.overlaps[int]"], unfollowed := true, recurses := true, apart := false, narrowed := true }
def BedMonthsUptoSaid : Prop := bedMonthsUptoRow.holds Try.pinned (OpenSpec.upto bedMonthsSpec)

/-- 'laurellaw04.BedFloored', WHERE WHAT IT READS IS OF BULK AT MOST 1048576: true; the input reads as it did. -/
def bedFlooredUptoRow : OpenClaim := { program := "ytfpggfdojnnaiaa", sum := "2497fbc1451d9d413cdf02e6a2ccb3458099ee686531d5f7567f5e08392d480f", func := "laurel/laurellaw04.BedFloored", spec := "bedFloored", inPlace := ["slices.overlaps[int]"], unfollowed := true, recurses := true, apart := false, narrowed := true }
def BedFlooredUptoSaid : Prop := bedFlooredUptoRow.holds Try.pinned (OpenSpec.upto bedFlooredSpec)

/-- 'laurellaw04.BedMost', WHERE WHAT IT READS IS OF BULK AT MOST 1048576: true; the input reads as it did. -/
def bedMostUptoRow : OpenClaim := { program := "ytfpggfdojnnaiaa", sum := "2497fbc1451d9d413cdf02e6a2ccb3458099ee686531d5f7567f5e08392d480f", func := "laurel/laurellaw04.BedMost", spec := "bedMost", inPlace := ["slices.overlaps[int]"], unfollowed := true, recurses := true, apart := false, narrowed := true }
def BedMostUptoSaid : Prop := bedMostUptoRow.holds Try.pinned (OpenSpec.upto bedMostSpec)

/-- 'laurellaw04.BedRuled', WHERE WHAT IT READS IS OF BULK AT MOST 1048576: true; the input reads as it did. -/
def bedRuledUptoRow : OpenClaim := { program := "ytfpggfdojnnaiaa", sum := "2497fbc1451d9d413cdf02e6a2ccb3458099ee686531d5f7567f5e08392d480f", func := "laurel/laurellaw04.BedRuled", spec := "bedRuled", inPlace := ["slices.overlaps[int]"], unfollowed := true, recurses := true, apart := false, narrowed := true }
def BedRuledUptoSaid : Prop := bedRuledUptoRow.holds Try.pinned (OpenSpec.upto bedRuledSpec)

/-- 'laurellaw04.BedMore', WHERE WHAT IT READS IS OF BULK AT MOST 1048576: true; the input reads as it did. -/
def bedMoreUptoRow : OpenClaim := { program := "ytfpggfdojnnaiaa", sum := "2497fbc1451d9d413cdf02e6a2ccb3458099ee686531d5f7567f5e08392d480f", func := "laurel/laurellaw04.BedMore", spec := "bedMore", inPlace := ["slices.overlaps[int]"], unfollowed := true, recurses := true, apart := false, narrowed := true }
def BedMoreUptoSaid : Prop := bedMoreUptoRow.holds Try.pinned (OpenSpec.upto bedMoreSpec)

/-- 'laurellaw04.BedCourses', WHERE WHAT IT READS IS OF BULK AT MOST 1048576: true; the input reads as it did. -/
def bedCoursesUptoRow : OpenClaim := { program := "ytfpggfdojnnaiaa", sum := "2497fbc1451d9d413cdf02e6a2ccb3458099ee686531d5f7567f5e08392d480f", func := "laurel/laurellaw04.BedCourses", spec := "bedCourses", inPlace := ["slices.overlaps[int]"], unfollowed := true, recurses := true, apart := false, narrowed := true }
def BedCoursesUptoSaid : Prop := bedCoursesUptoRow.holds Try.pinned (OpenSpec.upto bedCoursesSpec)

/-- 'laurellaw04.BedCourse', WHERE WHAT IT READS IS OF BULK AT MOST 1048576: true; the input reads as it did. -/
def bedCourseUptoRow : OpenClaim := { program := "ytfpggfdojnnaiaa", sum := "2497fbc1451d9d413cdf02e6a2ccb3458099ee686531d5f7567f5e08392d480f", func := "laurel/laurellaw04.BedCourse", spec := "bedCourse", inPlace := ["slices.overlaps[int]"], unfollowed := true, recurses := true, apart := false, narrowed := true }
def BedCourseUptoSaid : Prop := bedCourseUptoRow.holds Try.pinned (OpenSpec.upto bedCourseSpec)

/-- 'laurellaw04.BedClash', WHERE WHAT IT READS IS OF BULK AT MOST 1048576: true; the input reads as it did. -/
def bedClashUptoRow : OpenClaim := { program := "ytfpggfdojnnaiaa", sum := "2497fbc1451d9d413cdf02e6a2ccb3458099ee686531d5f7567f5e08392d480f", func := "laurel/laurellaw04.BedClash", spec := "bedClash", inPlace := ["slices.overlaps[int]"], unfollowed := true, recurses := true, apart := false, narrowed := true }
def BedClashUptoSaid : Prop := bedClashUptoRow.holds Try.pinned (OpenSpec.upto bedClashSpec)

/-- 'laurellaw04.BedCan', WHERE WHAT IT READS IS OF BULK AT MOST 1048576: true; the input reads as it did. -/
def bedCanUptoRow : OpenClaim := { program := "ytfpggfdojnnaiaa", sum := "2497fbc1451d9d413cdf02e6a2ccb3458099ee686531d5f7567f5e08392d480f", func := "laurel/laurellaw04.BedCan", spec := "bedCan", inPlace := ["slices.overlaps[int]"], unfollowed := true, recurses := true, apart := false, narrowed := true }
def BedCanUptoSaid : Prop := bedCanUptoRow.holds Try.pinned (OpenSpec.upto bedCanSpec)

/-- 'laurellaw04.BedFloors', WHERE WHAT IT READS IS OF BULK AT MOST 1048576: true; the input reads as it did. -/
def bedFloorsUptoRow : OpenClaim := { program := "ytfpggfdojnnaiaa", sum := "2497fbc1451d9d413cdf02e6a2ccb3458099ee686531d5f7567f5e08392d480f", func := "laurel/laurellaw04.BedFloors", spec := "bedFloors", inPlace := ["slices.overlaps[int]"], unfollowed := true, recurses := true, apart := false, narrowed := true }
def BedFloorsUptoSaid : Prop := bedFloorsUptoRow.holds Try.pinned (OpenSpec.upto bedFloorsSpec)

/-- 'laurellaw04.BedSurvey', WHERE WHAT IT READS IS OF BULK AT MOST 1048576: true; the input reads as it did. -/
def bedSurveyUptoRow : OpenClaim := { program := "ytfpggfdojnnaiaa", sum := "2497fbc1451d9d413cdf02e6a2ccb3458099ee686531d5f7567f5e08392d480f", func := "laurel/laurellaw04.BedSurvey", spec := "bedSurvey", inPlace := ["slices.overlaps[int]"], unfollowed := true, recurses := true, apart := false, narrowed := true }
def BedSurveyUptoSaid : Prop := bedSurveyUptoRow.holds Try.pinned (OpenSpec.upto bedSurveySpec)

/-- 'laurellaw04.BedPlanned', WHERE WHAT IT READS IS OF BULK AT MOST 1048576: true; the input reads as it did. -/
def bedPlannedUptoRow : OpenClaim := { program := "ytfpggfdojnnaiaa", sum := "2497fbc1451d9d413cdf02e6a2ccb3458099ee686531d5f7567f5e08392d480f", func := "laurel/laurellaw04.BedPlanned", spec := "bedPlanned", inPlace := ["slices.overlaps[int]"], unfollowed := true, recurses := true, apart := false, narrowed := true }
def BedPlannedUptoSaid : Prop := bedPlannedUptoRow.holds Try.pinned (OpenSpec.upto bedPlannedSpec)

/-- 'laurellaw04.BedKept', WHERE WHAT IT READS IS OF BULK AT MOST 1048576: true; the input reads as it did. -/
def bedKeptUptoRow : OpenClaim := { program := "ytfpggfdojnnaiaa", sum := "2497fbc1451d9d413cdf02e6a2ccb3458099ee686531d5f7567f5e08392d480f", func := "laurel/laurellaw04.BedKept", spec := "bedKept", inPlace := ["slices.overlaps[int]"], unfollowed := true, recurses := true, apart := false, narrowed := true }
def BedKeptUptoSaid : Prop := bedKeptUptoRow.holds Try.pinned (OpenSpec.upto bedKeptSpec)

/-- 'laurellaw06.SackFew', WHERE WHAT IT READS IS OF BULK AT MOST 1048576: true; the input reads as it did. -/
def sackFewUptoRow : OpenClaim := { program := "ytfpggfdojnnaiaa", sum := "2497fbc1451d9d413cdf02e6a2ccb3458099ee686531d5f7567f5e08392d480f", func := "laurel/laurellaw06.SackFew", spec := "sackFew", inPlace := ["slices.overlaps[int]"], unfollowed := true, recurses := true, apart := false, narrowed := true }
def SackFewUptoSaid : Prop := sackFewUptoRow.holds Try.pinned (OpenSpec.upto sackFewSpec)

end Rows
end Go.Proofs.Ytfpggfdojnnaiaa
