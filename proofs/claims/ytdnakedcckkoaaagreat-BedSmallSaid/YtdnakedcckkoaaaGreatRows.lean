/-
  No cell of these rows narrows 'for every input' (looked for: loops, veiled, ifaces, maps, wideKeys, modest, calm, conditions, laid).
  DERIVED. THE GIVEN ROWS OF THIS SEAT. 2 by the template 'for every input the law returns true; each argument reads behind the call as it read before'; 0 by the template 'total and deterministic' (their statements: YtdnakedcckkoaaaGreatTotals.lean).
  GIVEN WITH THE SEED: the statements are not yours to turn. If you find one false, say at which input.
  Laid BY PROGRAM, IN A SANDBOX (cutbox-rows.mjs): the forced cells as the released guide's own fill.sh prints them over the translation 6eab2658df24b696… (all of the seat's roots in one cut). By AI agents, Wed Nov 11 2026. No macro, syntax, notation, axiom, sorry.
-/
import Derived.Test.YtdnakedcckkoaaaGreatChecked
import GoSem.Claim
import GoSem.ClaimJoined
import GoSem.ClaimMapViews
import Derived.JoinedTies
import Derived.KernelRfl
namespace Go.Proofs.YtdnakedcckkoaaaGreat
/- THE CELL 'sum', in the pinned program and in every row, IS THE sha256 OF THE DUMP (.gsa) THAT YtdnakedcckkoaaaGreatProg.lean LOADS. Nothing in Lean hashes anything: it is a label: what it is worth is what the hold of that sum in a sandbox is worth. -/
noncomputable def Tryz.pinned : Pinned := { name := "ytdnakedcckkoaaagreat", sum := "6eab2658df24b696f953a9467ca3f69eb8c77e3dfe17d0ed9cf9819890a258d1", checked := Tryz.checked }
namespace Rows
def none {H : Type} : Left H := { results := [], args := [] }

/-- 'laurellaw02.FordSmall': WHATEVER THE INPUT: true; the input reads as it did. -/
def fordSmallSpec : ChangeSpec := { name := "fordSmall", fn := fun _ => fun
  | [] => { results := [.lit (.bool true)], args := [] }
  | _ => none }
def fordSmallRow : OpenClaim := { program := "ytdnakedcckkoaaagreat", sum := "6eab2658df24b696f953a9467ca3f69eb8c77e3dfe17d0ed9cf9819890a258d1", func := "laurel/laurellaw02.FordSmall", spec := "fordSmall", unfollowed := true, recurses := true, apart := false }
def FordSmallSaid : Prop := fordSmallRow.holds Tryz.pinned (OpenSpec.ofChange fordSmallSpec)

/-- ITS FALSE NEIGHBOUR: 'it returns false'. Refute it at one input. -/
def fordSmallWrong : ChangeSpec := { name := "fordSmall", fn := fun _ => fun
  | [] => { results := [.lit (.bool false)], args := [] }
  | _ => none }
def FordSmallWrongFalsely : Prop := fordSmallRow.holds Tryz.pinned (OpenSpec.ofChange fordSmallWrong)

/-- 'laurellaw04.BedSmall': WHATEVER THE INPUT: true; the input reads as it did. -/
def bedSmallSpec : ChangeSpec := { name := "bedSmall", fn := fun _ => fun
  | [] => { results := [.lit (.bool true)], args := [] }
  | _ => none }
def bedSmallRow : OpenClaim := { program := "ytdnakedcckkoaaagreat", sum := "6eab2658df24b696f953a9467ca3f69eb8c77e3dfe17d0ed9cf9819890a258d1", func := "laurel/laurellaw04.BedSmall", spec := "bedSmall", inPlace := ["slices.overlaps[int]"], unfollowed := true, recurses := true, apart := false }
def BedSmallSaid : Prop := bedSmallRow.holds Tryz.pinned (OpenSpec.ofChange bedSmallSpec)

/-- ITS FALSE NEIGHBOUR: 'it returns false'. Refute it at one input. -/
def bedSmallWrong : ChangeSpec := { name := "bedSmall", fn := fun _ => fun
  | [] => { results := [.lit (.bool false)], args := [] }
  | _ => none }
def BedSmallWrongFalsely : Prop := bedSmallRow.holds Tryz.pinned (OpenSpec.ofChange bedSmallWrong)

/- THE SECOND FORM. 'bulk': how many values and letters a reading holds, each counted each time it is reached (what is shared counts as often as it is met; a slice's spare places count too). A statement '..UptoSaid' is the law's where the arguments, and the package variables that the reading takes, are together of bulk at most 1048576: NARROWER than '..Said'. Prove '..Said' where nothing that the law and all that it calls make is longer than what came in: it says more and counts as full. Else prove '..UptoSaid'. A law counts once. -/
mutual
def uptoBulk {H : Type} : DataW H → Nat
  | .lit (.string bytes) => bytes.length + 1
  | .lit _ => 1
  | .nil => 1
  | .ptr d => uptoBulk d + 1
  | .slice elems spare => uptoBulkAll elems + uptoBulkAll spare + 1
  | .agg parts => uptoBulkAll parts + 1
  | .iface _ d => uptoBulk d + 1
  | .map entries => uptoBulkEntries entries + 1
  | .held _ => 1
def uptoBulkAll {H : Type} : List (DataW H) → Nat
  | [] => 0
  | d :: r => uptoBulk d + uptoBulkAll r
def uptoBulkEntries {H : Type} : List (Lit × DataW H) → Nat
  | [] => 0
  | x :: r => uptoBulkEntry x + uptoBulkEntries r
def uptoBulkEntry {H : Type} : Lit × DataW H → Nat
  | (.string bytes, d) => bytes.length + uptoBulk d + 1
  | (_, d) => uptoBulk d + 1
 end
def uptoSmall : (H : Type) → List (DataW H) → Bool := fun _ ds => decide (uptoBulkAll ds ≤ 1048576)
def OpenSpec.upto (s : _root_.Go.ChangeSpec) : _root_.Go.OpenSpec := { _root_.Go.OpenSpec.ofChange s with cond := some uptoSmall }

/-- 'laurellaw02.FordSmall', WHERE WHAT IT READS IS OF BULK AT MOST 1048576: true; the input reads as it did. -/
def fordSmallUptoRow : OpenClaim := { program := "ytdnakedcckkoaaagreat", sum := "6eab2658df24b696f953a9467ca3f69eb8c77e3dfe17d0ed9cf9819890a258d1", func := "laurel/laurellaw02.FordSmall", spec := "fordSmall", unfollowed := true, recurses := true, apart := false, narrowed := true }
def FordSmallUptoSaid : Prop := fordSmallUptoRow.holds Tryz.pinned (OpenSpec.upto fordSmallSpec)

/-- 'laurellaw04.BedSmall', WHERE WHAT IT READS IS OF BULK AT MOST 1048576: true; the input reads as it did. -/
def bedSmallUptoRow : OpenClaim := { program := "ytdnakedcckkoaaagreat", sum := "6eab2658df24b696f953a9467ca3f69eb8c77e3dfe17d0ed9cf9819890a258d1", func := "laurel/laurellaw04.BedSmall", spec := "bedSmall", inPlace := ["slices.overlaps[int]"], unfollowed := true, recurses := true, apart := false, narrowed := true }
def BedSmallUptoSaid : Prop := bedSmallUptoRow.holds Tryz.pinned (OpenSpec.upto bedSmallSpec)

end Rows
end Go.Proofs.YtdnakedcckkoaaaGreat
