/-
  No cell of these rows narrows 'for every input' (looked for: loops, veiled, ifaces, maps, wideKeys, modest, calm, conditions, laid).
  DERIVED. THE GIVEN ROWS OF THIS SEAT. 13 by the template 'for every input the law returns true; each argument reads behind the call as it read before'; 0 by the template 'total and deterministic' (their statements: YtlbdomhfcghjdaaTotals.lean).
  GIVEN WITH THE SEED: the statements are not yours to turn. If you find one false, say at which input.
  Laid BY PROGRAM, IN A SANDBOX (cutbox-rows.mjs): the forced cells as the released guide's own fill.sh prints them over the translation 6ab703fe551182ab… (all of the seat's roots in one cut). By AI agents, Wed Nov 11 2026. No macro, syntax, notation, axiom, sorry.
-/
import Derived.Test.YtlbdomhfcghjdaaChecked
import GoSem.Claim
import GoSem.ClaimJoined
import GoSem.ClaimMapViews
import Derived.JoinedTies
import Derived.KernelRfl
namespace Go.Proofs.Ytlbdomhfcghjdaa
/- THE CELL 'sum', in the pinned program and in every row, IS THE sha256 OF THE DUMP (.gsa) THAT YtlbdomhfcghjdaaProg.lean LOADS. Nothing in Lean hashes anything: it is a label: what it is worth is what the hold of that sum in a sandbox is worth. -/
noncomputable def Try.pinned : Pinned := { name := "ytlbdomhfcghjdaa", sum := "6ab703fe551182ab6b63b92231c5a28daa1cf9a050d2d4331ffae41c5f48f6f3", checked := Try.checked }
namespace Rows
def none {H : Type} : Left H := { results := [], args := [] }

/-- 'laurellaw06.SackWashed': WHATEVER THE INPUT: true; the input reads as it did. -/
def sackWashedSpec : ChangeSpec := { name := "sackWashed", fn := fun _ => fun
  | [d1, d2] => { results := [.lit (.bool true)], args := [d1, d2] }
  | _ => none }
def sackWashedRow : OpenClaim := { program := "ytlbdomhfcghjdaa", sum := "6ab703fe551182ab6b63b92231c5a28daa1cf9a050d2d4331ffae41c5f48f6f3", func := "laurel/laurellaw06.SackWashed", spec := "sackWashed", unfollowed := true, recurses := true, apart := false }
def SackWashedSaid : Prop := sackWashedRow.holds Try.pinned (OpenSpec.ofChange sackWashedSpec)

/-- ITS FALSE NEIGHBOUR: 'it returns false'. Refute it at one input. -/
def sackWashedWrong : ChangeSpec := { name := "sackWashed", fn := fun _ => fun
  | [d1, d2] => { results := [.lit (.bool false)], args := [d1, d2] }
  | _ => none }
def SackWashedWrongFalsely : Prop := sackWashedRow.holds Try.pinned (OpenSpec.ofChange sackWashedWrong)

/-- 'laurellaw06.SackPriced': WHATEVER THE INPUT: true; the input reads as it did. -/
def sackPricedSpec : ChangeSpec := { name := "sackPriced", fn := fun _ => fun
  | [d1, d2] => { results := [.lit (.bool true)], args := [d1, d2] }
  | _ => none }
def sackPricedRow : OpenClaim := { program := "ytlbdomhfcghjdaa", sum := "6ab703fe551182ab6b63b92231c5a28daa1cf9a050d2d4331ffae41c5f48f6f3", func := "laurel/laurellaw06.SackPriced", spec := "sackPriced", unfollowed := true, recurses := true, apart := false }
def SackPricedSaid : Prop := sackPricedRow.holds Try.pinned (OpenSpec.ofChange sackPricedSpec)

/-- ITS FALSE NEIGHBOUR: 'it returns false'. Refute it at one input. -/
def sackPricedWrong : ChangeSpec := { name := "sackPriced", fn := fun _ => fun
  | [d1, d2] => { results := [.lit (.bool false)], args := [d1, d2] }
  | _ => none }
def SackPricedWrongFalsely : Prop := sackPricedRow.holds Try.pinned (OpenSpec.ofChange sackPricedWrong)

/-- 'laurellaw06.SackGauge': WHATEVER THE INPUT: true; the input reads as it did. -/
def sackGaugeSpec : ChangeSpec := { name := "sackGauge", fn := fun _ => fun
  | [d1, d2, d3] => { results := [.lit (.bool true)], args := [d1, d2, d3] }
  | _ => none }
def sackGaugeRow : OpenClaim := { program := "ytlbdomhfcghjdaa", sum := "6ab703fe551182ab6b63b92231c5a28daa1cf9a050d2d4331ffae41c5f48f6f3", func := "laurel/laurellaw06.SackGauge", spec := "sackGauge", unfollowed := true, recurses := true, apart := false }
def SackGaugeSaid : Prop := sackGaugeRow.holds Try.pinned (OpenSpec.ofChange sackGaugeSpec)

/-- ITS FALSE NEIGHBOUR: 'it returns false'. Refute it at one input. -/
def sackGaugeWrong : ChangeSpec := { name := "sackGauge", fn := fun _ => fun
  | [d1, d2, d3] => { results := [.lit (.bool false)], args := [d1, d2, d3] }
  | _ => none }
def SackGaugeWrongFalsely : Prop := sackGaugeRow.holds Try.pinned (OpenSpec.ofChange sackGaugeWrong)

/-- 'laurellaw06.SackOwed': WHATEVER THE INPUT: true; the input reads as it did. -/
def sackOwedSpec : ChangeSpec := { name := "sackOwed", fn := fun _ => fun
  | [d1, d2, d3] => { results := [.lit (.bool true)], args := [d1, d2, d3] }
  | _ => none }
def sackOwedRow : OpenClaim := { program := "ytlbdomhfcghjdaa", sum := "6ab703fe551182ab6b63b92231c5a28daa1cf9a050d2d4331ffae41c5f48f6f3", func := "laurel/laurellaw06.SackOwed", spec := "sackOwed", unfollowed := true, recurses := true, apart := false }
def SackOwedSaid : Prop := sackOwedRow.holds Try.pinned (OpenSpec.ofChange sackOwedSpec)

/-- ITS FALSE NEIGHBOUR: 'it returns false'. Refute it at one input. -/
def sackOwedWrong : ChangeSpec := { name := "sackOwed", fn := fun _ => fun
  | [d1, d2, d3] => { results := [.lit (.bool false)], args := [d1, d2, d3] }
  | _ => none }
def SackOwedWrongFalsely : Prop := sackOwedRow.holds Try.pinned (OpenSpec.ofChange sackOwedWrong)

/-- 'laurellaw06.SackSized': WHATEVER THE INPUT: true; the input reads as it did. -/
def sackSizedSpec : ChangeSpec := { name := "sackSized", fn := fun _ => fun
  | [d1, d2, d3] => { results := [.lit (.bool true)], args := [d1, d2, d3] }
  | _ => none }
def sackSizedRow : OpenClaim := { program := "ytlbdomhfcghjdaa", sum := "6ab703fe551182ab6b63b92231c5a28daa1cf9a050d2d4331ffae41c5f48f6f3", func := "laurel/laurellaw06.SackSized", spec := "sackSized", unfollowed := true, recurses := true, apart := false }
def SackSizedSaid : Prop := sackSizedRow.holds Try.pinned (OpenSpec.ofChange sackSizedSpec)

/-- ITS FALSE NEIGHBOUR: 'it returns false'. Refute it at one input. -/
def sackSizedWrong : ChangeSpec := { name := "sackSized", fn := fun _ => fun
  | [d1, d2, d3] => { results := [.lit (.bool false)], args := [d1, d2, d3] }
  | _ => none }
def SackSizedWrongFalsely : Prop := sackSizedRow.holds Try.pinned (OpenSpec.ofChange sackSizedWrong)

/-- 'laurellaw06.SackCarts': WHATEVER THE INPUT: true; the input reads as it did. -/
def sackCartsSpec : ChangeSpec := { name := "sackCarts", fn := fun _ => fun
  | [d1, d2, d3] => { results := [.lit (.bool true)], args := [d1, d2, d3] }
  | _ => none }
def sackCartsRow : OpenClaim := { program := "ytlbdomhfcghjdaa", sum := "6ab703fe551182ab6b63b92231c5a28daa1cf9a050d2d4331ffae41c5f48f6f3", func := "laurel/laurellaw06.SackCarts", spec := "sackCarts", unfollowed := true, recurses := true, apart := false }
def SackCartsSaid : Prop := sackCartsRow.holds Try.pinned (OpenSpec.ofChange sackCartsSpec)

/-- ITS FALSE NEIGHBOUR: 'it returns false'. Refute it at one input. -/
def sackCartsWrong : ChangeSpec := { name := "sackCarts", fn := fun _ => fun
  | [d1, d2, d3] => { results := [.lit (.bool false)], args := [d1, d2, d3] }
  | _ => none }
def SackCartsWrongFalsely : Prop := sackCartsRow.holds Try.pinned (OpenSpec.ofChange sackCartsWrong)

/-- 'laurellaw06.SackLoads': WHATEVER THE INPUT: true; the input reads as it did. -/
def sackLoadsSpec : ChangeSpec := { name := "sackLoads", fn := fun _ => fun
  | [d] => { results := [.lit (.bool true)], args := [d] }
  | _ => none }
def sackLoadsRow : OpenClaim := { program := "ytlbdomhfcghjdaa", sum := "6ab703fe551182ab6b63b92231c5a28daa1cf9a050d2d4331ffae41c5f48f6f3", func := "laurel/laurellaw06.SackLoads", spec := "sackLoads", unfollowed := true, recurses := true, apart := false }
def SackLoadsSaid : Prop := sackLoadsRow.holds Try.pinned (OpenSpec.ofChange sackLoadsSpec)

/-- ITS FALSE NEIGHBOUR: 'it returns false'. Refute it at one input. -/
def sackLoadsWrong : ChangeSpec := { name := "sackLoads", fn := fun _ => fun
  | [d] => { results := [.lit (.bool false)], args := [d] }
  | _ => none }
def SackLoadsWrongFalsely : Prop := sackLoadsRow.holds Try.pinned (OpenSpec.ofChange sackLoadsWrong)

/-- 'laurellaw06.SackPenny': WHATEVER THE INPUT: true; the input reads as it did. -/
def sackPennySpec : ChangeSpec := { name := "sackPenny", fn := fun _ => fun
  | [d1, d2, d3] => { results := [.lit (.bool true)], args := [d1, d2, d3] }
  | _ => none }
def sackPennyRow : OpenClaim := { program := "ytlbdomhfcghjdaa", sum := "6ab703fe551182ab6b63b92231c5a28daa1cf9a050d2d4331ffae41c5f48f6f3", func := "laurel/laurellaw06.SackPenny", spec := "sackPenny", unfollowed := true, recurses := true, apart := false }
def SackPennySaid : Prop := sackPennyRow.holds Try.pinned (OpenSpec.ofChange sackPennySpec)

/-- ITS FALSE NEIGHBOUR: 'it returns false'. Refute it at one input. -/
def sackPennyWrong : ChangeSpec := { name := "sackPenny", fn := fun _ => fun
  | [d1, d2, d3] => { results := [.lit (.bool false)], args := [d1, d2, d3] }
  | _ => none }
def SackPennyWrongFalsely : Prop := sackPennyRow.holds Try.pinned (OpenSpec.ofChange sackPennyWrong)

/-- 'laurellaw06.SackBest': WHATEVER THE INPUT: true; the input reads as it did. -/
def sackBestSpec : ChangeSpec := { name := "sackBest", fn := fun _ => fun
  | [d1, d2] => { results := [.lit (.bool true)], args := [d1, d2] }
  | _ => none }
def sackBestRow : OpenClaim := { program := "ytlbdomhfcghjdaa", sum := "6ab703fe551182ab6b63b92231c5a28daa1cf9a050d2d4331ffae41c5f48f6f3", func := "laurel/laurellaw06.SackBest", spec := "sackBest", unfollowed := true, recurses := true, apart := false }
def SackBestSaid : Prop := sackBestRow.holds Try.pinned (OpenSpec.ofChange sackBestSpec)

/-- ITS FALSE NEIGHBOUR: 'it returns false'. Refute it at one input. -/
def sackBestWrong : ChangeSpec := { name := "sackBest", fn := fun _ => fun
  | [d1, d2] => { results := [.lit (.bool false)], args := [d1, d2] }
  | _ => none }
def SackBestWrongFalsely : Prop := sackBestRow.holds Try.pinned (OpenSpec.ofChange sackBestWrong)

/-- 'laurellaw06.SackPay': WHATEVER THE INPUT: true; the input reads as it did. -/
def sackPaySpec : ChangeSpec := { name := "sackPay", fn := fun _ => fun
  | [d1, d2, d3, d4] => { results := [.lit (.bool true)], args := [d1, d2, d3, d4] }
  | _ => none }
def sackPayRow : OpenClaim := { program := "ytlbdomhfcghjdaa", sum := "6ab703fe551182ab6b63b92231c5a28daa1cf9a050d2d4331ffae41c5f48f6f3", func := "laurel/laurellaw06.SackPay", spec := "sackPay", unfollowed := true, recurses := true, apart := false }
def SackPaySaid : Prop := sackPayRow.holds Try.pinned (OpenSpec.ofChange sackPaySpec)

/-- ITS FALSE NEIGHBOUR: 'it returns false'. Refute it at one input. -/
def sackPayWrong : ChangeSpec := { name := "sackPay", fn := fun _ => fun
  | [d1, d2, d3, d4] => { results := [.lit (.bool false)], args := [d1, d2, d3, d4] }
  | _ => none }
def SackPayWrongFalsely : Prop := sackPayRow.holds Try.pinned (OpenSpec.ofChange sackPayWrong)

/-- 'laurellaw06.SackRaked': WHATEVER THE INPUT: true; the input reads as it did. -/
def sackRakedSpec : ChangeSpec := { name := "sackRaked", fn := fun _ => fun
  | [d1, d2, d3] => { results := [.lit (.bool true)], args := [d1, d2, d3] }
  | _ => none }
def sackRakedRow : OpenClaim := { program := "ytlbdomhfcghjdaa", sum := "6ab703fe551182ab6b63b92231c5a28daa1cf9a050d2d4331ffae41c5f48f6f3", func := "laurel/laurellaw06.SackRaked", spec := "sackRaked", unfollowed := true, recurses := true, apart := false }
def SackRakedSaid : Prop := sackRakedRow.holds Try.pinned (OpenSpec.ofChange sackRakedSpec)

/-- ITS FALSE NEIGHBOUR: 'it returns false'. Refute it at one input. -/
def sackRakedWrong : ChangeSpec := { name := "sackRaked", fn := fun _ => fun
  | [d1, d2, d3] => { results := [.lit (.bool false)], args := [d1, d2, d3] }
  | _ => none }
def SackRakedWrongFalsely : Prop := sackRakedRow.holds Try.pinned (OpenSpec.ofChange sackRakedWrong)

/-- 'laurellaw06.SackBundles': WHATEVER THE INPUT: true; the input reads as it did. -/
def sackBundlesSpec : ChangeSpec := { name := "sackBundles", fn := fun _ => fun
  | [d1, d2] => { results := [.lit (.bool true)], args := [d1, d2] }
  | _ => none }
def sackBundlesRow : OpenClaim := { program := "ytlbdomhfcghjdaa", sum := "6ab703fe551182ab6b63b92231c5a28daa1cf9a050d2d4331ffae41c5f48f6f3", func := "laurel/laurellaw06.SackBundles", spec := "sackBundles", inPlace := ["slices.overlaps[int]"], unfollowed := true, recurses := true, apart := false }
def SackBundlesSaid : Prop := sackBundlesRow.holds Try.pinned (OpenSpec.ofChange sackBundlesSpec)

/-- ITS FALSE NEIGHBOUR: 'it returns false'. Refute it at one input. -/
def sackBundlesWrong : ChangeSpec := { name := "sackBundles", fn := fun _ => fun
  | [d1, d2] => { results := [.lit (.bool false)], args := [d1, d2] }
  | _ => none }
def SackBundlesWrongFalsely : Prop := sackBundlesRow.holds Try.pinned (OpenSpec.ofChange sackBundlesWrong)

/-- 'laurellaw06.SackFew': WHATEVER THE INPUT: true; the input reads as it did. -/
def sackFewSpec : ChangeSpec := { name := "sackFew", fn := fun _ => fun
  | [d1, d2, d3] => { results := [.lit (.bool true)], args := [d1, d2, d3] }
  | _ => none }
def sackFewRow : OpenClaim := { program := "ytlbdomhfcghjdaa", sum := "6ab703fe551182ab6b63b92231c5a28daa1cf9a050d2d4331ffae41c5f48f6f3", func := "laurel/laurellaw06.SackFew", spec := "sackFew", inPlace := ["slices.overlaps[int]"], unfollowed := true, recurses := true, apart := false }
def SackFewSaid : Prop := sackFewRow.holds Try.pinned (OpenSpec.ofChange sackFewSpec)

/-- ITS FALSE NEIGHBOUR: 'it returns false'. Refute it at one input. -/
def sackFewWrong : ChangeSpec := { name := "sackFew", fn := fun _ => fun
  | [d1, d2, d3] => { results := [.lit (.bool false)], args := [d1, d2, d3] }
  | _ => none }
def SackFewWrongFalsely : Prop := sackFewRow.holds Try.pinned (OpenSpec.ofChange sackFewWrong)

/- THE SECOND FORM. 'bulk': how many values and letters a reading holds, each counted each time it is reached (what is shared counts as often as it is met; a slice's spare places count too). A statement '..UptoSaid' is the law's where the arguments, and the package variables that the reading takes, are together of bulk at most 1048576: NARROWER than '..Said'. Prove '..Said' where nothing that the law and all that it calls make is longer than what came in: it says more and counts as full. Else prove '..UptoSaid'. A law counts once. -/
mutual
def uptoBulk {H : Type} : DataW H → Nat
  | .lit (.string bytes) => bytes.length + 1
  | .lit _ => 1
  | .nil => 1
  | .ptr d => uptoBulk d + 1
  | .slice elems spare => uptoBulkAll elems + uptoBulkAll spare + 1
  | .agg parts => uptoBulkAll parts + 1
  | .iface _ d => uptoBulk d + 1
  | .map entries => uptoBulkEntries entries + 1
  | .held _ => 1
def uptoBulkAll {H : Type} : List (DataW H) → Nat
  | [] => 0
  | d :: r => uptoBulk d + uptoBulkAll r
def uptoBulkEntries {H : Type} : List (Lit × DataW H) → Nat
  | [] => 0
  | x :: r => uptoBulkEntry x + uptoBulkEntries r
def uptoBulkEntry {H : Type} : Lit × DataW H → Nat
  | (.string bytes, d) => bytes.length + uptoBulk d + 1
  | (_, d) => uptoBulk d + 1
 end
def uptoSmall : (H : Type) → List (DataW H) → Bool := fun _ ds => decide (uptoBulkAll ds ≤ 1048576)
def OpenSpec.upto (s : _root_.Go.ChangeSpec) : _root_.Go.OpenSpec := { _root_.Go.OpenSpec.ofChange s with cond := some uptoSmall }

/-- 'laurellaw06.SackWashed', WHERE WHAT IT READS IS OF BULK AT MOST 1048576: true; the input reads as it did. -/
def sackWashedUptoRow : OpenClaim := { program := "ytlbdomhfcghjdaa", sum := "6ab703fe551182ab6b63b92231c5a28daa1cf9a050d2d4331ffae41c5f48f6f3", func := "laurel/laurellaw06.SackWashed", spec := "sackWashed", unfollowed := true, recurses := true, apart := false, narrowed := true }
def SackWashedUptoSaid : Prop := sackWashedUptoRow.holds Try.pinned (OpenSpec.upto sackWashedSpec)

/-- 'laurellaw06.SackPriced', WHERE WHAT IT READS IS OF BULK AT MOST 1048576: true; the input reads as it did. -/
def sackPricedUptoRow : OpenClaim := { program := "ytlbdomhfcghjdaa", sum := "6ab703fe551182ab6b63b92231c5a28daa1cf9a050d2d4331ffae41c5f48f6f3", func := "laurel/laurellaw06.SackPriced", spec := "sackPriced", unfollowed := true, recurses := true, apart := false, narrowed := true }
def SackPricedUptoSaid : Prop := sackPricedUptoRow.holds Try.pinned (OpenSpec.upto sackPricedSpec)

/-- 'laurellaw06.SackGauge', WHERE WHAT IT READS IS OF BULK AT MOST 1048576: true; the input reads as it did. -/
def sackGaugeUptoRow : OpenClaim := { program := "ytlbdomhfcghjdaa", sum := "6ab703fe551182ab6b63b92231c5a28daa1cf9a050d2d4331ffae41c5f48f6f3", func := "laurel/laurellaw06.SackGauge", spec := "sackGauge", unfollowed := true, recurses := true, apart := false, narrowed := true }
def SackGaugeUptoSaid : Prop := sackGaugeUptoRow.holds Try.pinned (OpenSpec.upto sackGaugeSpec)

/-- 'laurellaw06.SackOwed', WHERE WHAT IT READS IS OF BULK AT MOST 1048576: true; the input reads as it did. -/
def sackOwedUptoRow : OpenClaim := { program := "ytlbdomhfcghjdaa", sum := "6ab703fe551182ab6b63b92231c5a28daa1cf9a050d2d4331ffae41c5f48f6f3", func := "laurel/laurellaw06.SackOwed", spec := "sackOwed", unfollowed := true, recurses := true, apart := false, narrowed := true }
def SackOwedUptoSaid : Prop := sackOwedUptoRow.holds Try.pinned (OpenSpec.upto sackOwedSpec)

/-- 'laurellaw06.SackSized', WHERE WHAT IT READS IS OF BULK AT MOST 1048576: true; the input reads as it did. -/
def sackSizedUptoRow : OpenClaim := { program := "ytlbdomhfcghjdaa", sum := "6ab703fe551182ab6b63b92231c5a28daa1cf9a050d2d4331ffae41c5f48f6f3", func := "laurel/laurellaw06.SackSized", spec := "sackSized", unfollowed := true, recurses := true, apart := false, narrowed := true }
def SackSizedUptoSaid : Prop := sackSizedUptoRow.holds Try.pinned (OpenSpec.upto sackSizedSpec)

/-- 'laurellaw06.SackCarts', WHERE WHAT IT READS IS OF BULK AT MOST 1048576: true; the input reads as it did. -/
def sackCartsUptoRow : OpenClaim := { program := "ytlbdomhfcghjdaa", sum := "6ab703fe551182ab6b63b92231c5a28daa1cf9a050d2d4331ffae41c5f48f6f3", func := "laurel/laurellaw06.SackCarts", spec := "sackCarts", unfollowed := true, recurses := true, apart := false, narrowed := true }
def SackCartsUptoSaid : Prop := sackCartsUptoRow.holds Try.pinned (OpenSpec.upto sackCartsSpec)

/-- 'laurellaw06.SackLoads', WHERE WHAT IT READS IS OF BULK AT MOST 1048576: true; the input reads as it did. -/
def sackLoadsUptoRow : OpenClaim := { program := "ytlbdomhfcghjdaa", sum := "6ab703fe551182ab6b63b92231c5a28daa1cf9a050d2d4331ffae41c5f48f6f3", func := "laurel/laurellaw06.SackLoads", spec := "sackLoads", unfollowed := true, recurses := true, apart := false, narrowed := true }
def SackLoadsUptoSaid : Prop := sackLoadsUptoRow.holds Try.pinned (OpenSpec.upto sackLoadsSpec)

/-- 'laurellaw06.SackPenny', WHERE WHAT IT READS IS OF BULK AT MOST 1048576: true; the input reads as it did. -/
def sackPennyUptoRow : OpenClaim := { program := "ytlbdomhfcghjdaa", sum := "6ab703fe551182ab6b63b92231c5a28daa1cf9a050d2d4331ffae41c5f48f6f3", func := "laurel/laurellaw06.SackPenny", spec := "sackPenny", unfollowed := true, recurses := true, apart := false, narrowed := true }
def SackPennyUptoSaid : Prop := sackPennyUptoRow.holds Try.pinned (OpenSpec.upto sackPennySpec)

/-- 'laurellaw06.SackBest', WHERE WHAT IT READS IS OF BULK AT MOST 1048576: true; the input reads as it did. -/
def sackBestUptoRow : OpenClaim := { program := "ytlbdomhfcghjdaa", sum := "6ab703fe551182ab6b63b92231c5a28daa1cf9a050d2d4331ffae41c5f48f6f3", func := "laurel/laurellaw06.SackBest", spec := "sackBest", unfollowed := true, recurses := true, apart := false, narrowed := true }
def SackBestUptoSaid : Prop := sackBestUptoRow.holds Try.pinned (OpenSpec.upto sackBestSpec)

/-- 'laurellaw06.SackPay', WHERE WHAT IT READS IS OF BULK AT MOST 1048576: true; the input reads as it did. -/
def sackPayUptoRow : OpenClaim := { program := "ytlbdomhfcghjdaa", sum := "6ab703fe551182ab6b63b92231c5a28daa1cf9a050d2d4331ffae41c5f48f6f3", func := "laurel/laurellaw06.SackPay", spec := "sackPay", unfollowed := true, recurses := true, apart := false, narrowed := true }
def SackPayUptoSaid : Prop := sackPayUptoRow.holds Try.pinned (OpenSpec.upto sackPaySpec)

/-- 'laurellaw06.SackRaked', WHERE WHAT IT READS IS OF BULK AT MOST 1048576: true; the input reads as it did. -/
def sackRakedUptoRow : OpenClaim := { program := "ytlbdomhfcghjdaa", sum := "6ab703fe551182ab6b63b92231c5a28daa1cf9a050d2d4331ffae41c5f48f6f3", func := "laurel/laurellaw06.SackRaked", spec := "sackRaked", unfollowed := true, recurses := true, apart := false, narrowed := true }
def SackRakedUptoSaid : Prop := sackRakedUptoRow.holds Try.pinned (OpenSpec.upto sackRakedSpec)

/-- 'laurellaw06.SackBundles', WHERE WHAT IT READS IS OF BULK AT MOST 1048576: true; the input reads as it did. -/
def sackBundlesUptoRow : OpenClaim := { program := "ytlbdomhfcghjdaa", sum := "6ab703fe551182ab6b63b92231c5a28daa1cf9a050d2d4331ffae41c5f48f6f3", func := "laurel/laurellaw06.SackBundles", spec := "sackBundles", inPlace := ["slices.overlaps[int]"], unfollowed := true, recurses := true, apart := false, narrowed := true }
def SackBundlesUptoSaid : Prop := sackBundlesUptoRow.holds Try.pinned (OpenSpec.upto sackBundlesSpec)

/-- 'laurellaw06.SackFew', WHERE WHAT IT READS IS OF BULK AT MOST 1048576: true; the input reads as it did. -/
def sackFewUptoRow : OpenClaim := { program := "ytlbdomhfcghjdaa", sum := "6ab703fe551182ab6b63b92231c5a28daa1cf9a050d2d4331ffae41c5f48f6f3", func := "laurel/laurellaw06.SackFew", spec := "sackFew", inPlace := ["slices.overlaps[int]"], unfollowed := true, recurses := true, apart := false, narrowed := true }
def SackFewUptoSaid : Prop := sackFewUptoRow.holds Try.pinned (OpenSpec.upto sackFewSpec)

end Rows
end Go.Proofs.Ytlbdomhfcghjdaa
