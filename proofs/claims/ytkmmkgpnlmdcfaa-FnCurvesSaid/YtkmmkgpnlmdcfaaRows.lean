/-
  No cell of these rows narrows 'for every input' (looked for: loops, veiled, ifaces, maps, wideKeys, modest, calm, conditions, laid).
  DERIVED. THE GIVEN ROWS OF THIS SEAT. 17 by the template 'for every input the law returns true; each argument reads behind the call as it read before'; 0 by the template 'total and deterministic' (their statements: YtkmmkgpnlmdcfaaTotals.lean).
  GIVEN WITH THE SEED: the statements are not yours to turn. If you find one false, say at which input.
  Laid BY PROGRAM, IN A SANDBOX (cutbox-rows.mjs): the forced cells as the released guide's own fill.sh prints them over the translation de8565f1033518f2… (all of the seat's roots in one cut). By AI agents, Wed Nov 11 2026. No macro, syntax, notation, axiom, sorry.
-/
import Derived.Test.YtkmmkgpnlmdcfaaChecked
import GoSem.Claim
import GoSem.ClaimJoined
import GoSem.ClaimMapViews
import Derived.JoinedTies
import Derived.KernelRfl
namespace Go.Proofs.Ytkmmkgpnlmdcfaa
/- THE CELL 'sum', in the pinned program and in every row, IS THE sha256 OF THE DUMP (.gsa) THAT YtkmmkgpnlmdcfaaProg.lean LOADS. Nothing in Lean hashes anything: it is a label: what it is worth is what the hold of that sum in a sandbox is worth. -/
noncomputable def Try.pinned : Pinned := { name := "ytkmmkgpnlmdcfaa", sum := "de8565f1033518f2b1c2fbc5f59c5f6be6bb90bcf52727370b70c785a3ede996", checked := Try.checked }
namespace Rows
def none {H : Type} : Left H := { results := [], args := [] }

/-- 'laws.FnExactTableOf': WHATEVER THE INPUT: true; the input reads as it did. -/
def fnExactTableOfSpec : ChangeSpec := { name := "fnExactTableOf", fn := fun _ => fun
  | [d] => { results := [.lit (.bool true)], args := [d] }
  | _ => none }
def fnExactTableOfRow : OpenClaim := { program := "ytkmmkgpnlmdcfaa", sum := "de8565f1033518f2b1c2fbc5f59c5f6be6bb90bcf52727370b70c785a3ede996", func := "loop.example/g00910/laws.FnExactTableOf", spec := "fnExactTableOf", recurses := true, apart := false }
def FnExactTableOfSaid : Prop := fnExactTableOfRow.holds Try.pinned (OpenSpec.ofChange fnExactTableOfSpec)

/-- ITS FALSE NEIGHBOUR: 'it returns false'. Refute it at one input. -/
def fnExactTableOfWrong : ChangeSpec := { name := "fnExactTableOf", fn := fun _ => fun
  | [d] => { results := [.lit (.bool false)], args := [d] }
  | _ => none }
def FnExactTableOfWrongFalsely : Prop := fnExactTableOfRow.holds Try.pinned (OpenSpec.ofChange fnExactTableOfWrong)

/-- 'laws.FnExactPureEquilibrium': WHATEVER THE INPUT: true; the input reads as it did. -/
def fnExactPureEquilibriumSpec : ChangeSpec := { name := "fnExactPureEquilibrium", fn := fun _ => fun
  | [d] => { results := [.lit (.bool true)], args := [d] }
  | _ => none }
def fnExactPureEquilibriumRow : OpenClaim := { program := "ytkmmkgpnlmdcfaa", sum := "de8565f1033518f2b1c2fbc5f59c5f6be6bb90bcf52727370b70c785a3ede996", func := "loop.example/g00910/laws.FnExactPureEquilibrium", spec := "fnExactPureEquilibrium", recurses := true, apart := false }
def FnExactPureEquilibriumSaid : Prop := fnExactPureEquilibriumRow.holds Try.pinned (OpenSpec.ofChange fnExactPureEquilibriumSpec)

/-- ITS FALSE NEIGHBOUR: 'it returns false'. Refute it at one input. -/
def fnExactPureEquilibriumWrong : ChangeSpec := { name := "fnExactPureEquilibrium", fn := fun _ => fun
  | [d] => { results := [.lit (.bool false)], args := [d] }
  | _ => none }
def FnExactPureEquilibriumWrongFalsely : Prop := fnExactPureEquilibriumRow.holds Try.pinned (OpenSpec.ofChange fnExactPureEquilibriumWrong)

/-- 'laws.FnExactPureBounds': WHATEVER THE INPUT: true; the input reads as it did. -/
def fnExactPureBoundsSpec : ChangeSpec := { name := "fnExactPureBounds", fn := fun _ => fun
  | [d] => { results := [.lit (.bool true)], args := [d] }
  | _ => none }
def fnExactPureBoundsRow : OpenClaim := { program := "ytkmmkgpnlmdcfaa", sum := "de8565f1033518f2b1c2fbc5f59c5f6be6bb90bcf52727370b70c785a3ede996", func := "loop.example/g00910/laws.FnExactPureBounds", spec := "fnExactPureBounds", recurses := true, apart := false }
def FnExactPureBoundsSaid : Prop := fnExactPureBoundsRow.holds Try.pinned (OpenSpec.ofChange fnExactPureBoundsSpec)

/-- ITS FALSE NEIGHBOUR: 'it returns false'. Refute it at one input. -/
def fnExactPureBoundsWrong : ChangeSpec := { name := "fnExactPureBounds", fn := fun _ => fun
  | [d] => { results := [.lit (.bool false)], args := [d] }
  | _ => none }
def FnExactPureBoundsWrongFalsely : Prop := fnExactPureBoundsRow.holds Try.pinned (OpenSpec.ofChange fnExactPureBoundsWrong)

/-- 'laws.FnExactRegretsOf': WHATEVER THE INPUT: true; the input reads as it did. -/
def fnExactRegretsOfSpec : ChangeSpec := { name := "fnExactRegretsOf", fn := fun _ => fun
  | [d1, d2, d3] => { results := [.lit (.bool true)], args := [d1, d2, d3] }
  | _ => none }
def fnExactRegretsOfRow : OpenClaim := { program := "ytkmmkgpnlmdcfaa", sum := "de8565f1033518f2b1c2fbc5f59c5f6be6bb90bcf52727370b70c785a3ede996", func := "loop.example/g00910/laws.FnExactRegretsOf", spec := "fnExactRegretsOf", recurses := true, apart := false }
def FnExactRegretsOfSaid : Prop := fnExactRegretsOfRow.holds Try.pinned (OpenSpec.ofChange fnExactRegretsOfSpec)

/-- ITS FALSE NEIGHBOUR: 'it returns false'. Refute it at one input. -/
def fnExactRegretsOfWrong : ChangeSpec := { name := "fnExactRegretsOf", fn := fun _ => fun
  | [d1, d2, d3] => { results := [.lit (.bool false)], args := [d1, d2, d3] }
  | _ => none }
def FnExactRegretsOfWrongFalsely : Prop := fnExactRegretsOfRow.holds Try.pinned (OpenSpec.ofChange fnExactRegretsOfWrong)

/-- 'laws.FnExactSumsOf': WHATEVER THE INPUT: true; the input reads as it did. -/
def fnExactSumsOfSpec : ChangeSpec := { name := "fnExactSumsOf", fn := fun _ => fun
  | [d1, d2, d3] => { results := [.lit (.bool true)], args := [d1, d2, d3] }
  | _ => none }
def fnExactSumsOfRow : OpenClaim := { program := "ytkmmkgpnlmdcfaa", sum := "de8565f1033518f2b1c2fbc5f59c5f6be6bb90bcf52727370b70c785a3ede996", func := "loop.example/g00910/laws.FnExactSumsOf", spec := "fnExactSumsOf", recurses := true, apart := false }
def FnExactSumsOfSaid : Prop := fnExactSumsOfRow.holds Try.pinned (OpenSpec.ofChange fnExactSumsOfSpec)

/-- ITS FALSE NEIGHBOUR: 'it returns false'. Refute it at one input. -/
def fnExactSumsOfWrong : ChangeSpec := { name := "fnExactSumsOf", fn := fun _ => fun
  | [d1, d2, d3] => { results := [.lit (.bool false)], args := [d1, d2, d3] }
  | _ => none }
def FnExactSumsOfWrongFalsely : Prop := fnExactSumsOfRow.holds Try.pinned (OpenSpec.ofChange fnExactSumsOfWrong)

/-- 'laws.FnExactCurrentStrategies': WHATEVER THE INPUT: true; the input reads as it did. -/
def fnExactCurrentStrategiesSpec : ChangeSpec := { name := "fnExactCurrentStrategies", fn := fun _ => fun
  | [d1, d2] => { results := [.lit (.bool true)], args := [d1, d2] }
  | _ => none }
def fnExactCurrentStrategiesRow : OpenClaim := { program := "ytkmmkgpnlmdcfaa", sum := "de8565f1033518f2b1c2fbc5f59c5f6be6bb90bcf52727370b70c785a3ede996", func := "loop.example/g00910/laws.FnExactCurrentStrategies", spec := "fnExactCurrentStrategies", recurses := true, apart := false }
def FnExactCurrentStrategiesSaid : Prop := fnExactCurrentStrategiesRow.holds Try.pinned (OpenSpec.ofChange fnExactCurrentStrategiesSpec)

/-- ITS FALSE NEIGHBOUR: 'it returns false'. Refute it at one input. -/
def fnExactCurrentStrategiesWrong : ChangeSpec := { name := "fnExactCurrentStrategies", fn := fun _ => fun
  | [d1, d2] => { results := [.lit (.bool false)], args := [d1, d2] }
  | _ => none }
def FnExactCurrentStrategiesWrongFalsely : Prop := fnExactCurrentStrategiesRow.holds Try.pinned (OpenSpec.ofChange fnExactCurrentStrategiesWrong)

/-- 'laws.FnExactAverageStrategies': WHATEVER THE INPUT: true; the input reads as it did. -/
def fnExactAverageStrategiesSpec : ChangeSpec := { name := "fnExactAverageStrategies", fn := fun _ => fun
  | [d1, d2] => { results := [.lit (.bool true)], args := [d1, d2] }
  | _ => none }
def fnExactAverageStrategiesRow : OpenClaim := { program := "ytkmmkgpnlmdcfaa", sum := "de8565f1033518f2b1c2fbc5f59c5f6be6bb90bcf52727370b70c785a3ede996", func := "loop.example/g00910/laws.FnExactAverageStrategies", spec := "fnExactAverageStrategies", recurses := true, apart := false }
def FnExactAverageStrategiesSaid : Prop := fnExactAverageStrategiesRow.holds Try.pinned (OpenSpec.ofChange fnExactAverageStrategiesSpec)

/-- ITS FALSE NEIGHBOUR: 'it returns false'. Refute it at one input. -/
def fnExactAverageStrategiesWrong : ChangeSpec := { name := "fnExactAverageStrategies", fn := fun _ => fun
  | [d1, d2] => { results := [.lit (.bool false)], args := [d1, d2] }
  | _ => none }
def FnExactAverageStrategiesWrongFalsely : Prop := fnExactAverageStrategiesRow.holds Try.pinned (OpenSpec.ofChange fnExactAverageStrategiesWrong)

/-- 'laws.FnExactBestIteration': WHATEVER THE INPUT: true; the input reads as it did. -/
def fnExactBestIterationSpec : ChangeSpec := { name := "fnExactBestIteration", fn := fun _ => fun
  | [d1, d2] => { results := [.lit (.bool true)], args := [d1, d2] }
  | _ => none }
def fnExactBestIterationRow : OpenClaim := { program := "ytkmmkgpnlmdcfaa", sum := "de8565f1033518f2b1c2fbc5f59c5f6be6bb90bcf52727370b70c785a3ede996", func := "loop.example/g00910/laws.FnExactBestIteration", spec := "fnExactBestIteration", recurses := true, apart := false }
def FnExactBestIterationSaid : Prop := fnExactBestIterationRow.holds Try.pinned (OpenSpec.ofChange fnExactBestIterationSpec)

/-- ITS FALSE NEIGHBOUR: 'it returns false'. Refute it at one input. -/
def fnExactBestIterationWrong : ChangeSpec := { name := "fnExactBestIteration", fn := fun _ => fun
  | [d1, d2] => { results := [.lit (.bool false)], args := [d1, d2] }
  | _ => none }
def FnExactBestIterationWrongFalsely : Prop := fnExactBestIterationRow.holds Try.pinned (OpenSpec.ofChange fnExactBestIterationWrong)

/-- 'laws.FnExactTrainingCurve': WHATEVER THE INPUT: true; the input reads as it did. -/
def fnExactTrainingCurveSpec : ChangeSpec := { name := "fnExactTrainingCurve", fn := fun _ => fun
  | [d1, d2] => { results := [.lit (.bool true)], args := [d1, d2] }
  | _ => none }
def fnExactTrainingCurveRow : OpenClaim := { program := "ytkmmkgpnlmdcfaa", sum := "de8565f1033518f2b1c2fbc5f59c5f6be6bb90bcf52727370b70c785a3ede996", func := "loop.example/g00910/laws.FnExactTrainingCurve", spec := "fnExactTrainingCurve", recurses := true, apart := false }
def FnExactTrainingCurveSaid : Prop := fnExactTrainingCurveRow.holds Try.pinned (OpenSpec.ofChange fnExactTrainingCurveSpec)

/-- ITS FALSE NEIGHBOUR: 'it returns false'. Refute it at one input. -/
def fnExactTrainingCurveWrong : ChangeSpec := { name := "fnExactTrainingCurve", fn := fun _ => fun
  | [d1, d2] => { results := [.lit (.bool false)], args := [d1, d2] }
  | _ => none }
def FnExactTrainingCurveWrongFalsely : Prop := fnExactTrainingCurveRow.holds Try.pinned (OpenSpec.ofChange fnExactTrainingCurveWrong)

/-- 'laws.FnExploited': WHATEVER THE INPUT: true; the input reads as it did. -/
def fnExploitedSpec : ChangeSpec := { name := "fnExploited", fn := fun _ => fun
  | [d] => { results := [.lit (.bool true)], args := [d] }
  | _ => none }
def fnExploitedRow : OpenClaim := { program := "ytkmmkgpnlmdcfaa", sum := "de8565f1033518f2b1c2fbc5f59c5f6be6bb90bcf52727370b70c785a3ede996", func := "loop.example/g00910/laws.FnExploited", spec := "fnExploited", recurses := true, apart := false }
def FnExploitedSaid : Prop := fnExploitedRow.holds Try.pinned (OpenSpec.ofChange fnExploitedSpec)

/-- ITS FALSE NEIGHBOUR: 'it returns false'. Refute it at one input. -/
def fnExploitedWrong : ChangeSpec := { name := "fnExploited", fn := fun _ => fun
  | [d] => { results := [.lit (.bool false)], args := [d] }
  | _ => none }
def FnExploitedWrongFalsely : Prop := fnExploitedRow.holds Try.pinned (OpenSpec.ofChange fnExploitedWrong)

/-- 'laws.FnBestResponses': WHATEVER THE INPUT: true; the input reads as it did. -/
def fnBestResponsesSpec : ChangeSpec := { name := "fnBestResponses", fn := fun _ => fun
  | [d] => { results := [.lit (.bool true)], args := [d] }
  | _ => none }
def fnBestResponsesRow : OpenClaim := { program := "ytkmmkgpnlmdcfaa", sum := "de8565f1033518f2b1c2fbc5f59c5f6be6bb90bcf52727370b70c785a3ede996", func := "loop.example/g00910/laws.FnBestResponses", spec := "fnBestResponses", unfollowed := true, recurses := true, apart := false }
def FnBestResponsesSaid : Prop := fnBestResponsesRow.holds Try.pinned (OpenSpec.ofChange fnBestResponsesSpec)

/-- ITS FALSE NEIGHBOUR: 'it returns false'. Refute it at one input. -/
def fnBestResponsesWrong : ChangeSpec := { name := "fnBestResponses", fn := fun _ => fun
  | [d] => { results := [.lit (.bool false)], args := [d] }
  | _ => none }
def FnBestResponsesWrongFalsely : Prop := fnBestResponsesRow.holds Try.pinned (OpenSpec.ofChange fnBestResponsesWrong)

/-- 'laws.FnClaims': WHATEVER THE INPUT: true; the input reads as it did. -/
def fnClaimsSpec : ChangeSpec := { name := "fnClaims", fn := fun _ => fun
  | [d] => { results := [.lit (.bool true)], args := [d] }
  | _ => none }
def fnClaimsRow : OpenClaim := { program := "ytkmmkgpnlmdcfaa", sum := "de8565f1033518f2b1c2fbc5f59c5f6be6bb90bcf52727370b70c785a3ede996", func := "loop.example/g00910/laws.FnClaims", spec := "fnClaims", recurses := true, apart := false }
def FnClaimsSaid : Prop := fnClaimsRow.holds Try.pinned (OpenSpec.ofChange fnClaimsSpec)

/-- ITS FALSE NEIGHBOUR: 'it returns false'. Refute it at one input. -/
def fnClaimsWrong : ChangeSpec := { name := "fnClaims", fn := fun _ => fun
  | [d] => { results := [.lit (.bool false)], args := [d] }
  | _ => none }
def FnClaimsWrongFalsely : Prop := fnClaimsRow.holds Try.pinned (OpenSpec.ofChange fnClaimsWrong)

/-- 'laws.FnValueBounds': WHATEVER THE INPUT: true; the input reads as it did. -/
def fnValueBoundsSpec : ChangeSpec := { name := "fnValueBounds", fn := fun _ => fun
  | [d] => { results := [.lit (.bool true)], args := [d] }
  | _ => none }
def fnValueBoundsRow : OpenClaim := { program := "ytkmmkgpnlmdcfaa", sum := "de8565f1033518f2b1c2fbc5f59c5f6be6bb90bcf52727370b70c785a3ede996", func := "loop.example/g00910/laws.FnValueBounds", spec := "fnValueBounds", recurses := true, apart := false }
def FnValueBoundsSaid : Prop := fnValueBoundsRow.holds Try.pinned (OpenSpec.ofChange fnValueBoundsSpec)

/-- ITS FALSE NEIGHBOUR: 'it returns false'. Refute it at one input. -/
def fnValueBoundsWrong : ChangeSpec := { name := "fnValueBounds", fn := fun _ => fun
  | [d] => { results := [.lit (.bool false)], args := [d] }
  | _ => none }
def FnValueBoundsWrongFalsely : Prop := fnValueBoundsRow.holds Try.pinned (OpenSpec.ofChange fnValueBoundsWrong)

/-- 'laws.FnTables': WHATEVER THE INPUT: true; the input reads as it did. -/
def fnTablesSpec : ChangeSpec := { name := "fnTables", fn := fun _ => fun
  | [d] => { results := [.lit (.bool true)], args := [d] }
  | _ => none }
def fnTablesRow : OpenClaim := { program := "ytkmmkgpnlmdcfaa", sum := "de8565f1033518f2b1c2fbc5f59c5f6be6bb90bcf52727370b70c785a3ede996", func := "loop.example/g00910/laws.FnTables", spec := "fnTables", recurses := true, apart := false }
def FnTablesSaid : Prop := fnTablesRow.holds Try.pinned (OpenSpec.ofChange fnTablesSpec)

/-- ITS FALSE NEIGHBOUR: 'it returns false'. Refute it at one input. -/
def fnTablesWrong : ChangeSpec := { name := "fnTables", fn := fun _ => fun
  | [d] => { results := [.lit (.bool false)], args := [d] }
  | _ => none }
def FnTablesWrongFalsely : Prop := fnTablesRow.holds Try.pinned (OpenSpec.ofChange fnTablesWrong)

/-- 'laws.FnRegrets': WHATEVER THE INPUT: true; the input reads as it did. -/
def fnRegretsSpec : ChangeSpec := { name := "fnRegrets", fn := fun _ => fun
  | [d] => { results := [.lit (.bool true)], args := [d] }
  | _ => none }
def fnRegretsRow : OpenClaim := { program := "ytkmmkgpnlmdcfaa", sum := "de8565f1033518f2b1c2fbc5f59c5f6be6bb90bcf52727370b70c785a3ede996", func := "loop.example/g00910/laws.FnRegrets", spec := "fnRegrets", recurses := true, apart := false }
def FnRegretsSaid : Prop := fnRegretsRow.holds Try.pinned (OpenSpec.ofChange fnRegretsSpec)

/-- ITS FALSE NEIGHBOUR: 'it returns false'. Refute it at one input. -/
def fnRegretsWrong : ChangeSpec := { name := "fnRegrets", fn := fun _ => fun
  | [d] => { results := [.lit (.bool false)], args := [d] }
  | _ => none }
def FnRegretsWrongFalsely : Prop := fnRegretsRow.holds Try.pinned (OpenSpec.ofChange fnRegretsWrong)

/-- 'laws.FnTrained': WHATEVER THE INPUT: true; the input reads as it did. -/
def fnTrainedSpec : ChangeSpec := { name := "fnTrained", fn := fun _ => fun
  | [d] => { results := [.lit (.bool true)], args := [d] }
  | _ => none }
def fnTrainedRow : OpenClaim := { program := "ytkmmkgpnlmdcfaa", sum := "de8565f1033518f2b1c2fbc5f59c5f6be6bb90bcf52727370b70c785a3ede996", func := "loop.example/g00910/laws.FnTrained", spec := "fnTrained", recurses := true, apart := false }
def FnTrainedSaid : Prop := fnTrainedRow.holds Try.pinned (OpenSpec.ofChange fnTrainedSpec)

/-- ITS FALSE NEIGHBOUR: 'it returns false'. Refute it at one input. -/
def fnTrainedWrong : ChangeSpec := { name := "fnTrained", fn := fun _ => fun
  | [d] => { results := [.lit (.bool false)], args := [d] }
  | _ => none }
def FnTrainedWrongFalsely : Prop := fnTrainedRow.holds Try.pinned (OpenSpec.ofChange fnTrainedWrong)

/-- 'laws.FnCurves': WHATEVER THE INPUT: true; the input reads as it did. -/
def fnCurvesSpec : ChangeSpec := { name := "fnCurves", fn := fun _ => fun
  | [d] => { results := [.lit (.bool true)], args := [d] }
  | _ => none }
def fnCurvesRow : OpenClaim := { program := "ytkmmkgpnlmdcfaa", sum := "de8565f1033518f2b1c2fbc5f59c5f6be6bb90bcf52727370b70c785a3ede996", func := "loop.example/g00910/laws.FnCurves", spec := "fnCurves", recurses := true, apart := false }
def FnCurvesSaid : Prop := fnCurvesRow.holds Try.pinned (OpenSpec.ofChange fnCurvesSpec)

/-- ITS FALSE NEIGHBOUR: 'it returns false'. Refute it at one input. -/
def fnCurvesWrong : ChangeSpec := { name := "fnCurves", fn := fun _ => fun
  | [d] => { results := [.lit (.bool false)], args := [d] }
  | _ => none }
def FnCurvesWrongFalsely : Prop := fnCurvesRow.holds Try.pinned (OpenSpec.ofChange fnCurvesWrong)

/- THE SECOND FORM. 'bulk': how many values and letters a reading holds, each counted each time it is reached (what is shared counts as often as it is met; a slice's spare places count too). A statement '..UptoSaid' is the law's where the arguments, and the package variables that the reading takes, are together of bulk at most 1048576: NARROWER than '..Said'. Prove '..Said' where nothing that the law and all that it calls make is longer than what came in: it says more and counts as full. Else prove '..UptoSaid'. A law counts once. -/
mutual
def uptoBulk {H : Type} : DataW H → Nat
  | .lit (.string bytes) => bytes.length + 1
  | .lit _ => 1
  | .nil => 1
  | .ptr d => uptoBulk d + 1
  | .slice elems spare => uptoBulkAll elems + uptoBulkAll spare + 1
  | .agg parts => uptoBulkAll parts + 1
  | .iface _ d => uptoBulk d + 1
  | .map entries => uptoBulkEntries entries + 1
  | .held _ => 1
def uptoBulkAll {H : Type} : List (DataW H) → Nat
  | [] => 0
  | d :: r => uptoBulk d + uptoBulkAll r
def uptoBulkEntries {H : Type} : List (Lit × DataW H) → Nat
  | [] => 0
  | x :: r => uptoBulkEntry x + uptoBulkEntries r
def uptoBulkEntry {H : Type} : Lit × DataW H → Nat
  | (.string bytes, d) => bytes.length + uptoBulk d + 1
  | (_, d) => uptoBulk d + 1
 end
def uptoSmall : (H : Type) → List (DataW H) → Bool := fun _ ds => decide (uptoBulkAll ds ≤ 1048576)
def OpenSpec.upto (s : _root_.Go.ChangeSpec) : _root_.Go.OpenSpec := { _root_.Go.OpenSpec.ofChange s with cond := some uptoSmall }

/-- 'laws.FnExactTableOf', WHERE WHAT IT READS IS OF BULK AT MOST 1048576: true; the input reads as it did. -/
def fnExactTableOfUptoRow : OpenClaim := { program := "ytkmmkgpnlmdcfaa", sum := "de8565f1033518f2b1c2fbc5f59c5f6be6bb90bcf52727370b70c785a3ede996", func := "loop.example/g00910/laws.FnExactTableOf", spec := "fnExactTableOf", recurses := true, apart := false, narrowed := true }
def FnExactTableOfUptoSaid : Prop := fnExactTableOfUptoRow.holds Try.pinned (OpenSpec.upto fnExactTableOfSpec)

/-- 'laws.FnExactPureEquilibrium', WHERE WHAT IT READS IS OF BULK AT MOST 1048576: true; the input reads as it did. -/
def fnExactPureEquilibriumUptoRow : OpenClaim := { program := "ytkmmkgpnlmdcfaa", sum := "de8565f1033518f2b1c2fbc5f59c5f6be6bb90bcf52727370b70c785a3ede996", func := "loop.example/g00910/laws.FnExactPureEquilibrium", spec := "fnExactPureEquilibrium", recurses := true, apart := false, narrowed := true }
def FnExactPureEquilibriumUptoSaid : Prop := fnExactPureEquilibriumUptoRow.holds Try.pinned (OpenSpec.upto fnExactPureEquilibriumSpec)

/-- 'laws.FnExactPureBounds', WHERE WHAT IT READS IS OF BULK AT MOST 1048576: true; the input reads as it did. -/
def fnExactPureBoundsUptoRow : OpenClaim := { program := "ytkmmkgpnlmdcfaa", sum := "de8565f1033518f2b1c2fbc5f59c5f6be6bb90bcf52727370b70c785a3ede996", func := "loop.example/g00910/laws.FnExactPureBounds", spec := "fnExactPureBounds", recurses := true, apart := false, narrowed := true }
def FnExactPureBoundsUptoSaid : Prop := fnExactPureBoundsUptoRow.holds Try.pinned (OpenSpec.upto fnExactPureBoundsSpec)

/-- 'laws.FnExactRegretsOf', WHERE WHAT IT READS IS OF BULK AT MOST 1048576: true; the input reads as it did. -/
def fnExactRegretsOfUptoRow : OpenClaim := { program := "ytkmmkgpnlmdcfaa", sum := "de8565f1033518f2b1c2fbc5f59c5f6be6bb90bcf52727370b70c785a3ede996", func := "loop.example/g00910/laws.FnExactRegretsOf", spec := "fnExactRegretsOf", recurses := true, apart := false, narrowed := true }
def FnExactRegretsOfUptoSaid : Prop := fnExactRegretsOfUptoRow.holds Try.pinned (OpenSpec.upto fnExactRegretsOfSpec)

/-- 'laws.FnExactSumsOf', WHERE WHAT IT READS IS OF BULK AT MOST 1048576: true; the input reads as it did. -/
def fnExactSumsOfUptoRow : OpenClaim := { program := "ytkmmkgpnlmdcfaa", sum := "de8565f1033518f2b1c2fbc5f59c5f6be6bb90bcf52727370b70c785a3ede996", func := "loop.example/g00910/laws.FnExactSumsOf", spec := "fnExactSumsOf", recurses := true, apart := false, narrowed := true }
def FnExactSumsOfUptoSaid : Prop := fnExactSumsOfUptoRow.holds Try.pinned (OpenSpec.upto fnExactSumsOfSpec)

/-- 'laws.FnExactCurrentStrategies', WHERE WHAT IT READS IS OF BULK AT MOST 1048576: true; the input reads as it did. -/
def fnExactCurrentStrategiesUptoRow : OpenClaim := { program := "ytkmmkgpnlmdcfaa", sum := "de8565f1033518f2b1c2fbc5f59c5f6be6bb90bcf52727370b70c785a3ede996", func := "loop.example/g00910/laws.FnExactCurrentStrategies", spec := "fnExactCurrentStrategies", recurses := true, apart := false, narrowed := true }
def FnExactCurrentStrategiesUptoSaid : Prop := fnExactCurrentStrategiesUptoRow.holds Try.pinned (OpenSpec.upto fnExactCurrentStrategiesSpec)

/-- 'laws.FnExactAverageStrategies', WHERE WHAT IT READS IS OF BULK AT MOST 1048576: true; the input reads as it did. -/
def fnExactAverageStrategiesUptoRow : OpenClaim := { program := "ytkmmkgpnlmdcfaa", sum := "de8565f1033518f2b1c2fbc5f59c5f6be6bb90bcf52727370b70c785a3ede996", func := "loop.example/g00910/laws.FnExactAverageStrategies", spec := "fnExactAverageStrategies", recurses := true, apart := false, narrowed := true }
def FnExactAverageStrategiesUptoSaid : Prop := fnExactAverageStrategiesUptoRow.holds Try.pinned (OpenSpec.upto fnExactAverageStrategiesSpec)

/-- 'laws.FnExactBestIteration', WHERE WHAT IT READS IS OF BULK AT MOST 1048576: true; the input reads as it did. -/
def fnExactBestIterationUptoRow : OpenClaim := { program := "ytkmmkgpnlmdcfaa", sum := "de8565f1033518f2b1c2fbc5f59c5f6be6bb90bcf52727370b70c785a3ede996", func := "loop.example/g00910/laws.FnExactBestIteration", spec := "fnExactBestIteration", recurses := true, apart := false, narrowed := true }
def FnExactBestIterationUptoSaid : Prop := fnExactBestIterationUptoRow.holds Try.pinned (OpenSpec.upto fnExactBestIterationSpec)

/-- 'laws.FnExactTrainingCurve', WHERE WHAT IT READS IS OF BULK AT MOST 1048576: true; the input reads as it did. -/
def fnExactTrainingCurveUptoRow : OpenClaim := { program := "ytkmmkgpnlmdcfaa", sum := "de8565f1033518f2b1c2fbc5f59c5f6be6bb90bcf52727370b70c785a3ede996", func := "loop.example/g00910/laws.FnExactTrainingCurve", spec := "fnExactTrainingCurve", recurses := true, apart := false, narrowed := true }
def FnExactTrainingCurveUptoSaid : Prop := fnExactTrainingCurveUptoRow.holds Try.pinned (OpenSpec.upto fnExactTrainingCurveSpec)

/-- 'laws.FnExploited', WHERE WHAT IT READS IS OF BULK AT MOST 1048576: true; the input reads as it did. -/
def fnExploitedUptoRow : OpenClaim := { program := "ytkmmkgpnlmdcfaa", sum := "de8565f1033518f2b1c2fbc5f59c5f6be6bb90bcf52727370b70c785a3ede996", func := "loop.example/g00910/laws.FnExploited", spec := "fnExploited", recurses := true, apart := false, narrowed := true }
def FnExploitedUptoSaid : Prop := fnExploitedUptoRow.holds Try.pinned (OpenSpec.upto fnExploitedSpec)

/-- 'laws.FnBestResponses', WHERE WHAT IT READS IS OF BULK AT MOST 1048576: true; the input reads as it did. -/
def fnBestResponsesUptoRow : OpenClaim := { program := "ytkmmkgpnlmdcfaa", sum := "de8565f1033518f2b1c2fbc5f59c5f6be6bb90bcf52727370b70c785a3ede996", func := "loop.example/g00910/laws.FnBestResponses", spec := "fnBestResponses", unfollowed := true, recurses := true, apart := false, narrowed := true }
def FnBestResponsesUptoSaid : Prop := fnBestResponsesUptoRow.holds Try.pinned (OpenSpec.upto fnBestResponsesSpec)

/-- 'laws.FnClaims', WHERE WHAT IT READS IS OF BULK AT MOST 1048576: true; the input reads as it did. -/
def fnClaimsUptoRow : OpenClaim := { program := "ytkmmkgpnlmdcfaa", sum := "de8565f1033518f2b1c2fbc5f59c5f6be6bb90bcf52727370b70c785a3ede996", func := "loop.example/g00910/laws.FnClaims", spec := "fnClaims", recurses := true, apart := false, narrowed := true }
def FnClaimsUptoSaid : Prop := fnClaimsUptoRow.holds Try.pinned (OpenSpec.upto fnClaimsSpec)

/-- 'laws.FnValueBounds', WHERE WHAT IT READS IS OF BULK AT MOST 1048576: true; the input reads as it did. -/
def fnValueBoundsUptoRow : OpenClaim := { program := "ytkmmkgpnlmdcfaa", sum := "de8565f1033518f2b1c2fbc5f59c5f6be6bb90bcf52727370b70c785a3ede996", func := "loop.example/g00910/laws.FnValueBounds", spec := "fnValueBounds", recurses := true, apart := false, narrowed := true }
def FnValueBoundsUptoSaid : Prop := fnValueBoundsUptoRow.holds Try.pinned (OpenSpec.upto fnValueBoundsSpec)

/-- 'laws.FnTables', WHERE WHAT IT READS IS OF BULK AT MOST 1048576: true; the input reads as it did. -/
def fnTablesUptoRow : OpenClaim := { program := "ytkmmkgpnlmdcfaa", sum := "de8565f1033518f2b1c2fbc5f59c5f6be6bb90bcf52727370b70c785a3ede996", func := "loop.example/g00910/laws.FnTables", spec := "fnTables", recurses := true, apart := false, narrowed := true }
def FnTablesUptoSaid : Prop := fnTablesUptoRow.holds Try.pinned (OpenSpec.upto fnTablesSpec)

/-- 'laws.FnRegrets', WHERE WHAT IT READS IS OF BULK AT MOST 1048576: true; the input reads as it did. -/
def fnRegretsUptoRow : OpenClaim := { program := "ytkmmkgpnlmdcfaa", sum := "de8565f1033518f2b1c2fbc5f59c5f6be6bb90bcf52727370b70c785a3ede996", func := "loop.example/g00910/laws.FnRegrets", spec := "fnRegrets", recurses := true, apart := false, narrowed := true }
def FnRegretsUptoSaid : Prop := fnRegretsUptoRow.holds Try.pinned (OpenSpec.upto fnRegretsSpec)

/-- 'laws.FnTrained', WHERE WHAT IT READS IS OF BULK AT MOST 1048576: true; the input reads as it did. -/
def fnTrainedUptoRow : OpenClaim := { program := "ytkmmkgpnlmdcfaa", sum := "de8565f1033518f2b1c2fbc5f59c5f6be6bb90bcf52727370b70c785a3ede996", func := "loop.example/g00910/laws.FnTrained", spec := "fnTrained", recurses := true, apart := false, narrowed := true }
def FnTrainedUptoSaid : Prop := fnTrainedUptoRow.holds Try.pinned (OpenSpec.upto fnTrainedSpec)

/-- 'laws.FnCurves', WHERE WHAT IT READS IS OF BULK AT MOST 1048576: true; the input reads as it did. -/
def fnCurvesUptoRow : OpenClaim := { program := "ytkmmkgpnlmdcfaa", sum := "de8565f1033518f2b1c2fbc5f59c5f6be6bb90bcf52727370b70c785a3ede996", func := "loop.example/g00910/laws.FnCurves", spec := "fnCurves", recurses := true, apart := false, narrowed := true }
def FnCurvesUptoSaid : Prop := fnCurvesUptoRow.holds Try.pinned (OpenSpec.upto fnCurvesSpec)

end Rows
end Go.Proofs.Ytkmmkgpnlmdcfaa
