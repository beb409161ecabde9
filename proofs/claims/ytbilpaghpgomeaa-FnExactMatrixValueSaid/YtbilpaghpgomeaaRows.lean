/-
  No cell of these rows narrows 'for every input' (looked for: loops, veiled, ifaces, maps, wideKeys, modest, calm, conditions, laid).
  DERIVED. THE GIVEN ROWS OF THIS SEAT. 12 by the template 'for every input the law returns true; each argument reads behind the call as it read before'; 0 by the template 'total and deterministic' (their statements: YtbilpaghpgomeaaTotals.lean).
  GIVEN WITH THE SEED: the statements are not yours to turn. If you find one false, say at which input.
  Laid BY PROGRAM, IN A SANDBOX (cutbox-rows.mjs): the forced cells as the released guide's own fill.sh prints them over the translation b7030f9754c1a7dd… (all of the seat's roots in one cut). By AI agents, Wed Nov 11 2026. No macro, syntax, notation, axiom, sorry.
-/
import Derived.Test.YtbilpaghpgomeaaChecked
import GoSem.Claim
import GoSem.ClaimJoined
import GoSem.ClaimMapViews
import Derived.JoinedTies
import Derived.KernelRfl
namespace Go.Proofs.Ytbilpaghpgomeaa
/- THE CELL 'sum', in the pinned program and in every row, IS THE sha256 OF THE DUMP (.gsa) THAT YtbilpaghpgomeaaProg.lean LOADS. Nothing in Lean hashes anything: it is a label: what it is worth is what the hold of that sum in a sandbox is worth. -/
noncomputable def Try.pinned : Pinned := { name := "ytbilpaghpgomeaa", sum := "b7030f9754c1a7dd067ad378782e11cb7f754f0b173cee4bc9f3c6a2cbf35f5a", checked := Try.checked }
namespace Rows
def none {H : Type} : Left H := { results := [], args := [] }

/-- 'laws.FnExactIsMatrix': WHATEVER THE INPUT: true; the input reads as it did. -/
def fnExactIsMatrixSpec : ChangeSpec := { name := "fnExactIsMatrix", fn := fun _ => fun
  | [d] => { results := [.lit (.bool true)], args := [d] }
  | _ => none }
def fnExactIsMatrixRow : OpenClaim := { program := "ytbilpaghpgomeaa", sum := "b7030f9754c1a7dd067ad378782e11cb7f754f0b173cee4bc9f3c6a2cbf35f5a", func := "loop.example/g00910/laws.FnExactIsMatrix", spec := "fnExactIsMatrix", unfollowed := true, recurses := true, apart := false }
def FnExactIsMatrixSaid : Prop := fnExactIsMatrixRow.holds Try.pinned (OpenSpec.ofChange fnExactIsMatrixSpec)

/-- ITS FALSE NEIGHBOUR: 'it returns false'. Refute it at one input. -/
def fnExactIsMatrixWrong : ChangeSpec := { name := "fnExactIsMatrix", fn := fun _ => fun
  | [d] => { results := [.lit (.bool false)], args := [d] }
  | _ => none }
def FnExactIsMatrixWrongFalsely : Prop := fnExactIsMatrixRow.holds Try.pinned (OpenSpec.ofChange fnExactIsMatrixWrong)

/-- 'laws.FnExactHalvedWeights': WHATEVER THE INPUT: true; the input reads as it did. -/
def fnExactHalvedWeightsSpec : ChangeSpec := { name := "fnExactHalvedWeights", fn := fun _ => fun
  | [d] => { results := [.lit (.bool true)], args := [d] }
  | _ => none }
def fnExactHalvedWeightsRow : OpenClaim := { program := "ytbilpaghpgomeaa", sum := "b7030f9754c1a7dd067ad378782e11cb7f754f0b173cee4bc9f3c6a2cbf35f5a", func := "loop.example/g00910/laws.FnExactHalvedWeights", spec := "fnExactHalvedWeights", apart := false }
def FnExactHalvedWeightsSaid : Prop := fnExactHalvedWeightsRow.holds Try.pinned (OpenSpec.ofChange fnExactHalvedWeightsSpec)

/-- ITS FALSE NEIGHBOUR: 'it returns false'. Refute it at one input. -/
def fnExactHalvedWeightsWrong : ChangeSpec := { name := "fnExactHalvedWeights", fn := fun _ => fun
  | [d] => { results := [.lit (.bool false)], args := [d] }
  | _ => none }
def FnExactHalvedWeightsWrongFalsely : Prop := fnExactHalvedWeightsRow.holds Try.pinned (OpenSpec.ofChange fnExactHalvedWeightsWrong)

/-- 'laws.FnExactIsMix': WHATEVER THE INPUT: true; the input reads as it did. -/
def fnExactIsMixSpec : ChangeSpec := { name := "fnExactIsMix", fn := fun _ => fun
  | [d1, d2] => { results := [.lit (.bool true)], args := [d1, d2] }
  | _ => none }
def fnExactIsMixRow : OpenClaim := { program := "ytbilpaghpgomeaa", sum := "b7030f9754c1a7dd067ad378782e11cb7f754f0b173cee4bc9f3c6a2cbf35f5a", func := "loop.example/g00910/laws.FnExactIsMix", spec := "fnExactIsMix", recurses := true, apart := false }
def FnExactIsMixSaid : Prop := fnExactIsMixRow.holds Try.pinned (OpenSpec.ofChange fnExactIsMixSpec)

/-- ITS FALSE NEIGHBOUR: 'it returns false'. Refute it at one input. -/
def fnExactIsMixWrong : ChangeSpec := { name := "fnExactIsMix", fn := fun _ => fun
  | [d1, d2] => { results := [.lit (.bool false)], args := [d1, d2] }
  | _ => none }
def FnExactIsMixWrongFalsely : Prop := fnExactIsMixRow.holds Try.pinned (OpenSpec.ofChange fnExactIsMixWrong)

/-- 'laws.FnExactDominatedRows': WHATEVER THE INPUT: true; the input reads as it did. -/
def fnExactDominatedRowsSpec : ChangeSpec := { name := "fnExactDominatedRows", fn := fun _ => fun
  | [d] => { results := [.lit (.bool true)], args := [d] }
  | _ => none }
def fnExactDominatedRowsRow : OpenClaim := { program := "ytbilpaghpgomeaa", sum := "b7030f9754c1a7dd067ad378782e11cb7f754f0b173cee4bc9f3c6a2cbf35f5a", func := "loop.example/g00910/laws.FnExactDominatedRows", spec := "fnExactDominatedRows", unfollowed := true, recurses := true, apart := false }
def FnExactDominatedRowsSaid : Prop := fnExactDominatedRowsRow.holds Try.pinned (OpenSpec.ofChange fnExactDominatedRowsSpec)

/-- ITS FALSE NEIGHBOUR: 'it returns false'. Refute it at one input. -/
def fnExactDominatedRowsWrong : ChangeSpec := { name := "fnExactDominatedRows", fn := fun _ => fun
  | [d] => { results := [.lit (.bool false)], args := [d] }
  | _ => none }
def FnExactDominatedRowsWrongFalsely : Prop := fnExactDominatedRowsRow.holds Try.pinned (OpenSpec.ofChange fnExactDominatedRowsWrong)

/-- 'laws.FnExactSaddlePoint': WHATEVER THE INPUT: true; the input reads as it did. -/
def fnExactSaddlePointSpec : ChangeSpec := { name := "fnExactSaddlePoint", fn := fun _ => fun
  | [d] => { results := [.lit (.bool true)], args := [d] }
  | _ => none }
def fnExactSaddlePointRow : OpenClaim := { program := "ytbilpaghpgomeaa", sum := "b7030f9754c1a7dd067ad378782e11cb7f754f0b173cee4bc9f3c6a2cbf35f5a", func := "loop.example/g00910/laws.FnExactSaddlePoint", spec := "fnExactSaddlePoint", unfollowed := true, recurses := true, apart := false }
def FnExactSaddlePointSaid : Prop := fnExactSaddlePointRow.holds Try.pinned (OpenSpec.ofChange fnExactSaddlePointSpec)

/-- ITS FALSE NEIGHBOUR: 'it returns false'. Refute it at one input. -/
def fnExactSaddlePointWrong : ChangeSpec := { name := "fnExactSaddlePoint", fn := fun _ => fun
  | [d] => { results := [.lit (.bool false)], args := [d] }
  | _ => none }
def FnExactSaddlePointWrongFalsely : Prop := fnExactSaddlePointRow.holds Try.pinned (OpenSpec.ofChange fnExactSaddlePointWrong)

/-- 'laws.FnExactFlipMatrix': WHATEVER THE INPUT: true; the input reads as it did. -/
def fnExactFlipMatrixSpec : ChangeSpec := { name := "fnExactFlipMatrix", fn := fun _ => fun
  | [d] => { results := [.lit (.bool true)], args := [d] }
  | _ => none }
def fnExactFlipMatrixRow : OpenClaim := { program := "ytbilpaghpgomeaa", sum := "b7030f9754c1a7dd067ad378782e11cb7f754f0b173cee4bc9f3c6a2cbf35f5a", func := "loop.example/g00910/laws.FnExactFlipMatrix", spec := "fnExactFlipMatrix", unfollowed := true, recurses := true, apart := false }
def FnExactFlipMatrixSaid : Prop := fnExactFlipMatrixRow.holds Try.pinned (OpenSpec.ofChange fnExactFlipMatrixSpec)

/-- ITS FALSE NEIGHBOUR: 'it returns false'. Refute it at one input. -/
def fnExactFlipMatrixWrong : ChangeSpec := { name := "fnExactFlipMatrix", fn := fun _ => fun
  | [d] => { results := [.lit (.bool false)], args := [d] }
  | _ => none }
def FnExactFlipMatrixWrongFalsely : Prop := fnExactFlipMatrixRow.holds Try.pinned (OpenSpec.ofChange fnExactFlipMatrixWrong)

/-- 'laws.FnExactDeterminant': WHATEVER THE INPUT: true; the input reads as it did. -/
def fnExactDeterminantSpec : ChangeSpec := { name := "fnExactDeterminant", fn := fun _ => fun
  | [d] => { results := [.lit (.bool true)], args := [d] }
  | _ => none }
def fnExactDeterminantRow : OpenClaim := { program := "ytbilpaghpgomeaa", sum := "b7030f9754c1a7dd067ad378782e11cb7f754f0b173cee4bc9f3c6a2cbf35f5a", func := "loop.example/g00910/laws.FnExactDeterminant", spec := "fnExactDeterminant", unfollowed := true, recurses := true, apart := false }
def FnExactDeterminantSaid : Prop := fnExactDeterminantRow.holds Try.pinned (OpenSpec.ofChange fnExactDeterminantSpec)

/-- ITS FALSE NEIGHBOUR: 'it returns false'. Refute it at one input. -/
def fnExactDeterminantWrong : ChangeSpec := { name := "fnExactDeterminant", fn := fun _ => fun
  | [d] => { results := [.lit (.bool false)], args := [d] }
  | _ => none }
def FnExactDeterminantWrongFalsely : Prop := fnExactDeterminantRow.holds Try.pinned (OpenSpec.ofChange fnExactDeterminantWrong)

/-- 'laws.FnExactAdjugate': WHATEVER THE INPUT: true; the input reads as it did. -/
def fnExactAdjugateSpec : ChangeSpec := { name := "fnExactAdjugate", fn := fun _ => fun
  | [d] => { results := [.lit (.bool true)], args := [d] }
  | _ => none }
def fnExactAdjugateRow : OpenClaim := { program := "ytbilpaghpgomeaa", sum := "b7030f9754c1a7dd067ad378782e11cb7f754f0b173cee4bc9f3c6a2cbf35f5a", func := "loop.example/g00910/laws.FnExactAdjugate", spec := "fnExactAdjugate", unfollowed := true, recurses := true, apart := false }
def FnExactAdjugateSaid : Prop := fnExactAdjugateRow.holds Try.pinned (OpenSpec.ofChange fnExactAdjugateSpec)

/-- ITS FALSE NEIGHBOUR: 'it returns false'. Refute it at one input. -/
def fnExactAdjugateWrong : ChangeSpec := { name := "fnExactAdjugate", fn := fun _ => fun
  | [d] => { results := [.lit (.bool false)], args := [d] }
  | _ => none }
def FnExactAdjugateWrongFalsely : Prop := fnExactAdjugateRow.holds Try.pinned (OpenSpec.ofChange fnExactAdjugateWrong)

/-- 'laws.FnAdjugates': WHATEVER THE INPUT: true; the input reads as it did. -/
def fnAdjugatesSpec : ChangeSpec := { name := "fnAdjugates", fn := fun _ => fun
  | [d] => { results := [.lit (.bool true)], args := [d] }
  | _ => none }
def fnAdjugatesRow : OpenClaim := { program := "ytbilpaghpgomeaa", sum := "b7030f9754c1a7dd067ad378782e11cb7f754f0b173cee4bc9f3c6a2cbf35f5a", func := "loop.example/g00910/laws.FnAdjugates", spec := "fnAdjugates", unfollowed := true, recurses := true, apart := false }
def FnAdjugatesSaid : Prop := fnAdjugatesRow.holds Try.pinned (OpenSpec.ofChange fnAdjugatesSpec)

/-- ITS FALSE NEIGHBOUR: 'it returns false'. Refute it at one input. -/
def fnAdjugatesWrong : ChangeSpec := { name := "fnAdjugates", fn := fun _ => fun
  | [d] => { results := [.lit (.bool false)], args := [d] }
  | _ => none }
def FnAdjugatesWrongFalsely : Prop := fnAdjugatesRow.holds Try.pinned (OpenSpec.ofChange fnAdjugatesWrong)

/-- 'laws.FnExactMatrixValue': WHATEVER THE INPUT: true; the input reads as it did. -/
def fnExactMatrixValueSpec : ChangeSpec := { name := "fnExactMatrixValue", fn := fun _ => fun
  | [d1, d2, d3] => { results := [.lit (.bool true)], args := [d1, d2, d3] }
  | _ => none }
def fnExactMatrixValueRow : OpenClaim := { program := "ytbilpaghpgomeaa", sum := "b7030f9754c1a7dd067ad378782e11cb7f754f0b173cee4bc9f3c6a2cbf35f5a", func := "loop.example/g00910/laws.FnExactMatrixValue", spec := "fnExactMatrixValue", unfollowed := true, recurses := true, apart := false }
def FnExactMatrixValueSaid : Prop := fnExactMatrixValueRow.holds Try.pinned (OpenSpec.ofChange fnExactMatrixValueSpec)

/-- ITS FALSE NEIGHBOUR: 'it returns false'. Refute it at one input. -/
def fnExactMatrixValueWrong : ChangeSpec := { name := "fnExactMatrixValue", fn := fun _ => fun
  | [d1, d2, d3] => { results := [.lit (.bool false)], args := [d1, d2, d3] }
  | _ => none }
def FnExactMatrixValueWrongFalsely : Prop := fnExactMatrixValueRow.holds Try.pinned (OpenSpec.ofChange fnExactMatrixValueWrong)

/-- 'laws.FnExactRowGains': WHATEVER THE INPUT: true; the input reads as it did. -/
def fnExactRowGainsSpec : ChangeSpec := { name := "fnExactRowGains", fn := fun _ => fun
  | [d1, d2] => { results := [.lit (.bool true)], args := [d1, d2] }
  | _ => none }
def fnExactRowGainsRow : OpenClaim := { program := "ytbilpaghpgomeaa", sum := "b7030f9754c1a7dd067ad378782e11cb7f754f0b173cee4bc9f3c6a2cbf35f5a", func := "loop.example/g00910/laws.FnExactRowGains", spec := "fnExactRowGains", unfollowed := true, recurses := true, apart := false }
def FnExactRowGainsSaid : Prop := fnExactRowGainsRow.holds Try.pinned (OpenSpec.ofChange fnExactRowGainsSpec)

/-- ITS FALSE NEIGHBOUR: 'it returns false'. Refute it at one input. -/
def fnExactRowGainsWrong : ChangeSpec := { name := "fnExactRowGains", fn := fun _ => fun
  | [d1, d2] => { results := [.lit (.bool false)], args := [d1, d2] }
  | _ => none }
def FnExactRowGainsWrongFalsely : Prop := fnExactRowGainsRow.holds Try.pinned (OpenSpec.ofChange fnExactRowGainsWrong)

/-- 'laws.FnExactColumnGains': WHATEVER THE INPUT: true; the input reads as it did. -/
def fnExactColumnGainsSpec : ChangeSpec := { name := "fnExactColumnGains", fn := fun _ => fun
  | [d1, d2] => { results := [.lit (.bool true)], args := [d1, d2] }
  | _ => none }
def fnExactColumnGainsRow : OpenClaim := { program := "ytbilpaghpgomeaa", sum := "b7030f9754c1a7dd067ad378782e11cb7f754f0b173cee4bc9f3c6a2cbf35f5a", func := "loop.example/g00910/laws.FnExactColumnGains", spec := "fnExactColumnGains", unfollowed := true, recurses := true, apart := false }
def FnExactColumnGainsSaid : Prop := fnExactColumnGainsRow.holds Try.pinned (OpenSpec.ofChange fnExactColumnGainsSpec)

/-- ITS FALSE NEIGHBOUR: 'it returns false'. Refute it at one input. -/
def fnExactColumnGainsWrong : ChangeSpec := { name := "fnExactColumnGains", fn := fun _ => fun
  | [d1, d2] => { results := [.lit (.bool false)], args := [d1, d2] }
  | _ => none }
def FnExactColumnGainsWrongFalsely : Prop := fnExactColumnGainsRow.holds Try.pinned (OpenSpec.ofChange fnExactColumnGainsWrong)

/- THE SECOND FORM. 'bulk': how many values and letters a reading holds, each counted each time it is reached (what is shared counts as often as it is met; a slice's spare places count too). A statement '..UptoSaid' is the law's where the arguments, and the package variables that the reading takes, are together of bulk at most 1048576: NARROWER than '..Said'. Prove '..Said' where nothing that the law and all that it calls make is longer than what came in: it says more and counts as full. Else prove '..UptoSaid'. A law counts once. -/
mutual
def uptoBulk {H : Type} : DataW H → Nat
  | .lit (.string bytes) => bytes.length + 1
  | .lit _ => 1
  | .nil => 1
  | .ptr d => uptoBulk d + 1
  | .slice elems spare => uptoBulkAll elems + uptoBulkAll spare + 1
  | .agg parts => uptoBulkAll parts + 1
  | .iface _ d => uptoBulk d + 1
  | .map entries => uptoBulkEntries entries + 1
  | .held _ => 1
def uptoBulkAll {H : Type} : List (DataW H) → Nat
  | [] => 0
  | d :: r => uptoBulk d + uptoBulkAll r
def uptoBulkEntries {H : Type} : List (Lit × DataW H) → Nat
  | [] => 0
  | x :: r => uptoBulkEntry x + uptoBulkEntries r
def uptoBulkEntry {H : Type} : Lit × DataW H → Nat
  | (.string bytes, d) => bytes.length + uptoBulk d + 1
  | (_, d) => uptoBulk d + 1
 end
def uptoSmall : (H : Type) → List (DataW H) → Bool := fun _ ds => decide (uptoBulkAll ds ≤ 1048576)
def OpenSpec.upto (s : _root_.Go.ChangeSpec) : _root_.Go.OpenSpec := { _root_.Go.OpenSpec.ofChange s with cond := some uptoSmall }

/-- 'laws.FnExactIsMatrix', WHERE WHAT IT READS IS OF BULK AT MOST 1048576: true; the input reads as it did. -/
def fnExactIsMatrixUptoRow : OpenClaim := { program := "ytbilpaghpgomeaa", sum := "b7030f9754c1a7dd067ad378782e11cb7f754f0b173cee4bc9f3c6a2cbf35f5a", func := "loop.example/g00910/laws.FnExactIsMatrix", spec := "fnExactIsMatrix", unfollowed := true, recurses := true, apart := false, narrowed := true }
def FnExactIsMatrixUptoSaid : Prop := fnExactIsMatrixUptoRow.holds Try.pinned (OpenSpec.upto fnExactIsMatrixSpec)

/-- 'laws.FnExactHalvedWeights', WHERE WHAT IT READS IS OF BULK AT MOST 1048576: true; the input reads as it did. -/
def fnExactHalvedWeightsUptoRow : OpenClaim := { program := "ytbilpaghpgomeaa", sum := "b7030f9754c1a7dd067ad378782e11cb7f754f0b173cee4bc9f3c6a2cbf35f5a", func := "loop.example/g00910/laws.FnExactHalvedWeights", spec := "fnExactHalvedWeights", apart := false, narrowed := true }
def FnExactHalvedWeightsUptoSaid : Prop := fnExactHalvedWeightsUptoRow.holds Try.pinned (OpenSpec.upto fnExactHalvedWeightsSpec)

/-- 'laws.FnExactIsMix', WHERE WHAT IT READS IS OF BULK AT MOST 1048576: true; the input reads as it did. -/
def fnExactIsMixUptoRow : OpenClaim := { program := "ytbilpaghpgomeaa", sum := "b7030f9754c1a7dd067ad378782e11cb7f754f0b173cee4bc9f3c6a2cbf35f5a", func := "loop.example/g00910/laws.FnExactIsMix", spec := "fnExactIsMix", recurses := true, apart := false, narrowed := true }
def FnExactIsMixUptoSaid : Prop := fnExactIsMixUptoRow.holds Try.pinned (OpenSpec.upto fnExactIsMixSpec)

/-- 'laws.FnExactDominatedRows', WHERE WHAT IT READS IS OF BULK AT MOST 1048576: true; the input reads as it did. -/
def fnExactDominatedRowsUptoRow : OpenClaim := { program := "ytbilpaghpgomeaa", sum := "b7030f9754c1a7dd067ad378782e11cb7f754f0b173cee4bc9f3c6a2cbf35f5a", func := "loop.example/g00910/laws.FnExactDominatedRows", spec := "fnExactDominatedRows", unfollowed := true, recurses := true, apart := false, narrowed := true }
def FnExactDominatedRowsUptoSaid : Prop := fnExactDominatedRowsUptoRow.holds Try.pinned (OpenSpec.upto fnExactDominatedRowsSpec)

/-- 'laws.FnExactSaddlePoint', WHERE WHAT IT READS IS OF BULK AT MOST 1048576: true; the input reads as it did. -/
def fnExactSaddlePointUptoRow : OpenClaim := { program := "ytbilpaghpgomeaa", sum := "b7030f9754c1a7dd067ad378782e11cb7f754f0b173cee4bc9f3c6a2cbf35f5a", func := "loop.example/g00910/laws.FnExactSaddlePoint", spec := "fnExactSaddlePoint", unfollowed := true, recurses := true, apart := false, narrowed := true }
def FnExactSaddlePointUptoSaid : Prop := fnExactSaddlePointUptoRow.holds Try.pinned (OpenSpec.upto fnExactSaddlePointSpec)

/-- 'laws.FnExactFlipMatrix', WHERE WHAT IT READS IS OF BULK AT MOST 1048576: true; the input reads as it did. -/
def fnExactFlipMatrixUptoRow : OpenClaim := { program := "ytbilpaghpgomeaa", sum := "b7030f9754c1a7dd067ad378782e11cb7f754f0b173cee4bc9f3c6a2cbf35f5a", func := "loop.example/g00910/laws.FnExactFlipMatrix", spec := "fnExactFlipMatrix", unfollowed := true, recurses := true, apart := false, narrowed := true }
def FnExactFlipMatrixUptoSaid : Prop := fnExactFlipMatrixUptoRow.holds Try.pinned (OpenSpec.upto fnExactFlipMatrixSpec)

/-- 'laws.FnExactDeterminant', WHERE WHAT IT READS IS OF BULK AT MOST 1048576: true; the input reads as it did. -/
def fnExactDeterminantUptoRow : OpenClaim := { program := "ytbilpaghpgomeaa", sum := "b7030f9754c1a7dd067ad378782e11cb7f754f0b173cee4bc9f3c6a2cbf35f5a", func := "loop.example/g00910/laws.FnExactDeterminant", spec := "fnExactDeterminant", unfollowed := true, recurses := true, apart := false, narrowed := true }
def FnExactDeterminantUptoSaid : Prop := fnExactDeterminantUptoRow.holds Try.pinned (OpenSpec.upto fnExactDeterminantSpec)

/-- 'laws.FnExactAdjugate', WHERE WHAT IT READS IS OF BULK AT MOST 1048576: true; the input reads as it did. -/
def fnExactAdjugateUptoRow : OpenClaim := { program := "ytbilpaghpgomeaa", sum := "b7030f9754c1a7dd067ad378782e11cb7f754f0b173cee4bc9f3c6a2cbf35f5a", func := "loop.example/g00910/laws.FnExactAdjugate", spec := "fnExactAdjugate", unfollowed := true, recurses := true, apart := false, narrowed := true }
def FnExactAdjugateUptoSaid : Prop := fnExactAdjugateUptoRow.holds Try.pinned (OpenSpec.upto fnExactAdjugateSpec)

/-- 'laws.FnAdjugates', WHERE WHAT IT READS IS OF BULK AT MOST 1048576: true; the input reads as it did. -/
def fnAdjugatesUptoRow : OpenClaim := { program := "ytbilpaghpgomeaa", sum := "b7030f9754c1a7dd067ad378782e11cb7f754f0b173cee4bc9f3c6a2cbf35f5a", func := "loop.example/g00910/laws.FnAdjugates", spec := "fnAdjugates", unfollowed := true, recurses := true, apart := false, narrowed := true }
def FnAdjugatesUptoSaid : Prop := fnAdjugatesUptoRow.holds Try.pinned (OpenSpec.upto fnAdjugatesSpec)

/-- 'laws.FnExactMatrixValue', WHERE WHAT IT READS IS OF BULK AT MOST 1048576: true; the input reads as it did. -/
def fnExactMatrixValueUptoRow : OpenClaim := { program := "ytbilpaghpgomeaa", sum := "b7030f9754c1a7dd067ad378782e11cb7f754f0b173cee4bc9f3c6a2cbf35f5a", func := "loop.example/g00910/laws.FnExactMatrixValue", spec := "fnExactMatrixValue", unfollowed := true, recurses := true, apart := false, narrowed := true }
def FnExactMatrixValueUptoSaid : Prop := fnExactMatrixValueUptoRow.holds Try.pinned (OpenSpec.upto fnExactMatrixValueSpec)

/-- 'laws.FnExactRowGains', WHERE WHAT IT READS IS OF BULK AT MOST 1048576: true; the input reads as it did. -/
def fnExactRowGainsUptoRow : OpenClaim := { program := "ytbilpaghpgomeaa", sum := "b7030f9754c1a7dd067ad378782e11cb7f754f0b173cee4bc9f3c6a2cbf35f5a", func := "loop.example/g00910/laws.FnExactRowGains", spec := "fnExactRowGains", unfollowed := true, recurses := true, apart := false, narrowed := true }
def FnExactRowGainsUptoSaid : Prop := fnExactRowGainsUptoRow.holds Try.pinned (OpenSpec.upto fnExactRowGainsSpec)

/-- 'laws.FnExactColumnGains', WHERE WHAT IT READS IS OF BULK AT MOST 1048576: true; the input reads as it did. -/
def fnExactColumnGainsUptoRow : OpenClaim := { program := "ytbilpaghpgomeaa", sum := "b7030f9754c1a7dd067ad378782e11cb7f754f0b173cee4bc9f3c6a2cbf35f5a", func := "loop.example/g00910/laws.FnExactColumnGains", spec := "fnExactColumnGains", unfollowed := true, recurses := true, apart := false, narrowed := true }
def FnExactColumnGainsUptoSaid : Prop := fnExactColumnGainsUptoRow.holds Try.pinned (OpenSpec.upto fnExactColumnGainsSpec)

end Rows
end Go.Proofs.Ytbilpaghpgomeaa
