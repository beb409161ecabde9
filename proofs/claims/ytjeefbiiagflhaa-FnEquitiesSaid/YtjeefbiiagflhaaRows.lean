/-
  No cell of these rows narrows 'for every input' (looked for: loops, veiled, ifaces, maps, wideKeys, modest, calm, conditions, laid).
  DERIVED. THE GIVEN ROWS OF THIS SEAT. 3 by the template 'for every input the law returns true; each argument reads behind the call as it read before'; 0 by the template 'total and deterministic' (their statements: YtjeefbiiagflhaaTotals.lean).
  GIVEN WITH THE SEED: the statements are not yours to turn. If you find one false, say at which input.
  Laid BY PROGRAM, IN A SANDBOX (cutbox-rows.mjs): the forced cells as the released guide's own fill.sh prints them over the translation 89329840e2ad616a… (all of the seat's roots in one cut). By AI agents, Wed Nov 11 2026. No macro, syntax, notation, axiom, sorry.
-/
import Derived.Test.YtjeefbiiagflhaaChecked
import GoSem.Claim
import GoSem.ClaimJoined
import GoSem.ClaimMapViews
import Derived.JoinedTies
import Derived.KernelRfl
namespace Go.Proofs.Ytjeefbiiagflhaa
/- THE CELL 'sum', in the pinned program and in every row, IS THE sha256 OF THE DUMP (.gsa) THAT YtjeefbiiagflhaaProg.lean LOADS. Nothing in Lean hashes anything: it is a label: what it is worth is what the hold of that sum in a sandbox is worth. -/
noncomputable def Try.pinned : Pinned := { name := "ytjeefbiiagflhaa", sum := "89329840e2ad616a4bb2dcdae39f2d87187718dd4b904e790279094e164378f2", checked := Try.checked }
namespace Rows
def none {H : Type} : Left H := { results := [], args := [] }

/-- 'laws.FnExactEquitiesOf': WHATEVER THE INPUT: true; the input reads as it did. -/
def fnExactEquitiesOfSpec : ChangeSpec := { name := "fnExactEquitiesOf", fn := fun _ => fun
  | [d1, d2, d3, d4] => { results := [.lit (.bool true)], args := [d1, d2, d3, d4] }
  | _ => none }
def fnExactEquitiesOfRow : OpenClaim := { program := "ytjeefbiiagflhaa", sum := "89329840e2ad616a4bb2dcdae39f2d87187718dd4b904e790279094e164378f2", func := "loop.example/g00910/laws.FnExactEquitiesOf", spec := "fnExactEquitiesOf", unfollowed := true, recurses := true, apart := false }
def FnExactEquitiesOfSaid : Prop := fnExactEquitiesOfRow.holds Try.pinned (OpenSpec.ofChange fnExactEquitiesOfSpec)

/-- ITS FALSE NEIGHBOUR: 'it returns false'. Refute it at one input. -/
def fnExactEquitiesOfWrong : ChangeSpec := { name := "fnExactEquitiesOf", fn := fun _ => fun
  | [d1, d2, d3, d4] => { results := [.lit (.bool false)], args := [d1, d2, d3, d4] }
  | _ => none }
def FnExactEquitiesOfWrongFalsely : Prop := fnExactEquitiesOfRow.holds Try.pinned (OpenSpec.ofChange fnExactEquitiesOfWrong)

/-- 'laws.FnEquities': WHATEVER THE INPUT: true; the input reads as it did. -/
def fnEquitiesSpec : ChangeSpec := { name := "fnEquities", fn := fun _ => fun
  | [d] => { results := [.lit (.bool true)], args := [d] }
  | _ => none }
def fnEquitiesRow : OpenClaim := { program := "ytjeefbiiagflhaa", sum := "89329840e2ad616a4bb2dcdae39f2d87187718dd4b904e790279094e164378f2", func := "loop.example/g00910/laws.FnEquities", spec := "fnEquities", unfollowed := true, recurses := true, apart := false }
def FnEquitiesSaid : Prop := fnEquitiesRow.holds Try.pinned (OpenSpec.ofChange fnEquitiesSpec)

/-- ITS FALSE NEIGHBOUR: 'it returns false'. Refute it at one input. -/
def fnEquitiesWrong : ChangeSpec := { name := "fnEquities", fn := fun _ => fun
  | [d] => { results := [.lit (.bool false)], args := [d] }
  | _ => none }
def FnEquitiesWrongFalsely : Prop := fnEquitiesRow.holds Try.pinned (OpenSpec.ofChange fnEquitiesWrong)

/-- 'laws.FnParts': WHATEVER THE INPUT: true; the input reads as it did. -/
def fnPartsSpec : ChangeSpec := { name := "fnParts", fn := fun _ => fun
  | [d] => { results := [.lit (.bool true)], args := [d] }
  | _ => none }
def fnPartsRow : OpenClaim := { program := "ytjeefbiiagflhaa", sum := "89329840e2ad616a4bb2dcdae39f2d87187718dd4b904e790279094e164378f2", func := "loop.example/g00910/laws.FnParts", spec := "fnParts", unfollowed := true, recurses := true, apart := false }
def FnPartsSaid : Prop := fnPartsRow.holds Try.pinned (OpenSpec.ofChange fnPartsSpec)

/-- ITS FALSE NEIGHBOUR: 'it returns false'. Refute it at one input. -/
def fnPartsWrong : ChangeSpec := { name := "fnParts", fn := fun _ => fun
  | [d] => { results := [.lit (.bool false)], args := [d] }
  | _ => none }
def FnPartsWrongFalsely : Prop := fnPartsRow.holds Try.pinned (OpenSpec.ofChange fnPartsWrong)

/- THE SECOND FORM. 'bulk': how many values and letters a reading holds, each counted each time it is reached (what is shared counts as often as it is met; a slice's spare places count too). A statement '..UptoSaid' is the law's where the arguments, and the package variables that the reading takes, are together of bulk at most 1048576: NARROWER than '..Said'. Prove '..Said' where nothing that the law and all that it calls make is longer than what came in: it says more and counts as full. Else prove '..UptoSaid'. A law counts once. -/
mutual
def uptoBulk {H : Type} : DataW H → Nat
  | .lit (.string bytes) => bytes.length + 1
  | .lit _ => 1
  | .nil => 1
  | .ptr d => uptoBulk d + 1
  | .slice elems spare => uptoBulkAll elems + uptoBulkAll spare + 1
  | .agg parts => uptoBulkAll parts + 1
  | .iface _ d => uptoBulk d + 1
  | .map entries => uptoBulkEntries entries + 1
  | .held _ => 1
def uptoBulkAll {H : Type} : List (DataW H) → Nat
  | [] => 0
  | d :: r => uptoBulk d + uptoBulkAll r
def uptoBulkEntries {H : Type} : List (Lit × DataW H) → Nat
  | [] => 0
  | x :: r => uptoBulkEntry x + uptoBulkEntries r
def uptoBulkEntry {H : Type} : Lit × DataW H → Nat
  | (.string bytes, d) => bytes.length + uptoBulk d + 1
  | (_, d) => uptoBulk d + 1
 end
def uptoSmall : (H : Type) → List (DataW H) → Bool := fun _ ds => decide (uptoBulkAll ds ≤ 1048576)
def OpenSpec.upto (s : _root_.Go.ChangeSpec) : _root_.Go.OpenSpec := { _root_.Go.OpenSpec.ofChange s with cond := some uptoSmall }

/-- 'laws.FnExactEquitiesOf', WHERE WHAT IT READS IS OF BULK AT MOST 1048576: true; the input reads as it did. -/
def fnExactEquitiesOfUptoRow : OpenClaim := { program := "ytjeefbiiagflhaa", sum := "89329840e2ad616a4bb2dcdae39f2d87187718dd4b904e790279094e164378f2", func := "loop.example/g00910/laws.FnExactEquitiesOf", spec := "fnExactEquitiesOf", unfollowed := true, recurses := true, apart := false, narrowed := true }
def FnExactEquitiesOfUptoSaid : Prop := fnExactEquitiesOfUptoRow.holds Try.pinned (OpenSpec.upto fnExactEquitiesOfSpec)

/-- 'laws.FnEquities', WHERE WHAT IT READS IS OF BULK AT MOST 1048576: true; the input reads as it did. -/
def fnEquitiesUptoRow : OpenClaim := { program := "ytjeefbiiagflhaa", sum := "89329840e2ad616a4bb2dcdae39f2d87187718dd4b904e790279094e164378f2", func := "loop.example/g00910/laws.FnEquities", spec := "fnEquities", unfollowed := true, recurses := true, apart := false, narrowed := true }
def FnEquitiesUptoSaid : Prop := fnEquitiesUptoRow.holds Try.pinned (OpenSpec.upto fnEquitiesSpec)

/-- 'laws.FnParts', WHERE WHAT IT READS IS OF BULK AT MOST 1048576: true; the input reads as it did. -/
def fnPartsUptoRow : OpenClaim := { program := "ytjeefbiiagflhaa", sum := "89329840e2ad616a4bb2dcdae39f2d87187718dd4b904e790279094e164378f2", func := "loop.example/g00910/laws.FnParts", spec := "fnParts", unfollowed := true, recurses := true, apart := false, narrowed := true }
def FnPartsUptoSaid : Prop := fnPartsUptoRow.holds Try.pinned (OpenSpec.upto fnPartsSpec)

end Rows
end Go.Proofs.Ytjeefbiiagflhaa
