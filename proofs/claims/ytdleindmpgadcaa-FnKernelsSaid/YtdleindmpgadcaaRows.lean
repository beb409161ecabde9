/-
  No cell of these rows narrows 'for every input' (looked for: loops, veiled, ifaces, maps, wideKeys, modest, calm, conditions, laid).
  DERIVED. THE GIVEN ROWS OF THIS SEAT. 8 by the template 'for every input the law returns true; each argument reads behind the call as it read before'; 0 by the template 'total and deterministic' (their statements: YtdleindmpgadcaaTotals.lean).
  GIVEN WITH THE SEED: the statements are not yours to turn. If you find one false, say at which input.
  Laid BY PROGRAM, IN A SANDBOX (cutbox-rows.mjs): the forced cells as the released guide's own fill.sh prints them over the translation 197764a31f8c395f… (all of the seat's roots in one cut). By AI agents, Wed Nov 11 2026. No macro, syntax, notation, axiom, sorry.
-/
import Derived.Test.YtdleindmpgadcaaChecked
import GoSem.Claim
import GoSem.ClaimJoined
import GoSem.ClaimMapViews
import Derived.JoinedTies
import Derived.KernelRfl
namespace Go.Proofs.Ytdleindmpgadcaa
/- THE CELL 'sum', in the pinned program and in every row, IS THE sha256 OF THE DUMP (.gsa) THAT YtdleindmpgadcaaProg.lean LOADS. Nothing in Lean hashes anything: it is a label: what it is worth is what the hold of that sum in a sandbox is worth. -/
noncomputable def Try.pinned : Pinned := { name := "ytdleindmpgadcaa", sum := "197764a31f8c395f13f4711472e258c53d669cac85027ffff6ce1b8419f18c26", checked := Try.checked }
namespace Rows
def none {H : Type} : Left H := { results := [], args := [] }

/-- 'laws.FnExactIsFair': WHATEVER THE INPUT: true; the input reads as it did. -/
def fnExactIsFairSpec : ChangeSpec := { name := "fnExactIsFair", fn := fun _ => fun
  | [d] => { results := [.lit (.bool true)], args := [d] }
  | _ => none }
def fnExactIsFairRow : OpenClaim := { program := "ytdleindmpgadcaa", sum := "197764a31f8c395f13f4711472e258c53d669cac85027ffff6ce1b8419f18c26", func := "loop.example/g00910/laws.FnExactIsFair", spec := "fnExactIsFair", unfollowed := true, recurses := true, apart := false }
def FnExactIsFairSaid : Prop := fnExactIsFairRow.holds Try.pinned (OpenSpec.ofChange fnExactIsFairSpec)

/-- ITS FALSE NEIGHBOUR: 'it returns false'. Refute it at one input. -/
def fnExactIsFairWrong : ChangeSpec := { name := "fnExactIsFair", fn := fun _ => fun
  | [d] => { results := [.lit (.bool false)], args := [d] }
  | _ => none }
def FnExactIsFairWrongFalsely : Prop := fnExactIsFairRow.holds Try.pinned (OpenSpec.ofChange fnExactIsFairWrong)

/-- 'laws.FnExactValueOfMatrix': WHATEVER THE INPUT: true; the input reads as it did. -/
def fnExactValueOfMatrixSpec : ChangeSpec := { name := "fnExactValueOfMatrix", fn := fun _ => fun
  | [d] => { results := [.lit (.bool true)], args := [d] }
  | _ => none }
def fnExactValueOfMatrixRow : OpenClaim := { program := "ytdleindmpgadcaa", sum := "197764a31f8c395f13f4711472e258c53d669cac85027ffff6ce1b8419f18c26", func := "loop.example/g00910/laws.FnExactValueOfMatrix", spec := "fnExactValueOfMatrix", unfollowed := true, recurses := true, apart := false }
def FnExactValueOfMatrixSaid : Prop := fnExactValueOfMatrixRow.holds Try.pinned (OpenSpec.ofChange fnExactValueOfMatrixSpec)

/-- ITS FALSE NEIGHBOUR: 'it returns false'. Refute it at one input. -/
def fnExactValueOfMatrixWrong : ChangeSpec := { name := "fnExactValueOfMatrix", fn := fun _ => fun
  | [d] => { results := [.lit (.bool false)], args := [d] }
  | _ => none }
def FnExactValueOfMatrixWrongFalsely : Prop := fnExactValueOfMatrixRow.holds Try.pinned (OpenSpec.ofChange fnExactValueOfMatrixWrong)

/-- 'laws.FnExactFirstKernel': WHATEVER THE INPUT: true; the input reads as it did. -/
def fnExactFirstKernelSpec : ChangeSpec := { name := "fnExactFirstKernel", fn := fun _ => fun
  | [d] => { results := [.lit (.bool true)], args := [d] }
  | _ => none }
def fnExactFirstKernelRow : OpenClaim := { program := "ytdleindmpgadcaa", sum := "197764a31f8c395f13f4711472e258c53d669cac85027ffff6ce1b8419f18c26", func := "loop.example/g00910/laws.FnExactFirstKernel", spec := "fnExactFirstKernel", unfollowed := true, recurses := true, apart := false }
def FnExactFirstKernelSaid : Prop := fnExactFirstKernelRow.holds Try.pinned (OpenSpec.ofChange fnExactFirstKernelSpec)

/-- ITS FALSE NEIGHBOUR: 'it returns false'. Refute it at one input. -/
def fnExactFirstKernelWrong : ChangeSpec := { name := "fnExactFirstKernel", fn := fun _ => fun
  | [d] => { results := [.lit (.bool false)], args := [d] }
  | _ => none }
def FnExactFirstKernelWrongFalsely : Prop := fnExactFirstKernelRow.holds Try.pinned (OpenSpec.ofChange fnExactFirstKernelWrong)

/-- 'laws.FnExactSolveMatrix': WHATEVER THE INPUT: true; the input reads as it did. -/
def fnExactSolveMatrixSpec : ChangeSpec := { name := "fnExactSolveMatrix", fn := fun _ => fun
  | [d] => { results := [.lit (.bool true)], args := [d] }
  | _ => none }
def fnExactSolveMatrixRow : OpenClaim := { program := "ytdleindmpgadcaa", sum := "197764a31f8c395f13f4711472e258c53d669cac85027ffff6ce1b8419f18c26", func := "loop.example/g00910/laws.FnExactSolveMatrix", spec := "fnExactSolveMatrix", unfollowed := true, recurses := true, apart := false }
def FnExactSolveMatrixSaid : Prop := fnExactSolveMatrixRow.holds Try.pinned (OpenSpec.ofChange fnExactSolveMatrixSpec)

/-- ITS FALSE NEIGHBOUR: 'it returns false'. Refute it at one input. -/
def fnExactSolveMatrixWrong : ChangeSpec := { name := "fnExactSolveMatrix", fn := fun _ => fun
  | [d] => { results := [.lit (.bool false)], args := [d] }
  | _ => none }
def FnExactSolveMatrixWrongFalsely : Prop := fnExactSolveMatrixRow.holds Try.pinned (OpenSpec.ofChange fnExactSolveMatrixWrong)

/-- 'laws.FnSaddles': WHATEVER THE INPUT: true; the input reads as it did. -/
def fnSaddlesSpec : ChangeSpec := { name := "fnSaddles", fn := fun _ => fun
  | [d] => { results := [.lit (.bool true)], args := [d] }
  | _ => none }
def fnSaddlesRow : OpenClaim := { program := "ytdleindmpgadcaa", sum := "197764a31f8c395f13f4711472e258c53d669cac85027ffff6ce1b8419f18c26", func := "loop.example/g00910/laws.FnSaddles", spec := "fnSaddles", unfollowed := true, recurses := true, apart := false }
def FnSaddlesSaid : Prop := fnSaddlesRow.holds Try.pinned (OpenSpec.ofChange fnSaddlesSpec)

/-- ITS FALSE NEIGHBOUR: 'it returns false'. Refute it at one input. -/
def fnSaddlesWrong : ChangeSpec := { name := "fnSaddles", fn := fun _ => fun
  | [d] => { results := [.lit (.bool false)], args := [d] }
  | _ => none }
def FnSaddlesWrongFalsely : Prop := fnSaddlesRow.holds Try.pinned (OpenSpec.ofChange fnSaddlesWrong)

/-- 'laws.FnFlips': WHATEVER THE INPUT: true; the input reads as it did. -/
def fnFlipsSpec : ChangeSpec := { name := "fnFlips", fn := fun _ => fun
  | [d] => { results := [.lit (.bool true)], args := [d] }
  | _ => none }
def fnFlipsRow : OpenClaim := { program := "ytdleindmpgadcaa", sum := "197764a31f8c395f13f4711472e258c53d669cac85027ffff6ce1b8419f18c26", func := "loop.example/g00910/laws.FnFlips", spec := "fnFlips", unfollowed := true, recurses := true, apart := false }
def FnFlipsSaid : Prop := fnFlipsRow.holds Try.pinned (OpenSpec.ofChange fnFlipsSpec)

/-- ITS FALSE NEIGHBOUR: 'it returns false'. Refute it at one input. -/
def fnFlipsWrong : ChangeSpec := { name := "fnFlips", fn := fun _ => fun
  | [d] => { results := [.lit (.bool false)], args := [d] }
  | _ => none }
def FnFlipsWrongFalsely : Prop := fnFlipsRow.holds Try.pinned (OpenSpec.ofChange fnFlipsWrong)

/-- 'laws.FnSolved': WHATEVER THE INPUT: true; the input reads as it did. -/
def fnSolvedSpec : ChangeSpec := { name := "fnSolved", fn := fun _ => fun
  | [d] => { results := [.lit (.bool true)], args := [d] }
  | _ => none }
def fnSolvedRow : OpenClaim := { program := "ytdleindmpgadcaa", sum := "197764a31f8c395f13f4711472e258c53d669cac85027ffff6ce1b8419f18c26", func := "loop.example/g00910/laws.FnSolved", spec := "fnSolved", unfollowed := true, recurses := true, apart := false }
def FnSolvedSaid : Prop := fnSolvedRow.holds Try.pinned (OpenSpec.ofChange fnSolvedSpec)

/-- ITS FALSE NEIGHBOUR: 'it returns false'. Refute it at one input. -/
def fnSolvedWrong : ChangeSpec := { name := "fnSolved", fn := fun _ => fun
  | [d] => { results := [.lit (.bool false)], args := [d] }
  | _ => none }
def FnSolvedWrongFalsely : Prop := fnSolvedRow.holds Try.pinned (OpenSpec.ofChange fnSolvedWrong)

/-- 'laws.FnKernels': WHATEVER THE INPUT: true; the input reads as it did. -/
def fnKernelsSpec : ChangeSpec := { name := "fnKernels", fn := fun _ => fun
  | [d] => { results := [.lit (.bool true)], args := [d] }
  | _ => none }
def fnKernelsRow : OpenClaim := { program := "ytdleindmpgadcaa", sum := "197764a31f8c395f13f4711472e258c53d669cac85027ffff6ce1b8419f18c26", func := "loop.example/g00910/laws.FnKernels", spec := "fnKernels", unfollowed := true, recurses := true, apart := false }
def FnKernelsSaid : Prop := fnKernelsRow.holds Try.pinned (OpenSpec.ofChange fnKernelsSpec)

/-- ITS FALSE NEIGHBOUR: 'it returns false'. Refute it at one input. -/
def fnKernelsWrong : ChangeSpec := { name := "fnKernels", fn := fun _ => fun
  | [d] => { results := [.lit (.bool false)], args := [d] }
  | _ => none }
def FnKernelsWrongFalsely : Prop := fnKernelsRow.holds Try.pinned (OpenSpec.ofChange fnKernelsWrong)

/- THE SECOND FORM. 'bulk': how many values and letters a reading holds, each counted each time it is reached (what is shared counts as often as it is met; a slice's spare places count too). A statement '..UptoSaid' is the law's where the arguments, and the package variables that the reading takes, are together of bulk at most 1048576: NARROWER than '..Said'. Prove '..Said' where nothing that the law and all that it calls make is longer than what came in: it says more and counts as full. Else prove '..UptoSaid'. A law counts once. -/
mutual
def uptoBulk {H : Type} : DataW H → Nat
  | .lit (.string bytes) => bytes.length + 1
  | .lit _ => 1
  | .nil => 1
  | .ptr d => uptoBulk d + 1
  | .slice elems spare => uptoBulkAll elems + uptoBulkAll spare + 1
  | .agg parts => uptoBulkAll parts + 1
  | .iface _ d => uptoBulk d + 1
  | .map entries => uptoBulkEntries entries + 1
  | .held _ => 1
def uptoBulkAll {H : Type} : List (DataW H) → Nat
  | [] => 0
  | d :: r => uptoBulk d + uptoBulkAll r
def uptoBulkEntries {H : Type} : List (Lit × DataW H) → Nat
  | [] => 0
  | x :: r => uptoBulkEntry x + uptoBulkEntries r
def uptoBulkEntry {H : Type} : Lit × DataW H → Nat
  | (.string bytes, d) => bytes.length + uptoBulk d + 1
  | (_, d) => uptoBulk d + 1
 end
def uptoSmall : (H : Type) → List (DataW H) → Bool := fun _ ds => decide (uptoBulkAll ds ≤ 1048576)
def OpenSpec.upto (s : _root_.Go.ChangeSpec) : _root_.Go.OpenSpec := { _root_.Go.OpenSpec.ofChange s with cond := some uptoSmall }

/-- 'laws.FnExactIsFair', WHERE WHAT IT READS IS OF BULK AT MOST 1048576: true; the input reads as it did. -/
def fnExactIsFairUptoRow : OpenClaim := { program := "ytdleindmpgadcaa", sum := "197764a31f8c395f13f4711472e258c53d669cac85027ffff6ce1b8419f18c26", func := "loop.example/g00910/laws.FnExactIsFair", spec := "fnExactIsFair", unfollowed := true, recurses := true, apart := false, narrowed := true }
def FnExactIsFairUptoSaid : Prop := fnExactIsFairUptoRow.holds Try.pinned (OpenSpec.upto fnExactIsFairSpec)

/-- 'laws.FnExactValueOfMatrix', WHERE WHAT IT READS IS OF BULK AT MOST 1048576: true; the input reads as it did. -/
def fnExactValueOfMatrixUptoRow : OpenClaim := { program := "ytdleindmpgadcaa", sum := "197764a31f8c395f13f4711472e258c53d669cac85027ffff6ce1b8419f18c26", func := "loop.example/g00910/laws.FnExactValueOfMatrix", spec := "fnExactValueOfMatrix", unfollowed := true, recurses := true, apart := false, narrowed := true }
def FnExactValueOfMatrixUptoSaid : Prop := fnExactValueOfMatrixUptoRow.holds Try.pinned (OpenSpec.upto fnExactValueOfMatrixSpec)

/-- 'laws.FnExactFirstKernel', WHERE WHAT IT READS IS OF BULK AT MOST 1048576: true; the input reads as it did. -/
def fnExactFirstKernelUptoRow : OpenClaim := { program := "ytdleindmpgadcaa", sum := "197764a31f8c395f13f4711472e258c53d669cac85027ffff6ce1b8419f18c26", func := "loop.example/g00910/laws.FnExactFirstKernel", spec := "fnExactFirstKernel", unfollowed := true, recurses := true, apart := false, narrowed := true }
def FnExactFirstKernelUptoSaid : Prop := fnExactFirstKernelUptoRow.holds Try.pinned (OpenSpec.upto fnExactFirstKernelSpec)

/-- 'laws.FnExactSolveMatrix', WHERE WHAT IT READS IS OF BULK AT MOST 1048576: true; the input reads as it did. -/
def fnExactSolveMatrixUptoRow : OpenClaim := { program := "ytdleindmpgadcaa", sum := "197764a31f8c395f13f4711472e258c53d669cac85027ffff6ce1b8419f18c26", func := "loop.example/g00910/laws.FnExactSolveMatrix", spec := "fnExactSolveMatrix", unfollowed := true, recurses := true, apart := false, narrowed := true }
def FnExactSolveMatrixUptoSaid : Prop := fnExactSolveMatrixUptoRow.holds Try.pinned (OpenSpec.upto fnExactSolveMatrixSpec)

/-- 'laws.FnSaddles', WHERE WHAT IT READS IS OF BULK AT MOST 1048576: true; the input reads as it did. -/
def fnSaddlesUptoRow : OpenClaim := { program := "ytdleindmpgadcaa", sum := "197764a31f8c395f13f4711472e258c53d669cac85027ffff6ce1b8419f18c26", func := "loop.example/g00910/laws.FnSaddles", spec := "fnSaddles", unfollowed := true, recurses := true, apart := false, narrowed := true }
def FnSaddlesUptoSaid : Prop := fnSaddlesUptoRow.holds Try.pinned (OpenSpec.upto fnSaddlesSpec)

/-- 'laws.FnFlips', WHERE WHAT IT READS IS OF BULK AT MOST 1048576: true; the input reads as it did. -/
def fnFlipsUptoRow : OpenClaim := { program := "ytdleindmpgadcaa", sum := "197764a31f8c395f13f4711472e258c53d669cac85027ffff6ce1b8419f18c26", func := "loop.example/g00910/laws.FnFlips", spec := "fnFlips", unfollowed := true, recurses := true, apart := false, narrowed := true }
def FnFlipsUptoSaid : Prop := fnFlipsUptoRow.holds Try.pinned (OpenSpec.upto fnFlipsSpec)

/-- 'laws.FnSolved', WHERE WHAT IT READS IS OF BULK AT MOST 1048576: true; the input reads as it did. -/
def fnSolvedUptoRow : OpenClaim := { program := "ytdleindmpgadcaa", sum := "197764a31f8c395f13f4711472e258c53d669cac85027ffff6ce1b8419f18c26", func := "loop.example/g00910/laws.FnSolved", spec := "fnSolved", unfollowed := true, recurses := true, apart := false, narrowed := true }
def FnSolvedUptoSaid : Prop := fnSolvedUptoRow.holds Try.pinned (OpenSpec.upto fnSolvedSpec)

/-- 'laws.FnKernels', WHERE WHAT IT READS IS OF BULK AT MOST 1048576: true; the input reads as it did. -/
def fnKernelsUptoRow : OpenClaim := { program := "ytdleindmpgadcaa", sum := "197764a31f8c395f13f4711472e258c53d669cac85027ffff6ce1b8419f18c26", func := "loop.example/g00910/laws.FnKernels", spec := "fnKernels", unfollowed := true, recurses := true, apart := false, narrowed := true }
def FnKernelsUptoSaid : Prop := fnKernelsUptoRow.holds Try.pinned (OpenSpec.upto fnKernelsSpec)

end Rows
end Go.Proofs.Ytdleindmpgadcaa
