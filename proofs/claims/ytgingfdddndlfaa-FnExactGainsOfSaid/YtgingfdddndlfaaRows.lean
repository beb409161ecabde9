/-
  No cell of these rows narrows 'for every input' (looked for: loops, veiled, ifaces, maps, wideKeys, modest, calm, conditions, laid).
  DERIVED. THE GIVEN ROWS OF THIS SEAT. 15 by the template 'for every input the law returns true; each argument reads behind the call as it read before'; 0 by the template 'total and deterministic' (their statements: YtgingfdddndlfaaTotals.lean).
  GIVEN WITH THE SEED: the statements are not yours to turn. If you find one false, say at which input.
  Laid BY PROGRAM, IN A SANDBOX (cutbox-rows.mjs): the forced cells as the released guide's own fill.sh prints them over the translation e477056491e4c197… (all of the seat's roots in one cut). By AI agents, Wed Nov 11 2026. No macro, syntax, notation, axiom, sorry.
-/
import Derived.Test.YtgingfdddndlfaaChecked
import GoSem.Claim
import GoSem.ClaimJoined
import GoSem.ClaimMapViews
import Derived.JoinedTies
import Derived.KernelRfl
namespace Go.Proofs.Ytgingfdddndlfaa
/- THE CELL 'sum', in the pinned program and in every row, IS THE sha256 OF THE DUMP (.gsa) THAT YtgingfdddndlfaaProg.lean LOADS. Nothing in Lean hashes anything: it is a label: what it is worth is what the hold of that sum in a sandbox is worth. -/
noncomputable def Try.pinned : Pinned := { name := "ytgingfdddndlfaa", sum := "e477056491e4c1975443f8df3f6318bc49456500f2d9fe51c4671e2fa07a1cf1", checked := Try.checked }
namespace Rows
def none {H : Type} : Left H := { results := [], args := [] }

/-- 'laws.FnExactBestNumber': WHATEVER THE INPUT: true; the input reads as it did. -/
def fnExactBestNumberSpec : ChangeSpec := { name := "fnExactBestNumber", fn := fun _ => fun
  | [d1, d2] => { results := [.lit (.bool true)], args := [d1, d2] }
  | _ => none }
def fnExactBestNumberRow : OpenClaim := { program := "ytgingfdddndlfaa", sum := "e477056491e4c1975443f8df3f6318bc49456500f2d9fe51c4671e2fa07a1cf1", func := "loop.example/g00910/laws.FnExactBestNumber", spec := "fnExactBestNumber", recurses := true, apart := false }
def FnExactBestNumberSaid : Prop := fnExactBestNumberRow.holds Try.pinned (OpenSpec.ofChange fnExactBestNumberSpec)

/-- ITS FALSE NEIGHBOUR: 'it returns false'. Refute it at one input. -/
def fnExactBestNumberWrong : ChangeSpec := { name := "fnExactBestNumber", fn := fun _ => fun
  | [d1, d2] => { results := [.lit (.bool false)], args := [d1, d2] }
  | _ => none }
def FnExactBestNumberWrongFalsely : Prop := fnExactBestNumberRow.holds Try.pinned (OpenSpec.ofChange fnExactBestNumberWrong)

/-- 'laws.FnExactValueBounds': WHATEVER THE INPUT: true; the input reads as it did. -/
def fnExactValueBoundsSpec : ChangeSpec := { name := "fnExactValueBounds", fn := fun _ => fun
  | [d1, d2, d3] => { results := [.lit (.bool true)], args := [d1, d2, d3] }
  | _ => none }
def fnExactValueBoundsRow : OpenClaim := { program := "ytgingfdddndlfaa", sum := "e477056491e4c1975443f8df3f6318bc49456500f2d9fe51c4671e2fa07a1cf1", func := "loop.example/g00910/laws.FnExactValueBounds", spec := "fnExactValueBounds", recurses := true, apart := false }
def FnExactValueBoundsSaid : Prop := fnExactValueBoundsRow.holds Try.pinned (OpenSpec.ofChange fnExactValueBoundsSpec)

/-- ITS FALSE NEIGHBOUR: 'it returns false'. Refute it at one input. -/
def fnExactValueBoundsWrong : ChangeSpec := { name := "fnExactValueBounds", fn := fun _ => fun
  | [d1, d2, d3] => { results := [.lit (.bool false)], args := [d1, d2, d3] }
  | _ => none }
def FnExactValueBoundsWrongFalsely : Prop := fnExactValueBoundsRow.holds Try.pinned (OpenSpec.ofChange fnExactValueBoundsWrong)

/-- 'laws.FnExactExploitability': WHATEVER THE INPUT: true; the input reads as it did. -/
def fnExactExploitabilitySpec : ChangeSpec := { name := "fnExactExploitability", fn := fun _ => fun
  | [d1, d2, d3] => { results := [.lit (.bool true)], args := [d1, d2, d3] }
  | _ => none }
def fnExactExploitabilityRow : OpenClaim := { program := "ytgingfdddndlfaa", sum := "e477056491e4c1975443f8df3f6318bc49456500f2d9fe51c4671e2fa07a1cf1", func := "loop.example/g00910/laws.FnExactExploitability", spec := "fnExactExploitability", recurses := true, apart := false }
def FnExactExploitabilitySaid : Prop := fnExactExploitabilityRow.holds Try.pinned (OpenSpec.ofChange fnExactExploitabilitySpec)

/-- ITS FALSE NEIGHBOUR: 'it returns false'. Refute it at one input. -/
def fnExactExploitabilityWrong : ChangeSpec := { name := "fnExactExploitability", fn := fun _ => fun
  | [d1, d2, d3] => { results := [.lit (.bool false)], args := [d1, d2, d3] }
  | _ => none }
def FnExactExploitabilityWrongFalsely : Prop := fnExactExploitabilityRow.holds Try.pinned (OpenSpec.ofChange fnExactExploitabilityWrong)

/-- 'laws.FnExactIsEquilibrium': WHATEVER THE INPUT: true; the input reads as it did. -/
def fnExactIsEquilibriumSpec : ChangeSpec := { name := "fnExactIsEquilibrium", fn := fun _ => fun
  | [d1, d2, d3] => { results := [.lit (.bool true)], args := [d1, d2, d3] }
  | _ => none }
def fnExactIsEquilibriumRow : OpenClaim := { program := "ytgingfdddndlfaa", sum := "e477056491e4c1975443f8df3f6318bc49456500f2d9fe51c4671e2fa07a1cf1", func := "loop.example/g00910/laws.FnExactIsEquilibrium", spec := "fnExactIsEquilibrium", recurses := true, apart := false }
def FnExactIsEquilibriumSaid : Prop := fnExactIsEquilibriumRow.holds Try.pinned (OpenSpec.ofChange fnExactIsEquilibriumSpec)

/-- ITS FALSE NEIGHBOUR: 'it returns false'. Refute it at one input. -/
def fnExactIsEquilibriumWrong : ChangeSpec := { name := "fnExactIsEquilibrium", fn := fun _ => fun
  | [d1, d2, d3] => { results := [.lit (.bool false)], args := [d1, d2, d3] }
  | _ => none }
def FnExactIsEquilibriumWrongFalsely : Prop := fnExactIsEquilibriumRow.holds Try.pinned (OpenSpec.ofChange fnExactIsEquilibriumWrong)

/-- 'laws.FnExactIsProved': WHATEVER THE INPUT: true; the input reads as it did. -/
def fnExactIsProvedSpec : ChangeSpec := { name := "fnExactIsProved", fn := fun _ => fun
  | [d1, d2] => { results := [.lit (.bool true)], args := [d1, d2] }
  | _ => none }
def fnExactIsProvedRow : OpenClaim := { program := "ytgingfdddndlfaa", sum := "e477056491e4c1975443f8df3f6318bc49456500f2d9fe51c4671e2fa07a1cf1", func := "loop.example/g00910/laws.FnExactIsProved", spec := "fnExactIsProved", recurses := true, apart := false }
def FnExactIsProvedSaid : Prop := fnExactIsProvedRow.holds Try.pinned (OpenSpec.ofChange fnExactIsProvedSpec)

/-- ITS FALSE NEIGHBOUR: 'it returns false'. Refute it at one input. -/
def fnExactIsProvedWrong : ChangeSpec := { name := "fnExactIsProved", fn := fun _ => fun
  | [d1, d2] => { results := [.lit (.bool false)], args := [d1, d2] }
  | _ => none }
def FnExactIsProvedWrongFalsely : Prop := fnExactIsProvedRow.holds Try.pinned (OpenSpec.ofChange fnExactIsProvedWrong)

/-- 'laws.FnExactBestResponse': WHATEVER THE INPUT: true; the input reads as it did. -/
def fnExactBestResponseSpec : ChangeSpec := { name := "fnExactBestResponse", fn := fun _ => fun
  | [d1, d2] => { results := [.lit (.bool true)], args := [d1, d2] }
  | _ => none }
def fnExactBestResponseRow : OpenClaim := { program := "ytgingfdddndlfaa", sum := "e477056491e4c1975443f8df3f6318bc49456500f2d9fe51c4671e2fa07a1cf1", func := "loop.example/g00910/laws.FnExactBestResponse", spec := "fnExactBestResponse", recurses := true, apart := false }
def FnExactBestResponseSaid : Prop := fnExactBestResponseRow.holds Try.pinned (OpenSpec.ofChange fnExactBestResponseSpec)

/-- ITS FALSE NEIGHBOUR: 'it returns false'. Refute it at one input. -/
def fnExactBestResponseWrong : ChangeSpec := { name := "fnExactBestResponse", fn := fun _ => fun
  | [d1, d2] => { results := [.lit (.bool false)], args := [d1, d2] }
  | _ => none }
def FnExactBestResponseWrongFalsely : Prop := fnExactBestResponseRow.holds Try.pinned (OpenSpec.ofChange fnExactBestResponseWrong)

/-- 'laws.FnExactWidthOf': WHATEVER THE INPUT: true; the input reads as it did. -/
def fnExactWidthOfSpec : ChangeSpec := { name := "fnExactWidthOf", fn := fun _ => fun
  | [d1, d2] => { results := [.lit (.bool true)], args := [d1, d2] }
  | _ => none }
def fnExactWidthOfRow : OpenClaim := { program := "ytgingfdddndlfaa", sum := "e477056491e4c1975443f8df3f6318bc49456500f2d9fe51c4671e2fa07a1cf1", func := "loop.example/g00910/laws.FnExactWidthOf", spec := "fnExactWidthOf", recurses := true, apart := false }
def FnExactWidthOfSaid : Prop := fnExactWidthOfRow.holds Try.pinned (OpenSpec.ofChange fnExactWidthOfSpec)

/-- ITS FALSE NEIGHBOUR: 'it returns false'. Refute it at one input. -/
def fnExactWidthOfWrong : ChangeSpec := { name := "fnExactWidthOf", fn := fun _ => fun
  | [d1, d2] => { results := [.lit (.bool false)], args := [d1, d2] }
  | _ => none }
def FnExactWidthOfWrongFalsely : Prop := fnExactWidthOfRow.holds Try.pinned (OpenSpec.ofChange fnExactWidthOfWrong)

/-- 'laws.FnExactGainsOf': WHATEVER THE INPUT: true; the input reads as it did. -/
def fnExactGainsOfSpec : ChangeSpec := { name := "fnExactGainsOf", fn := fun _ => fun
  | [d1, d2, d3] => { results := [.lit (.bool true)], args := [d1, d2, d3] }
  | _ => none }
def fnExactGainsOfRow : OpenClaim := { program := "ytgingfdddndlfaa", sum := "e477056491e4c1975443f8df3f6318bc49456500f2d9fe51c4671e2fa07a1cf1", func := "loop.example/g00910/laws.FnExactGainsOf", spec := "fnExactGainsOf", recurses := true, apart := false }
def FnExactGainsOfSaid : Prop := fnExactGainsOfRow.holds Try.pinned (OpenSpec.ofChange fnExactGainsOfSpec)

/-- ITS FALSE NEIGHBOUR: 'it returns false'. Refute it at one input. -/
def fnExactGainsOfWrong : ChangeSpec := { name := "fnExactGainsOf", fn := fun _ => fun
  | [d1, d2, d3] => { results := [.lit (.bool false)], args := [d1, d2, d3] }
  | _ => none }
def FnExactGainsOfWrongFalsely : Prop := fnExactGainsOfRow.holds Try.pinned (OpenSpec.ofChange fnExactGainsOfWrong)

/-- 'laws.FnExactRespondInTurn': WHATEVER THE INPUT: true; the input reads as it did. -/
def fnExactRespondInTurnSpec : ChangeSpec := { name := "fnExactRespondInTurn", fn := fun _ => fun
  | [d1, d2, d3, d4] => { results := [.lit (.bool true)], args := [d1, d2, d3, d4] }
  | _ => none }
def fnExactRespondInTurnRow : OpenClaim := { program := "ytgingfdddndlfaa", sum := "e477056491e4c1975443f8df3f6318bc49456500f2d9fe51c4671e2fa07a1cf1", func := "loop.example/g00910/laws.FnExactRespondInTurn", spec := "fnExactRespondInTurn", recurses := true, apart := false }
def FnExactRespondInTurnSaid : Prop := fnExactRespondInTurnRow.holds Try.pinned (OpenSpec.ofChange fnExactRespondInTurnSpec)

/-- ITS FALSE NEIGHBOUR: 'it returns false'. Refute it at one input. -/
def fnExactRespondInTurnWrong : ChangeSpec := { name := "fnExactRespondInTurn", fn := fun _ => fun
  | [d1, d2, d3, d4] => { results := [.lit (.bool false)], args := [d1, d2, d3, d4] }
  | _ => none }
def FnExactRespondInTurnWrongFalsely : Prop := fnExactRespondInTurnRow.holds Try.pinned (OpenSpec.ofChange fnExactRespondInTurnWrong)

/-- 'laws.FnExactMakeClaim': WHATEVER THE INPUT: true; the input reads as it did. -/
def fnExactMakeClaimSpec : ChangeSpec := { name := "fnExactMakeClaim", fn := fun _ => fun
  | [d1, d2, d3] => { results := [.lit (.bool true)], args := [d1, d2, d3] }
  | _ => none }
def fnExactMakeClaimRow : OpenClaim := { program := "ytgingfdddndlfaa", sum := "e477056491e4c1975443f8df3f6318bc49456500f2d9fe51c4671e2fa07a1cf1", func := "loop.example/g00910/laws.FnExactMakeClaim", spec := "fnExactMakeClaim", recurses := true, apart := false }
def FnExactMakeClaimSaid : Prop := fnExactMakeClaimRow.holds Try.pinned (OpenSpec.ofChange fnExactMakeClaimSpec)

/-- ITS FALSE NEIGHBOUR: 'it returns false'. Refute it at one input. -/
def fnExactMakeClaimWrong : ChangeSpec := { name := "fnExactMakeClaim", fn := fun _ => fun
  | [d1, d2, d3] => { results := [.lit (.bool false)], args := [d1, d2, d3] }
  | _ => none }
def FnExactMakeClaimWrongFalsely : Prop := fnExactMakeClaimRow.holds Try.pinned (OpenSpec.ofChange fnExactMakeClaimWrong)

/-- 'laws.FnExactJoinClaims': WHATEVER THE INPUT: true; the input reads as it did. -/
def fnExactJoinClaimsSpec : ChangeSpec := { name := "fnExactJoinClaims", fn := fun _ => fun
  | [d1, d2, d3] => { results := [.lit (.bool true)], args := [d1, d2, d3] }
  | _ => none }
def fnExactJoinClaimsRow : OpenClaim := { program := "ytgingfdddndlfaa", sum := "e477056491e4c1975443f8df3f6318bc49456500f2d9fe51c4671e2fa07a1cf1", func := "loop.example/g00910/laws.FnExactJoinClaims", spec := "fnExactJoinClaims", recurses := true, apart := false }
def FnExactJoinClaimsSaid : Prop := fnExactJoinClaimsRow.holds Try.pinned (OpenSpec.ofChange fnExactJoinClaimsSpec)

/-- ITS FALSE NEIGHBOUR: 'it returns false'. Refute it at one input. -/
def fnExactJoinClaimsWrong : ChangeSpec := { name := "fnExactJoinClaims", fn := fun _ => fun
  | [d1, d2, d3] => { results := [.lit (.bool false)], args := [d1, d2, d3] }
  | _ => none }
def FnExactJoinClaimsWrongFalsely : Prop := fnExactJoinClaimsRow.holds Try.pinned (OpenSpec.ofChange fnExactJoinClaimsWrong)

/-- 'laws.FnExploited': WHATEVER THE INPUT: true; the input reads as it did. -/
def fnExploitedSpec : ChangeSpec := { name := "fnExploited", fn := fun _ => fun
  | [d] => { results := [.lit (.bool true)], args := [d] }
  | _ => none }
def fnExploitedRow : OpenClaim := { program := "ytgingfdddndlfaa", sum := "e477056491e4c1975443f8df3f6318bc49456500f2d9fe51c4671e2fa07a1cf1", func := "loop.example/g00910/laws.FnExploited", spec := "fnExploited", recurses := true, apart := false }
def FnExploitedSaid : Prop := fnExploitedRow.holds Try.pinned (OpenSpec.ofChange fnExploitedSpec)

/-- ITS FALSE NEIGHBOUR: 'it returns false'. Refute it at one input. -/
def fnExploitedWrong : ChangeSpec := { name := "fnExploited", fn := fun _ => fun
  | [d] => { results := [.lit (.bool false)], args := [d] }
  | _ => none }
def FnExploitedWrongFalsely : Prop := fnExploitedRow.holds Try.pinned (OpenSpec.ofChange fnExploitedWrong)

/-- 'laws.FnBestResponses': WHATEVER THE INPUT: true; the input reads as it did. -/
def fnBestResponsesSpec : ChangeSpec := { name := "fnBestResponses", fn := fun _ => fun
  | [d] => { results := [.lit (.bool true)], args := [d] }
  | _ => none }
def fnBestResponsesRow : OpenClaim := { program := "ytgingfdddndlfaa", sum := "e477056491e4c1975443f8df3f6318bc49456500f2d9fe51c4671e2fa07a1cf1", func := "loop.example/g00910/laws.FnBestResponses", spec := "fnBestResponses", unfollowed := true, recurses := true, apart := false }
def FnBestResponsesSaid : Prop := fnBestResponsesRow.holds Try.pinned (OpenSpec.ofChange fnBestResponsesSpec)

/-- ITS FALSE NEIGHBOUR: 'it returns false'. Refute it at one input. -/
def fnBestResponsesWrong : ChangeSpec := { name := "fnBestResponses", fn := fun _ => fun
  | [d] => { results := [.lit (.bool false)], args := [d] }
  | _ => none }
def FnBestResponsesWrongFalsely : Prop := fnBestResponsesRow.holds Try.pinned (OpenSpec.ofChange fnBestResponsesWrong)

/-- 'laws.FnClaims': WHATEVER THE INPUT: true; the input reads as it did. -/
def fnClaimsSpec : ChangeSpec := { name := "fnClaims", fn := fun _ => fun
  | [d] => { results := [.lit (.bool true)], args := [d] }
  | _ => none }
def fnClaimsRow : OpenClaim := { program := "ytgingfdddndlfaa", sum := "e477056491e4c1975443f8df3f6318bc49456500f2d9fe51c4671e2fa07a1cf1", func := "loop.example/g00910/laws.FnClaims", spec := "fnClaims", recurses := true, apart := false }
def FnClaimsSaid : Prop := fnClaimsRow.holds Try.pinned (OpenSpec.ofChange fnClaimsSpec)

/-- ITS FALSE NEIGHBOUR: 'it returns false'. Refute it at one input. -/
def fnClaimsWrong : ChangeSpec := { name := "fnClaims", fn := fun _ => fun
  | [d] => { results := [.lit (.bool false)], args := [d] }
  | _ => none }
def FnClaimsWrongFalsely : Prop := fnClaimsRow.holds Try.pinned (OpenSpec.ofChange fnClaimsWrong)

/-- 'laws.FnValueBounds': WHATEVER THE INPUT: true; the input reads as it did. -/
def fnValueBoundsSpec : ChangeSpec := { name := "fnValueBounds", fn := fun _ => fun
  | [d] => { results := [.lit (.bool true)], args := [d] }
  | _ => none }
def fnValueBoundsRow : OpenClaim := { program := "ytgingfdddndlfaa", sum := "e477056491e4c1975443f8df3f6318bc49456500f2d9fe51c4671e2fa07a1cf1", func := "loop.example/g00910/laws.FnValueBounds", spec := "fnValueBounds", recurses := true, apart := false }
def FnValueBoundsSaid : Prop := fnValueBoundsRow.holds Try.pinned (OpenSpec.ofChange fnValueBoundsSpec)

/-- ITS FALSE NEIGHBOUR: 'it returns false'. Refute it at one input. -/
def fnValueBoundsWrong : ChangeSpec := { name := "fnValueBounds", fn := fun _ => fun
  | [d] => { results := [.lit (.bool false)], args := [d] }
  | _ => none }
def FnValueBoundsWrongFalsely : Prop := fnValueBoundsRow.holds Try.pinned (OpenSpec.ofChange fnValueBoundsWrong)

/- THE SECOND FORM. 'bulk': how many values and letters a reading holds, each counted each time it is reached (what is shared counts as often as it is met; a slice's spare places count too). A statement '..UptoSaid' is the law's where the arguments, and the package variables that the reading takes, are together of bulk at most 1048576: NARROWER than '..Said'. Prove '..Said' where nothing that the law and all that it calls make is longer than what came in: it says more and counts as full. Else prove '..UptoSaid'. A law counts once. -/
mutual
def uptoBulk {H : Type} : DataW H → Nat
  | .lit (.string bytes) => bytes.length + 1
  | .lit _ => 1
  | .nil => 1
  | .ptr d => uptoBulk d + 1
  | .slice elems spare => uptoBulkAll elems + uptoBulkAll spare + 1
  | .agg parts => uptoBulkAll parts + 1
  | .iface _ d => uptoBulk d + 1
  | .map entries => uptoBulkEntries entries + 1
  | .held _ => 1
def uptoBulkAll {H : Type} : List (DataW H) → Nat
  | [] => 0
  | d :: r => uptoBulk d + uptoBulkAll r
def uptoBulkEntries {H : Type} : List (Lit × DataW H) → Nat
  | [] => 0
  | x :: r => uptoBulkEntry x + uptoBulkEntries r
def uptoBulkEntry {H : Type} : Lit × DataW H → Nat
  | (.string bytes, d) => bytes.length + uptoBulk d + 1
  | (_, d) => uptoBulk d + 1
 end
def uptoSmall : (H : Type) → List (DataW H) → Bool := fun _ ds => decide (uptoBulkAll ds ≤ 1048576)
def OpenSpec.upto (s : _root_.Go.ChangeSpec) : _root_.Go.OpenSpec := { _root_.Go.OpenSpec.ofChange s with cond := some uptoSmall }

/-- 'laws.FnExactBestNumber', WHERE WHAT IT READS IS OF BULK AT MOST 1048576: true; the input reads as it did. -/
def fnExactBestNumberUptoRow : OpenClaim := { program := "ytgingfdddndlfaa", sum := "e477056491e4c1975443f8df3f6318bc49456500f2d9fe51c4671e2fa07a1cf1", func := "loop.example/g00910/laws.FnExactBestNumber", spec := "fnExactBestNumber", recurses := true, apart := false, narrowed := true }
def FnExactBestNumberUptoSaid : Prop := fnExactBestNumberUptoRow.holds Try.pinned (OpenSpec.upto fnExactBestNumberSpec)

/-- 'laws.FnExactValueBounds', WHERE WHAT IT READS IS OF BULK AT MOST 1048576: true; the input reads as it did. -/
def fnExactValueBoundsUptoRow : OpenClaim := { program := "ytgingfdddndlfaa", sum := "e477056491e4c1975443f8df3f6318bc49456500f2d9fe51c4671e2fa07a1cf1", func := "loop.example/g00910/laws.FnExactValueBounds", spec := "fnExactValueBounds", recurses := true, apart := false, narrowed := true }
def FnExactValueBoundsUptoSaid : Prop := fnExactValueBoundsUptoRow.holds Try.pinned (OpenSpec.upto fnExactValueBoundsSpec)

/-- 'laws.FnExactExploitability', WHERE WHAT IT READS IS OF BULK AT MOST 1048576: true; the input reads as it did. -/
def fnExactExploitabilityUptoRow : OpenClaim := { program := "ytgingfdddndlfaa", sum := "e477056491e4c1975443f8df3f6318bc49456500f2d9fe51c4671e2fa07a1cf1", func := "loop.example/g00910/laws.FnExactExploitability", spec := "fnExactExploitability", recurses := true, apart := false, narrowed := true }
def FnExactExploitabilityUptoSaid : Prop := fnExactExploitabilityUptoRow.holds Try.pinned (OpenSpec.upto fnExactExploitabilitySpec)

/-- 'laws.FnExactIsEquilibrium', WHERE WHAT IT READS IS OF BULK AT MOST 1048576: true; the input reads as it did. -/
def fnExactIsEquilibriumUptoRow : OpenClaim := { program := "ytgingfdddndlfaa", sum := "e477056491e4c1975443f8df3f6318bc49456500f2d9fe51c4671e2fa07a1cf1", func := "loop.example/g00910/laws.FnExactIsEquilibrium", spec := "fnExactIsEquilibrium", recurses := true, apart := false, narrowed := true }
def FnExactIsEquilibriumUptoSaid : Prop := fnExactIsEquilibriumUptoRow.holds Try.pinned (OpenSpec.upto fnExactIsEquilibriumSpec)

/-- 'laws.FnExactIsProved', WHERE WHAT IT READS IS OF BULK AT MOST 1048576: true; the input reads as it did. -/
def fnExactIsProvedUptoRow : OpenClaim := { program := "ytgingfdddndlfaa", sum := "e477056491e4c1975443f8df3f6318bc49456500f2d9fe51c4671e2fa07a1cf1", func := "loop.example/g00910/laws.FnExactIsProved", spec := "fnExactIsProved", recurses := true, apart := false, narrowed := true }
def FnExactIsProvedUptoSaid : Prop := fnExactIsProvedUptoRow.holds Try.pinned (OpenSpec.upto fnExactIsProvedSpec)

/-- 'laws.FnExactBestResponse', WHERE WHAT IT READS IS OF BULK AT MOST 1048576: true; the input reads as it did. -/
def fnExactBestResponseUptoRow : OpenClaim := { program := "ytgingfdddndlfaa", sum := "e477056491e4c1975443f8df3f6318bc49456500f2d9fe51c4671e2fa07a1cf1", func := "loop.example/g00910/laws.FnExactBestResponse", spec := "fnExactBestResponse", recurses := true, apart := false, narrowed := true }
def FnExactBestResponseUptoSaid : Prop := fnExactBestResponseUptoRow.holds Try.pinned (OpenSpec.upto fnExactBestResponseSpec)

/-- 'laws.FnExactWidthOf', WHERE WHAT IT READS IS OF BULK AT MOST 1048576: true; the input reads as it did. -/
def fnExactWidthOfUptoRow : OpenClaim := { program := "ytgingfdddndlfaa", sum := "e477056491e4c1975443f8df3f6318bc49456500f2d9fe51c4671e2fa07a1cf1", func := "loop.example/g00910/laws.FnExactWidthOf", spec := "fnExactWidthOf", recurses := true, apart := false, narrowed := true }
def FnExactWidthOfUptoSaid : Prop := fnExactWidthOfUptoRow.holds Try.pinned (OpenSpec.upto fnExactWidthOfSpec)

/-- 'laws.FnExactGainsOf', WHERE WHAT IT READS IS OF BULK AT MOST 1048576: true; the input reads as it did. -/
def fnExactGainsOfUptoRow : OpenClaim := { program := "ytgingfdddndlfaa", sum := "e477056491e4c1975443f8df3f6318bc49456500f2d9fe51c4671e2fa07a1cf1", func := "loop.example/g00910/laws.FnExactGainsOf", spec := "fnExactGainsOf", recurses := true, apart := false, narrowed := true }
def FnExactGainsOfUptoSaid : Prop := fnExactGainsOfUptoRow.holds Try.pinned (OpenSpec.upto fnExactGainsOfSpec)

/-- 'laws.FnExactRespondInTurn', WHERE WHAT IT READS IS OF BULK AT MOST 1048576: true; the input reads as it did. -/
def fnExactRespondInTurnUptoRow : OpenClaim := { program := "ytgingfdddndlfaa", sum := "e477056491e4c1975443f8df3f6318bc49456500f2d9fe51c4671e2fa07a1cf1", func := "loop.example/g00910/laws.FnExactRespondInTurn", spec := "fnExactRespondInTurn", recurses := true, apart := false, narrowed := true }
def FnExactRespondInTurnUptoSaid : Prop := fnExactRespondInTurnUptoRow.holds Try.pinned (OpenSpec.upto fnExactRespondInTurnSpec)

/-- 'laws.FnExactMakeClaim', WHERE WHAT IT READS IS OF BULK AT MOST 1048576: true; the input reads as it did. -/
def fnExactMakeClaimUptoRow : OpenClaim := { program := "ytgingfdddndlfaa", sum := "e477056491e4c1975443f8df3f6318bc49456500f2d9fe51c4671e2fa07a1cf1", func := "loop.example/g00910/laws.FnExactMakeClaim", spec := "fnExactMakeClaim", recurses := true, apart := false, narrowed := true }
def FnExactMakeClaimUptoSaid : Prop := fnExactMakeClaimUptoRow.holds Try.pinned (OpenSpec.upto fnExactMakeClaimSpec)

/-- 'laws.FnExactJoinClaims', WHERE WHAT IT READS IS OF BULK AT MOST 1048576: true; the input reads as it did. -/
def fnExactJoinClaimsUptoRow : OpenClaim := { program := "ytgingfdddndlfaa", sum := "e477056491e4c1975443f8df3f6318bc49456500f2d9fe51c4671e2fa07a1cf1", func := "loop.example/g00910/laws.FnExactJoinClaims", spec := "fnExactJoinClaims", recurses := true, apart := false, narrowed := true }
def FnExactJoinClaimsUptoSaid : Prop := fnExactJoinClaimsUptoRow.holds Try.pinned (OpenSpec.upto fnExactJoinClaimsSpec)

/-- 'laws.FnExploited', WHERE WHAT IT READS IS OF BULK AT MOST 1048576: true; the input reads as it did. -/
def fnExploitedUptoRow : OpenClaim := { program := "ytgingfdddndlfaa", sum := "e477056491e4c1975443f8df3f6318bc49456500f2d9fe51c4671e2fa07a1cf1", func := "loop.example/g00910/laws.FnExploited", spec := "fnExploited", recurses := true, apart := false, narrowed := true }
def FnExploitedUptoSaid : Prop := fnExploitedUptoRow.holds Try.pinned (OpenSpec.upto fnExploitedSpec)

/-- 'laws.FnBestResponses', WHERE WHAT IT READS IS OF BULK AT MOST 1048576: true; the input reads as it did. -/
def fnBestResponsesUptoRow : OpenClaim := { program := "ytgingfdddndlfaa", sum := "e477056491e4c1975443f8df3f6318bc49456500f2d9fe51c4671e2fa07a1cf1", func := "loop.example/g00910/laws.FnBestResponses", spec := "fnBestResponses", unfollowed := true, recurses := true, apart := false, narrowed := true }
def FnBestResponsesUptoSaid : Prop := fnBestResponsesUptoRow.holds Try.pinned (OpenSpec.upto fnBestResponsesSpec)

/-- 'laws.FnClaims', WHERE WHAT IT READS IS OF BULK AT MOST 1048576: true; the input reads as it did. -/
def fnClaimsUptoRow : OpenClaim := { program := "ytgingfdddndlfaa", sum := "e477056491e4c1975443f8df3f6318bc49456500f2d9fe51c4671e2fa07a1cf1", func := "loop.example/g00910/laws.FnClaims", spec := "fnClaims", recurses := true, apart := false, narrowed := true }
def FnClaimsUptoSaid : Prop := fnClaimsUptoRow.holds Try.pinned (OpenSpec.upto fnClaimsSpec)

/-- 'laws.FnValueBounds', WHERE WHAT IT READS IS OF BULK AT MOST 1048576: true; the input reads as it did. -/
def fnValueBoundsUptoRow : OpenClaim := { program := "ytgingfdddndlfaa", sum := "e477056491e4c1975443f8df3f6318bc49456500f2d9fe51c4671e2fa07a1cf1", func := "loop.example/g00910/laws.FnValueBounds", spec := "fnValueBounds", recurses := true, apart := false, narrowed := true }
def FnValueBoundsUptoSaid : Prop := fnValueBoundsUptoRow.holds Try.pinned (OpenSpec.upto fnValueBoundsSpec)

end Rows
end Go.Proofs.Ytgingfdddndlfaa
