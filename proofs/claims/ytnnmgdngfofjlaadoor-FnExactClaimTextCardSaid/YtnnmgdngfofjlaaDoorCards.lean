/-
  DERIVED. GIVEN WITH THE SEED: THE CARDS: each row of YtnnmgdngfofjlaaDoorRows.lean that lists a variable, with what it lists TIED to the program's text (the seventh form; the later family's looks); each row that meets fmt, with fmt's text TOLD by the authors' own Lean function (tested against real Go, not proved from fmt's source: count such statements apart). THE CARD IS WHAT COUNTS. Prove the row's statement (the work); the ties are given (YtnnmgdngfofjlaaDoorTie.lean); close each card by the builder's one call (the guide's Derived/Test/ToyasCard.lean, 'card_holds'). Laid BY PROGRAM, IN A SANDBOX (cutbox-door.mjs). By AI agents, Wed Nov 11 2026. No macro, syntax, notation, axiom, sorry.
-/
import Derived.Test.YtnnmgdngfofjlaaDoorRows
import GoSem.ClaimSeven
namespace Go.Proofs.YtnnmgdngfofjlaaDoor
namespace Rows

/-- THE TIED CARD OF 'laws.FnExactClaimText'. -/
def fnExactClaimTextCard : Claim7 := { stood := { row := fnExactClaimTextRow, standIns := [], harness := (true, "636d9d6bfb48ecc90247b5ce266fd71a50c192fb705f73c9bb1cd08dd0f62976"), looks := false }, kinds := [], alts := [], laidByText := true, laidKinds := [.data, .data, .data], laidTests := true, laidLooks := .later }
def FnExactClaimTextCardSaid : Prop := Claim7.holds Tryd.pinned (.plain (OpenSpec.ofChange fnExactClaimTextSpec)) fnExactClaimTextCard

/-- THE SECOND FORM's CARD OF 'laws.FnExactClaimText'. -/
def fnExactClaimTextUptoCard : Claim7 := { stood := { row := fnExactClaimTextUptoRow, standIns := [], harness := (true, "636d9d6bfb48ecc90247b5ce266fd71a50c192fb705f73c9bb1cd08dd0f62976"), looks := false }, kinds := [], alts := [], laidByText := true, laidKinds := [.data, .data, .data], laidTests := true, laidLooks := .later }
def FnExactClaimTextUptoCardSaid : Prop := Claim7.holds Tryd.pinned (.plain (OpenSpec.upto fnExactClaimTextSpec)) fnExactClaimTextUptoCard
end Rows
end Go.Proofs.YtnnmgdngfofjlaaDoor
