/-
  DERIVED. GIVEN WITH THE SEED: THE CARDS: each row of YtnnmgdngfofjlaaGreatDoorRows.lean that lists a variable, with what it lists TIED to the program's text (the seventh form; the later family's looks); each row that meets fmt, with fmt's text TOLD by the authors' own Lean function (tested against real Go, not proved from fmt's source: count such statements apart). THE CARD IS WHAT COUNTS. Prove the row's statement (the work); the ties are given (YtnnmgdngfofjlaaGreatDoorTie.lean); close each card by the builder's one call (the guide's Derived/Test/ToyasCard.lean, 'card_holds'). Laid BY PROGRAM, IN A SANDBOX (cutbox-door.mjs). By AI agents, Wed Nov 11 2026. No macro, syntax, notation, axiom, sorry.
-/
import Derived.Test.YtnnmgdngfofjlaaGreatDoorRows
import GoSem.ClaimSeven
namespace Go.Proofs.YtnnmgdngfofjlaaGreatDoor
namespace Rows

/-- THE TIED CARD OF 'laws.FnMadeClaims'. -/
def fnMadeClaimsCard : Claim7 := { stood := { row := fnMadeClaimsRow, standIns := [], harness := (true, "457d5a68c50ec6929b8089548fd6f3c59042497bb0f83062e2fdf707df3b14c6"), looks := false }, kinds := [], alts := [], laidByText := true, laidKinds := [.data, .data, .data], laidTests := true, laidLooks := .later }
def FnMadeClaimsCardSaid : Prop := Claim7.holds Tryz.pinned (.plain (OpenSpec.ofChange fnMadeClaimsSpec)) fnMadeClaimsCard

/-- THE SECOND FORM's CARD OF 'laws.FnMadeClaims'. -/
def fnMadeClaimsUptoCard : Claim7 := { stood := { row := fnMadeClaimsUptoRow, standIns := [], harness := (true, "457d5a68c50ec6929b8089548fd6f3c59042497bb0f83062e2fdf707df3b14c6"), looks := false }, kinds := [], alts := [], laidByText := true, laidKinds := [.data, .data, .data], laidTests := true, laidLooks := .later }
def FnMadeClaimsUptoCardSaid : Prop := Claim7.holds Tryz.pinned (.plain (OpenSpec.upto fnMadeClaimsSpec)) fnMadeClaimsUptoCard
end Rows
end Go.Proofs.YtnnmgdngfofjlaaGreatDoor
