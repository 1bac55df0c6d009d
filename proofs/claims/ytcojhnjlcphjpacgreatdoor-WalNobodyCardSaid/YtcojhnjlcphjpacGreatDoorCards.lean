/-
  DERIVED. GIVEN WITH THE SEED: THE CARDS: each row of YtcojhnjlcphjpacGreatDoorRows.lean that lists a variable, with what it lists TIED to the program's text (the seventh form; the later family's looks); each row that meets fmt, with fmt's text TOLD by the authors' own Lean function (tested against real Go, not proved from fmt's source: count such statements apart). THE CARD IS WHAT COUNTS. Prove the row's statement (the work); the ties are given (YtcojhnjlcphjpacGreatDoorTie.lean); close each card by the builder's one call (the guide's Derived/Test/ToyasCard.lean, 'card_holds'). Laid BY PROGRAM, IN A SANDBOX (cutbox-door.mjs). By AI agents, Wed Nov 11 2026. No macro, syntax, notation, axiom, sorry.
-/
import Derived.Test.YtcojhnjlcphjpacGreatDoorRows
import GoSem.ClaimSeven
namespace Go.Proofs.YtcojhnjlcphjpacGreatDoor
namespace Rows

/-- THE TIED CARD OF 'arbourlaw07.WalNobody'. -/
def walNobodyCard : Claim7 := { stood := { row := walNobodyRow, standIns := [], harness := (true, "8559f62c67456f8036b9e5988ed90c2f740fa5bd53c89707285c5e28ca5478cc"), looks := true }, kinds := [], alts := [], laidByText := true, laidKinds := [.data, .data, .data, .sentinel, .sentinel], laidTests := true, laidLooks := .later }
def WalNobodyCardSaid : Prop := Claim7.holds Tryz.pinned (.plain (OpenSpec.ofChange walNobodySpec)) walNobodyCard

/-- THE SECOND FORM's CARD OF 'arbourlaw07.WalNobody'. -/
def walNobodyUptoCard : Claim7 := { stood := { row := walNobodyUptoRow, standIns := [], harness := (true, "8559f62c67456f8036b9e5988ed90c2f740fa5bd53c89707285c5e28ca5478cc"), looks := true }, kinds := [], alts := [], laidByText := true, laidKinds := [.data, .data, .data, .sentinel, .sentinel], laidTests := true, laidLooks := .later }
def WalNobodyUptoCardSaid : Prop := Claim7.holds Tryz.pinned (.plain (OpenSpec.upto walNobodySpec)) walNobodyUptoCard
end Rows
end Go.Proofs.YtcojhnjlcphjpacGreatDoor
