/-
  DERIVED. GIVEN WITH THE SEED: THE CARDS: each row of YtcojhnjlcphjpadGreatDoorRows.lean that lists a variable, with what it lists TIED to the program's text (the seventh form; the later family's looks); each row that meets fmt, with fmt's text TOLD by the authors' own Lean function (tested against real Go, not proved from fmt's source: count such statements apart). THE CARD IS WHAT COUNTS. Prove the row's statement (the work); the ties are given (YtcojhnjlcphjpadGreatDoorTie.lean); close each card by the builder's one call (the guide's Derived/Test/ToyasCard.lean, 'card_holds'). Laid BY PROGRAM, IN A SANDBOX (cutbox-door.mjs). By AI agents, Wed Nov 11 2026. No macro, syntax, notation, axiom, sorry.
-/
import Derived.Test.YtcojhnjlcphjpadGreatDoorRows
import GoSem.ClaimSeven
namespace Go.Proofs.YtcojhnjlcphjpadGreatDoor
namespace Rows

/-- THE TIED CARD OF 'arbourlaw17.MaterNil'. -/
def materNilCard : Claim7 := { stood := { row := materNilRow, standIns := [], harness := (true, "632b7eab8bfdd6d856709b614a4ad2cbd1d0f6324053af4ffa326e13d5ce8a3b"), looks := true }, kinds := [], alts := [], laidByText := true, laidKinds := [.data, .handle, .pinned], laidTests := true, laidLooks := .later }
def MaterNilCardSaid : Prop := Claim7.holds Tryz.pinned (.plain (OpenSpec.ofChange materNilSpec)) materNilCard

/-- THE SECOND FORM's CARD OF 'arbourlaw17.MaterNil'. -/
def materNilUptoCard : Claim7 := { stood := { row := materNilUptoRow, standIns := [], harness := (true, "632b7eab8bfdd6d856709b614a4ad2cbd1d0f6324053af4ffa326e13d5ce8a3b"), looks := true }, kinds := [], alts := [], laidByText := true, laidKinds := [.data, .handle, .pinned], laidTests := true, laidLooks := .later }
def MaterNilUptoCardSaid : Prop := Claim7.holds Tryz.pinned (.plain (OpenSpec.upto materNilSpec)) materNilUptoCard
end Rows
end Go.Proofs.YtcojhnjlcphjpadGreatDoor
