/-
  DERIVED. GIVEN WITH THE SEED: THE CARDS: each row of YtdhpolneplbhjaaGreatDoorRows.lean that lists a variable, with what it lists TIED to the program's text (the seventh form; the later family's looks); each row that meets fmt, with fmt's text TOLD by the authors' own Lean function (tested against real Go, not proved from fmt's source: count such statements apart). THE CARD IS WHAT COUNTS. Prove the row's statement (the work); the ties are given (YtdhpolneplbhjaaGreatDoorTie.lean); close each card by the builder's one call (the guide's Derived/Test/ToyasCard.lean, 'card_holds'). Laid BY PROGRAM, IN A SANDBOX (cutbox-door.mjs). By AI agents, Wed Nov 11 2026. No macro, syntax, notation, axiom, sorry.
-/
import Derived.Test.YtdhpolneplbhjaaGreatDoorRows
import GoSem.ClaimSeven
namespace Go.Proofs.YtdhpolneplbhjaaGreatDoor
namespace Rows

/-- THE TIED CARD OF 'arbourlaw15.ImageOrders'. -/
def imageOrdersCard : Claim7 := { stood := { row := imageOrdersRow, standIns := [], harness := (true, "3bc66ce3f01a0ced9c87cb43d96e7d92e9f37ae7000bd280017134d8c4e0e9ed"), looks := false }, kinds := [], alts := [], laidByText := true, laidKinds := [.data, .data, .data, .data, .pinned], laidTests := true, laidLooks := .later }
def ImageOrdersCardSaid : Prop := Claim7.holds Tryz.pinned (.plain (OpenSpec.ofChange imageOrdersSpec)) imageOrdersCard

/-- THE SECOND FORM's CARD OF 'arbourlaw15.ImageOrders'. -/
def imageOrdersUptoCard : Claim7 := { stood := { row := imageOrdersUptoRow, standIns := [], harness := (true, "3bc66ce3f01a0ced9c87cb43d96e7d92e9f37ae7000bd280017134d8c4e0e9ed"), looks := false }, kinds := [], alts := [], laidByText := true, laidKinds := [.data, .data, .data, .data, .pinned], laidTests := true, laidLooks := .later }
def ImageOrdersUptoCardSaid : Prop := Claim7.holds Tryz.pinned (.plain (OpenSpec.upto imageOrdersSpec)) imageOrdersUptoCard
end Rows
end Go.Proofs.YtdhpolneplbhjaaGreatDoor
