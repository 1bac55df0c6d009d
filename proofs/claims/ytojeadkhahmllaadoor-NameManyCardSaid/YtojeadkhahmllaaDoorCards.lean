/-
  DERIVED. GIVEN WITH THE SEED: THE CARDS: each row of YtojeadkhahmllaaDoorRows.lean that lists a variable, with what it lists TIED to the program's text (the seventh form; the later family's looks); each row that meets fmt, with fmt's text TOLD by the authors' own Lean function (tested against real Go, not proved from fmt's source: count such statements apart). THE CARD IS WHAT COUNTS. Prove the row's statement (the work); the ties are given (YtojeadkhahmllaaDoorTie.lean); close each card by the builder's one call (the guide's Derived/Test/ToyasCard.lean, 'card_holds'). Laid BY PROGRAM, IN A SANDBOX (cutbox-door.mjs). By AI agents, Wed Nov 11 2026. No macro, syntax, notation, axiom, sorry.
-/
import Derived.Test.YtojeadkhahmllaaDoorRows
import GoSem.ClaimSeven
namespace Go.Proofs.YtojeadkhahmllaaDoor
namespace Rows

/-- THE TIED CARD OF 'arbourlaw14.NameMany'. -/
def nameManyCard : Claim7 := { stood := { row := nameManyRow, standIns := [], harness := (true, "f6f56187fe60545cc7ccbc44804509c97fd231e9c64100b5e601c3ea6f7e5e15"), looks := false }, kinds := [], alts := [], laidByText := true, laidKinds := [.data, .data, .data], laidTests := true, laidLooks := .later }
def NameManyCardSaid : Prop := Claim7.holds Tryd.pinned (.plain (OpenSpec.ofChange nameManySpec)) nameManyCard

/-- THE TIED CARD OF 'arbourlaw14.NameTexts'. -/
def nameTextsCard : Claim7 := { stood := { row := nameTextsRow, standIns := [], harness := (true, "f6f56187fe60545cc7ccbc44804509c97fd231e9c64100b5e601c3ea6f7e5e15"), looks := false }, kinds := [], alts := [], laidByText := true, laidKinds := [.data, .data, .data, .data, .pinned], laidTests := true, laidLooks := .later }
def NameTextsCardSaid : Prop := Claim7.holds Tryd.pinned (.plain (OpenSpec.ofChange nameTextsSpec)) nameTextsCard

/-- THE SECOND FORM's CARD OF 'arbourlaw14.NameMany'. -/
def nameManyUptoCard : Claim7 := { stood := { row := nameManyUptoRow, standIns := [], harness := (true, "f6f56187fe60545cc7ccbc44804509c97fd231e9c64100b5e601c3ea6f7e5e15"), looks := false }, kinds := [], alts := [], laidByText := true, laidKinds := [.data, .data, .data], laidTests := true, laidLooks := .later }
def NameManyUptoCardSaid : Prop := Claim7.holds Tryd.pinned (.plain (OpenSpec.upto nameManySpec)) nameManyUptoCard

/-- THE SECOND FORM's CARD OF 'arbourlaw14.NameTexts'. -/
def nameTextsUptoCard : Claim7 := { stood := { row := nameTextsUptoRow, standIns := [], harness := (true, "f6f56187fe60545cc7ccbc44804509c97fd231e9c64100b5e601c3ea6f7e5e15"), looks := false }, kinds := [], alts := [], laidByText := true, laidKinds := [.data, .data, .data, .data, .pinned], laidTests := true, laidLooks := .later }
def NameTextsUptoCardSaid : Prop := Claim7.holds Tryd.pinned (.plain (OpenSpec.upto nameTextsSpec)) nameTextsUptoCard
end Rows
end Go.Proofs.YtojeadkhahmllaaDoor
