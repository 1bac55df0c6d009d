/-
  DERIVED. GIVEN WITH THE SEED: THE CARDS: each row of YtobkpglenpoacaaDoorRows.lean that lists a variable, with what it lists TIED to the program's text (the seventh form; the later family's looks); each row that meets fmt, with fmt's text TOLD by the authors' own Lean function (tested against real Go, not proved from fmt's source: count such statements apart). THE CARD IS WHAT COUNTS. Prove the row's statement (the work); the ties are given (YtobkpglenpoacaaDoorTie.lean); close each card by the builder's one call (the guide's Derived/Test/ToyasCard.lean, 'card_holds'). Laid BY PROGRAM, IN A SANDBOX (cutbox-door.mjs). By AI agents, Wed Nov 11 2026. No macro, syntax, notation, axiom, sorry.
-/
import Derived.Test.YtobkpglenpoacaaDoorRows
import GoSem.ClaimSeven
namespace Go.Proofs.YtobkpglenpoacaaDoor
namespace Rows

/-- THE TIED CARD OF 'arbourlaw14.NameAssigns'. -/
def nameAssignsCard : Claim7 := { stood := { row := nameAssignsRow, standIns := [], harness := (true, "5ec38e3e65bbdf1f393bf8a932db45bd011e19644eeab901786637f6cea5e440"), looks := false }, kinds := [], alts := [], laidByText := true, laidKinds := [.data, .data, .data], laidTests := true, laidLooks := .later }
def NameAssignsCardSaid : Prop := Claim7.holds Tryd.pinned (.plain (OpenSpec.ofChange nameAssignsSpec)) nameAssignsCard

/-- THE TIED CARD OF 'arbourlaw14.NameKeeps'. -/
def nameKeepsCard : Claim7 := { stood := { row := nameKeepsRow, standIns := [], harness := (true, "5ec38e3e65bbdf1f393bf8a932db45bd011e19644eeab901786637f6cea5e440"), looks := false }, kinds := [], alts := [], laidByText := true, laidKinds := [.data, .data, .data], laidTests := true, laidLooks := .later }
def NameKeepsCardSaid : Prop := Claim7.holds Tryd.pinned (.plain (OpenSpec.ofChange nameKeepsSpec)) nameKeepsCard

/-- THE TIED CARD OF 'arbourlaw14.NameMany'. -/
def nameManyCard : Claim7 := { stood := { row := nameManyRow, standIns := [], harness := (true, "5ec38e3e65bbdf1f393bf8a932db45bd011e19644eeab901786637f6cea5e440"), looks := false }, kinds := [], alts := [], laidByText := true, laidKinds := [.data, .data, .data], laidTests := true, laidLooks := .later }
def NameManyCardSaid : Prop := Claim7.holds Tryd.pinned (.plain (OpenSpec.ofChange nameManySpec)) nameManyCard

/-- THE TIED CARD OF 'arbourlaw14.NameTexts'. -/
def nameTextsCard : Claim7 := { stood := { row := nameTextsRow, standIns := [], harness := (true, "5ec38e3e65bbdf1f393bf8a932db45bd011e19644eeab901786637f6cea5e440"), looks := false }, kinds := [], alts := [], laidByText := true, laidKinds := [.data, .data, .data, .data, .pinned], laidTests := true, laidLooks := .later }
def NameTextsCardSaid : Prop := Claim7.holds Tryd.pinned (.plain (OpenSpec.ofChange nameTextsSpec)) nameTextsCard

/-- THE SECOND FORM's CARD OF 'arbourlaw14.NameAssigns'. -/
def nameAssignsUptoCard : Claim7 := { stood := { row := nameAssignsUptoRow, standIns := [], harness := (true, "5ec38e3e65bbdf1f393bf8a932db45bd011e19644eeab901786637f6cea5e440"), looks := false }, kinds := [], alts := [], laidByText := true, laidKinds := [.data, .data, .data], laidTests := true, laidLooks := .later }
def NameAssignsUptoCardSaid : Prop := Claim7.holds Tryd.pinned (.plain (OpenSpec.upto nameAssignsSpec)) nameAssignsUptoCard

/-- THE SECOND FORM's CARD OF 'arbourlaw14.NameKeeps'. -/
def nameKeepsUptoCard : Claim7 := { stood := { row := nameKeepsUptoRow, standIns := [], harness := (true, "5ec38e3e65bbdf1f393bf8a932db45bd011e19644eeab901786637f6cea5e440"), looks := false }, kinds := [], alts := [], laidByText := true, laidKinds := [.data, .data, .data], laidTests := true, laidLooks := .later }
def NameKeepsUptoCardSaid : Prop := Claim7.holds Tryd.pinned (.plain (OpenSpec.upto nameKeepsSpec)) nameKeepsUptoCard

/-- THE SECOND FORM's CARD OF 'arbourlaw14.NameMany'. -/
def nameManyUptoCard : Claim7 := { stood := { row := nameManyUptoRow, standIns := [], harness := (true, "5ec38e3e65bbdf1f393bf8a932db45bd011e19644eeab901786637f6cea5e440"), looks := false }, kinds := [], alts := [], laidByText := true, laidKinds := [.data, .data, .data], laidTests := true, laidLooks := .later }
def NameManyUptoCardSaid : Prop := Claim7.holds Tryd.pinned (.plain (OpenSpec.upto nameManySpec)) nameManyUptoCard

/-- THE SECOND FORM's CARD OF 'arbourlaw14.NameTexts'. -/
def nameTextsUptoCard : Claim7 := { stood := { row := nameTextsUptoRow, standIns := [], harness := (true, "5ec38e3e65bbdf1f393bf8a932db45bd011e19644eeab901786637f6cea5e440"), looks := false }, kinds := [], alts := [], laidByText := true, laidKinds := [.data, .data, .data, .data, .pinned], laidTests := true, laidLooks := .later }
def NameTextsUptoCardSaid : Prop := Claim7.holds Tryd.pinned (.plain (OpenSpec.upto nameTextsSpec)) nameTextsUptoCard
end Rows
end Go.Proofs.YtobkpglenpoacaaDoor
