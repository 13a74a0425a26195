/-
  DERIVED. GIVEN WITH THE SEED: THE CARDS: each row of YthhngmnbcmkhpaaGreatDoorRows.lean that lists a variable, with what it lists TIED to the program's text (the seventh form; the later family's looks); each row that meets fmt, with fmt's text TOLD by the authors' own Lean function (tested against real Go, not proved from fmt's source: count such statements apart). THE CARD IS WHAT COUNTS. Prove the row's statement (the work); the ties are given (YthhngmnbcmkhpaaGreatDoorTie.lean); close each card by the builder's one call (the guide's Derived/Test/ToyasCard.lean, 'card_holds'). Laid BY PROGRAM, IN A SANDBOX (cutbox-door.mjs). By AI agents, Wed Nov 11 2026. No macro, syntax, notation, axiom, sorry.
-/
import Derived.Test.YthhngmnbcmkhpaaGreatDoorRows
import GoSem.ClaimSeven
namespace Go.Proofs.YthhngmnbcmkhpaaGreatDoor
namespace Rows

/-- THE TIED CARD OF 'laws.FnExactReadFormula'. -/
def fnExactReadFormulaCard : Claim7 := { stood := { row := fnExactReadFormulaRow, standIns := [], harness := (true, "56dc66f1c71abd78c958039848380bf8310ab7f35dc7eb253ce919278551b811"), looks := true }, kinds := [], alts := [], laidByText := true, laidKinds := [.data, .data, .data, .data, .sentinel, .sentinel, .pinned], laidTests := true, laidLooks := .later }
def FnExactReadFormulaCardSaid : Prop := Claim7.holds Tryz.pinned (.plain (OpenSpec.ofChange fnExactReadFormulaSpec)) fnExactReadFormulaCard

/-- THE TIED CARD OF 'laws.FnReadFormula'. -/
def fnReadFormulaCard : Claim7 := { stood := { row := fnReadFormulaRow, standIns := [], harness := (true, "56dc66f1c71abd78c958039848380bf8310ab7f35dc7eb253ce919278551b811"), looks := true }, kinds := [], alts := [], laidByText := true, laidKinds := [.data, .data, .data, .data, .sentinel, .sentinel, .pinned], laidTests := true, laidLooks := .later }
def FnReadFormulaCardSaid : Prop := Claim7.holds Tryz.pinned (.plain (OpenSpec.ofChange fnReadFormulaSpec)) fnReadFormulaCard

/-- THE TIED CARD OF 'laws.FnFormulaTexts'. -/
def fnFormulaTextsCard : Claim7 := { stood := { row := fnFormulaTextsRow, standIns := [], harness := (true, "56dc66f1c71abd78c958039848380bf8310ab7f35dc7eb253ce919278551b811"), looks := true }, kinds := [], alts := [], laidByText := true, laidKinds := [.data, .data, .data, .data, .sentinel, .sentinel, .pinned], laidTests := true, laidLooks := .later }
def FnFormulaTextsCardSaid : Prop := Claim7.holds Tryz.pinned (.plain (OpenSpec.ofChange fnFormulaTextsSpec)) fnFormulaTextsCard

/-- THE TIED CARD OF 'laws.FnExactInputOf'. -/
def fnExactInputOfCard : Claim7 := { stood := { row := fnExactInputOfRow, standIns := [], harness := (true, "56dc66f1c71abd78c958039848380bf8310ab7f35dc7eb253ce919278551b811"), looks := true }, kinds := [], alts := [], laidByText := true, laidKinds := [.data, .data, .data, .data, .sentinel, .sentinel, .pinned], laidTests := true, laidLooks := .later }
def FnExactInputOfCardSaid : Prop := Claim7.holds Tryz.pinned (.plain (OpenSpec.ofChange fnExactInputOfSpec)) fnExactInputOfCard

/-- THE TIED CARD OF 'laws.FnInputs'. -/
def fnInputsCard : Claim7 := { stood := { row := fnInputsRow, standIns := [], harness := (true, "56dc66f1c71abd78c958039848380bf8310ab7f35dc7eb253ce919278551b811"), looks := true }, kinds := [], alts := [], laidByText := true, laidKinds := [.data, .data, .data, .data, .sentinel, .sentinel, .pinned], laidTests := true, laidLooks := .later }
def FnInputsCardSaid : Prop := Claim7.holds Tryz.pinned (.plain (OpenSpec.ofChange fnInputsSpec)) fnInputsCard

/-- THE TIED CARD OF 'laws.FnExactSheetOk'. -/
def fnExactSheetOkCard : Claim7 := { stood := { row := fnExactSheetOkRow, standIns := [], harness := (true, "56dc66f1c71abd78c958039848380bf8310ab7f35dc7eb253ce919278551b811"), looks := true }, kinds := [], alts := [], laidByText := true, laidKinds := [.data, .data, .data, .data, .sentinel, .sentinel, .pinned], laidTests := true, laidLooks := .later }
def FnExactSheetOkCardSaid : Prop := Claim7.holds Tryz.pinned (.plain (OpenSpec.ofChange fnExactSheetOkSpec)) fnExactSheetOkCard

/-- THE SECOND FORM's CARD OF 'laws.FnExactReadFormula'. -/
def fnExactReadFormulaUptoCard : Claim7 := { stood := { row := fnExactReadFormulaUptoRow, standIns := [], harness := (true, "56dc66f1c71abd78c958039848380bf8310ab7f35dc7eb253ce919278551b811"), looks := true }, kinds := [], alts := [], laidByText := true, laidKinds := [.data, .data, .data, .data, .sentinel, .sentinel, .pinned], laidTests := true, laidLooks := .later }
def FnExactReadFormulaUptoCardSaid : Prop := Claim7.holds Tryz.pinned (.plain (OpenSpec.upto fnExactReadFormulaSpec)) fnExactReadFormulaUptoCard

/-- THE SECOND FORM's CARD OF 'laws.FnReadFormula'. -/
def fnReadFormulaUptoCard : Claim7 := { stood := { row := fnReadFormulaUptoRow, standIns := [], harness := (true, "56dc66f1c71abd78c958039848380bf8310ab7f35dc7eb253ce919278551b811"), looks := true }, kinds := [], alts := [], laidByText := true, laidKinds := [.data, .data, .data, .data, .sentinel, .sentinel, .pinned], laidTests := true, laidLooks := .later }
def FnReadFormulaUptoCardSaid : Prop := Claim7.holds Tryz.pinned (.plain (OpenSpec.upto fnReadFormulaSpec)) fnReadFormulaUptoCard

/-- THE SECOND FORM's CARD OF 'laws.FnFormulaTexts'. -/
def fnFormulaTextsUptoCard : Claim7 := { stood := { row := fnFormulaTextsUptoRow, standIns := [], harness := (true, "56dc66f1c71abd78c958039848380bf8310ab7f35dc7eb253ce919278551b811"), looks := true }, kinds := [], alts := [], laidByText := true, laidKinds := [.data, .data, .data, .data, .sentinel, .sentinel, .pinned], laidTests := true, laidLooks := .later }
def FnFormulaTextsUptoCardSaid : Prop := Claim7.holds Tryz.pinned (.plain (OpenSpec.upto fnFormulaTextsSpec)) fnFormulaTextsUptoCard

/-- THE SECOND FORM's CARD OF 'laws.FnExactInputOf'. -/
def fnExactInputOfUptoCard : Claim7 := { stood := { row := fnExactInputOfUptoRow, standIns := [], harness := (true, "56dc66f1c71abd78c958039848380bf8310ab7f35dc7eb253ce919278551b811"), looks := true }, kinds := [], alts := [], laidByText := true, laidKinds := [.data, .data, .data, .data, .sentinel, .sentinel, .pinned], laidTests := true, laidLooks := .later }
def FnExactInputOfUptoCardSaid : Prop := Claim7.holds Tryz.pinned (.plain (OpenSpec.upto fnExactInputOfSpec)) fnExactInputOfUptoCard

/-- THE SECOND FORM's CARD OF 'laws.FnInputs'. -/
def fnInputsUptoCard : Claim7 := { stood := { row := fnInputsUptoRow, standIns := [], harness := (true, "56dc66f1c71abd78c958039848380bf8310ab7f35dc7eb253ce919278551b811"), looks := true }, kinds := [], alts := [], laidByText := true, laidKinds := [.data, .data, .data, .data, .sentinel, .sentinel, .pinned], laidTests := true, laidLooks := .later }
def FnInputsUptoCardSaid : Prop := Claim7.holds Tryz.pinned (.plain (OpenSpec.upto fnInputsSpec)) fnInputsUptoCard

/-- THE SECOND FORM's CARD OF 'laws.FnExactSheetOk'. -/
def fnExactSheetOkUptoCard : Claim7 := { stood := { row := fnExactSheetOkUptoRow, standIns := [], harness := (true, "56dc66f1c71abd78c958039848380bf8310ab7f35dc7eb253ce919278551b811"), looks := true }, kinds := [], alts := [], laidByText := true, laidKinds := [.data, .data, .data, .data, .sentinel, .sentinel, .pinned], laidTests := true, laidLooks := .later }
def FnExactSheetOkUptoCardSaid : Prop := Claim7.holds Tryz.pinned (.plain (OpenSpec.upto fnExactSheetOkSpec)) fnExactSheetOkUptoCard
end Rows
end Go.Proofs.YthhngmnbcmkhpaaGreatDoor
