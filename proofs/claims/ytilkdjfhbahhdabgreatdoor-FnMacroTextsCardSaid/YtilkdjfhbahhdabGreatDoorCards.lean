/-
  DERIVED. GIVEN WITH THE SEED: THE CARDS: each row of YtilkdjfhbahhdabGreatDoorRows.lean that lists a variable, with what it lists TIED to the program's text (the seventh form; the later family's looks); each row that meets fmt, with fmt's text TOLD by the authors' own Lean function (tested against real Go, not proved from fmt's source: count such statements apart). THE CARD IS WHAT COUNTS. Prove the row's statement (the work); the ties are given (YtilkdjfhbahhdabGreatDoorTie.lean); close each card by the builder's one call (the guide's Derived/Test/ToyasCard.lean, 'card_holds'). Laid BY PROGRAM, IN A SANDBOX (cutbox-door.mjs). By AI agents, Wed Nov 11 2026. No macro, syntax, notation, axiom, sorry.
-/
import Derived.Test.YtilkdjfhbahhdabGreatDoorRows
import GoSem.ClaimSeven
namespace Go.Proofs.YtilkdjfhbahhdabGreatDoor
namespace Rows

/-- THE TIED CARD OF 'laws.FnMacroTexts'. -/
def fnMacroTextsCard : Claim7 := { stood := { row := fnMacroTextsRow, standIns := [], harness := (true, "0bd31c01d72fae6eefa21446219ddcf359e6725a9ff2d93fa1c66bcd777c0a1e"), looks := true }, kinds := [], alts := [], laidByText := true, laidKinds := [.data, .data, .data, .data, .sentinel, .sentinel, .pinned], laidTests := true, laidLooks := .later }
def FnMacroTextsCardSaid : Prop := Claim7.holds Tryz.pinned (.plain (OpenSpec.ofChange fnMacroTextsSpec)) fnMacroTextsCard

/-- THE TIED CARD OF 'laws.FnCircles'. -/
def fnCirclesCard : Claim7 := { stood := { row := fnCirclesRow, standIns := [], harness := (true, "0bd31c01d72fae6eefa21446219ddcf359e6725a9ff2d93fa1c66bcd777c0a1e"), looks := true }, kinds := [], alts := [], laidByText := true, laidKinds := [.data, .data, .data, .data, .sentinel, .sentinel, .pinned], laidTests := true, laidLooks := .later }
def FnCirclesCardSaid : Prop := Claim7.holds Tryz.pinned (.plain (OpenSpec.ofChange fnCirclesSpec)) fnCirclesCard

/-- THE TIED CARD OF 'laws.FnExactEnter'. -/
def fnExactEnterCard : Claim7 := { stood := { row := fnExactEnterRow, standIns := [], harness := (true, "0bd31c01d72fae6eefa21446219ddcf359e6725a9ff2d93fa1c66bcd777c0a1e"), looks := true }, kinds := [], alts := [], laidByText := true, laidKinds := [.data, .data, .data, .data, .sentinel, .sentinel, .pinned], laidTests := true, laidLooks := .later }
def FnExactEnterCardSaid : Prop := Claim7.holds Tryz.pinned (.plain (OpenSpec.ofChange fnExactEnterSpec)) fnExactEnterCard

/-- THE TIED CARD OF 'laws.FnEntered'. -/
def fnEnteredCard : Claim7 := { stood := { row := fnEnteredRow, standIns := [], harness := (true, "0bd31c01d72fae6eefa21446219ddcf359e6725a9ff2d93fa1c66bcd777c0a1e"), looks := true }, kinds := [], alts := [], laidByText := true, laidKinds := [.data, .data, .data, .data, .sentinel, .sentinel, .pinned], laidTests := true, laidLooks := .later }
def FnEnteredCardSaid : Prop := Claim7.holds Tryz.pinned (.plain (OpenSpec.ofChange fnEnteredSpec)) fnEnteredCard

/-- THE TIED CARD OF 'laws.FnExactDiffOf'. -/
def fnExactDiffOfCard : Claim7 := { stood := { row := fnExactDiffOfRow, standIns := [], harness := (true, "0bd31c01d72fae6eefa21446219ddcf359e6725a9ff2d93fa1c66bcd777c0a1e"), looks := true }, kinds := [], alts := [], laidByText := true, laidKinds := [.data, .data, .data, .data, .sentinel, .sentinel, .pinned], laidTests := true, laidLooks := .later }
def FnExactDiffOfCardSaid : Prop := Claim7.holds Tryz.pinned (.plain (OpenSpec.ofChange fnExactDiffOfSpec)) fnExactDiffOfCard

/-- THE TIED CARD OF 'laws.FnExactSheetAt'. -/
def fnExactSheetAtCard : Claim7 := { stood := { row := fnExactSheetAtRow, standIns := [], harness := (true, "0bd31c01d72fae6eefa21446219ddcf359e6725a9ff2d93fa1c66bcd777c0a1e"), looks := true }, kinds := [], alts := [], laidByText := true, laidKinds := [.data, .data, .data, .data, .sentinel, .sentinel, .pinned], laidTests := true, laidLooks := .later }
def FnExactSheetAtCardSaid : Prop := Claim7.holds Tryz.pinned (.plain (OpenSpec.ofChange fnExactSheetAtSpec)) fnExactSheetAtCard

/-- THE TIED CARD OF 'laws.FnExactReadDag'. -/
def fnExactReadDagCard : Claim7 := { stood := { row := fnExactReadDagRow, standIns := [], harness := (true, "0bd31c01d72fae6eefa21446219ddcf359e6725a9ff2d93fa1c66bcd777c0a1e"), looks := true }, kinds := [], alts := [], laidByText := true, laidKinds := [.data, .data, .data, .data, .sentinel, .sentinel, .pinned], laidTests := true, laidLooks := .later }
def FnExactReadDagCardSaid : Prop := Claim7.holds Tryz.pinned (.plain (OpenSpec.ofChange fnExactReadDagSpec)) fnExactReadDagCard

/-- THE SECOND FORM's CARD OF 'laws.FnMacroTexts'. -/
def fnMacroTextsUptoCard : Claim7 := { stood := { row := fnMacroTextsUptoRow, standIns := [], harness := (true, "0bd31c01d72fae6eefa21446219ddcf359e6725a9ff2d93fa1c66bcd777c0a1e"), looks := true }, kinds := [], alts := [], laidByText := true, laidKinds := [.data, .data, .data, .data, .sentinel, .sentinel, .pinned], laidTests := true, laidLooks := .later }
def FnMacroTextsUptoCardSaid : Prop := Claim7.holds Tryz.pinned (.plain (OpenSpec.upto fnMacroTextsSpec)) fnMacroTextsUptoCard

/-- THE SECOND FORM's CARD OF 'laws.FnCircles'. -/
def fnCirclesUptoCard : Claim7 := { stood := { row := fnCirclesUptoRow, standIns := [], harness := (true, "0bd31c01d72fae6eefa21446219ddcf359e6725a9ff2d93fa1c66bcd777c0a1e"), looks := true }, kinds := [], alts := [], laidByText := true, laidKinds := [.data, .data, .data, .data, .sentinel, .sentinel, .pinned], laidTests := true, laidLooks := .later }
def FnCirclesUptoCardSaid : Prop := Claim7.holds Tryz.pinned (.plain (OpenSpec.upto fnCirclesSpec)) fnCirclesUptoCard

/-- THE SECOND FORM's CARD OF 'laws.FnExactEnter'. -/
def fnExactEnterUptoCard : Claim7 := { stood := { row := fnExactEnterUptoRow, standIns := [], harness := (true, "0bd31c01d72fae6eefa21446219ddcf359e6725a9ff2d93fa1c66bcd777c0a1e"), looks := true }, kinds := [], alts := [], laidByText := true, laidKinds := [.data, .data, .data, .data, .sentinel, .sentinel, .pinned], laidTests := true, laidLooks := .later }
def FnExactEnterUptoCardSaid : Prop := Claim7.holds Tryz.pinned (.plain (OpenSpec.upto fnExactEnterSpec)) fnExactEnterUptoCard

/-- THE SECOND FORM's CARD OF 'laws.FnEntered'. -/
def fnEnteredUptoCard : Claim7 := { stood := { row := fnEnteredUptoRow, standIns := [], harness := (true, "0bd31c01d72fae6eefa21446219ddcf359e6725a9ff2d93fa1c66bcd777c0a1e"), looks := true }, kinds := [], alts := [], laidByText := true, laidKinds := [.data, .data, .data, .data, .sentinel, .sentinel, .pinned], laidTests := true, laidLooks := .later }
def FnEnteredUptoCardSaid : Prop := Claim7.holds Tryz.pinned (.plain (OpenSpec.upto fnEnteredSpec)) fnEnteredUptoCard

/-- THE SECOND FORM's CARD OF 'laws.FnExactDiffOf'. -/
def fnExactDiffOfUptoCard : Claim7 := { stood := { row := fnExactDiffOfUptoRow, standIns := [], harness := (true, "0bd31c01d72fae6eefa21446219ddcf359e6725a9ff2d93fa1c66bcd777c0a1e"), looks := true }, kinds := [], alts := [], laidByText := true, laidKinds := [.data, .data, .data, .data, .sentinel, .sentinel, .pinned], laidTests := true, laidLooks := .later }
def FnExactDiffOfUptoCardSaid : Prop := Claim7.holds Tryz.pinned (.plain (OpenSpec.upto fnExactDiffOfSpec)) fnExactDiffOfUptoCard

/-- THE SECOND FORM's CARD OF 'laws.FnExactSheetAt'. -/
def fnExactSheetAtUptoCard : Claim7 := { stood := { row := fnExactSheetAtUptoRow, standIns := [], harness := (true, "0bd31c01d72fae6eefa21446219ddcf359e6725a9ff2d93fa1c66bcd777c0a1e"), looks := true }, kinds := [], alts := [], laidByText := true, laidKinds := [.data, .data, .data, .data, .sentinel, .sentinel, .pinned], laidTests := true, laidLooks := .later }
def FnExactSheetAtUptoCardSaid : Prop := Claim7.holds Tryz.pinned (.plain (OpenSpec.upto fnExactSheetAtSpec)) fnExactSheetAtUptoCard

/-- THE SECOND FORM's CARD OF 'laws.FnExactReadDag'. -/
def fnExactReadDagUptoCard : Claim7 := { stood := { row := fnExactReadDagUptoRow, standIns := [], harness := (true, "0bd31c01d72fae6eefa21446219ddcf359e6725a9ff2d93fa1c66bcd777c0a1e"), looks := true }, kinds := [], alts := [], laidByText := true, laidKinds := [.data, .data, .data, .data, .sentinel, .sentinel, .pinned], laidTests := true, laidLooks := .later }
def FnExactReadDagUptoCardSaid : Prop := Claim7.holds Tryz.pinned (.plain (OpenSpec.upto fnExactReadDagSpec)) fnExactReadDagUptoCard
end Rows
end Go.Proofs.YtilkdjfhbahhdabGreatDoor
