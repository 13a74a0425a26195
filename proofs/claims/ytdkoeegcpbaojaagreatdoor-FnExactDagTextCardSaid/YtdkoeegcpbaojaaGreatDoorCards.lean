/-
  DERIVED. GIVEN WITH THE SEED: THE CARDS: each row of YtdkoeegcpbaojaaGreatDoorRows.lean that lists a variable, with what it lists TIED to the program's text (the seventh form; the later family's looks); each row that meets fmt, with fmt's text TOLD by the authors' own Lean function (tested against real Go, not proved from fmt's source: count such statements apart). THE CARD IS WHAT COUNTS. Prove the row's statement (the work); the ties are given (YtdkoeegcpbaojaaGreatDoorTie.lean); close each card by the builder's one call (the guide's Derived/Test/ToyasCard.lean, 'card_holds'). Laid BY PROGRAM, IN A SANDBOX (cutbox-door.mjs). By AI agents, Wed Nov 11 2026. No macro, syntax, notation, axiom, sorry.
-/
import Derived.Test.YtdkoeegcpbaojaaGreatDoorRows
import GoSem.ClaimSeven
namespace Go.Proofs.YtdkoeegcpbaojaaGreatDoor
namespace Rows

/-- THE TIED CARD OF 'laws.FnExactEnter'. -/
def fnExactEnterCard : Claim7 := { stood := { row := fnExactEnterRow, standIns := [], harness := (true, "3989a79ece163c7deda551cd79f324d9d13158e6bef8bea4137f86c9aaff75e8"), looks := true }, kinds := [], alts := [], laidByText := true, laidKinds := [.data, .data, .data, .data, .sentinel, .sentinel, .pinned], laidTests := true, laidLooks := .later }
def FnExactEnterCardSaid : Prop := Claim7.holds Tryz.pinned (.plain (OpenSpec.ofChange fnExactEnterSpec)) fnExactEnterCard

/-- THE TIED CARD OF 'laws.FnEntered'. -/
def fnEnteredCard : Claim7 := { stood := { row := fnEnteredRow, standIns := [], harness := (true, "3989a79ece163c7deda551cd79f324d9d13158e6bef8bea4137f86c9aaff75e8"), looks := true }, kinds := [], alts := [], laidByText := true, laidKinds := [.data, .data, .data, .data, .sentinel, .sentinel, .pinned], laidTests := true, laidLooks := .later }
def FnEnteredCardSaid : Prop := Claim7.holds Tryz.pinned (.plain (OpenSpec.ofChange fnEnteredSpec)) fnEnteredCard

/-- THE TIED CARD OF 'laws.FnExactDiffOf'. -/
def fnExactDiffOfCard : Claim7 := { stood := { row := fnExactDiffOfRow, standIns := [], harness := (true, "3989a79ece163c7deda551cd79f324d9d13158e6bef8bea4137f86c9aaff75e8"), looks := true }, kinds := [], alts := [], laidByText := true, laidKinds := [.data, .data, .data, .data, .sentinel, .sentinel, .pinned], laidTests := true, laidLooks := .later }
def FnExactDiffOfCardSaid : Prop := Claim7.holds Tryz.pinned (.plain (OpenSpec.ofChange fnExactDiffOfSpec)) fnExactDiffOfCard

/-- THE TIED CARD OF 'laws.FnExactDagText'. -/
def fnExactDagTextCard : Claim7 := { stood := { row := fnExactDagTextRow, standIns := [], harness := (true, "3989a79ece163c7deda551cd79f324d9d13158e6bef8bea4137f86c9aaff75e8"), looks := true }, kinds := [], alts := [], laidByText := true, laidKinds := [.data, .data, .data, .data, .sentinel, .sentinel, .pinned], laidTests := true, laidLooks := .later }
def FnExactDagTextCardSaid : Prop := Claim7.holds Tryz.pinned (.plain (OpenSpec.ofChange fnExactDagTextSpec)) fnExactDagTextCard

/-- THE TIED CARD OF 'laws.FnExactReadMacro'. -/
def fnExactReadMacroCard : Claim7 := { stood := { row := fnExactReadMacroRow, standIns := [], harness := (true, "3989a79ece163c7deda551cd79f324d9d13158e6bef8bea4137f86c9aaff75e8"), looks := true }, kinds := [], alts := [], laidByText := true, laidKinds := [.data, .data, .data, .data, .sentinel, .sentinel, .pinned], laidTests := true, laidLooks := .later }
def FnExactReadMacroCardSaid : Prop := Claim7.holds Tryz.pinned (.plain (OpenSpec.ofChange fnExactReadMacroSpec)) fnExactReadMacroCard

/-- THE TIED CARD OF 'laws.FnMacroTexts'. -/
def fnMacroTextsCard : Claim7 := { stood := { row := fnMacroTextsRow, standIns := [], harness := (true, "3989a79ece163c7deda551cd79f324d9d13158e6bef8bea4137f86c9aaff75e8"), looks := true }, kinds := [], alts := [], laidByText := true, laidKinds := [.data, .data, .data, .data, .sentinel, .sentinel, .pinned], laidTests := true, laidLooks := .later }
def FnMacroTextsCardSaid : Prop := Claim7.holds Tryz.pinned (.plain (OpenSpec.ofChange fnMacroTextsSpec)) fnMacroTextsCard

/-- THE TIED CARD OF 'laws.FnCircles'. -/
def fnCirclesCard : Claim7 := { stood := { row := fnCirclesRow, standIns := [], harness := (true, "3989a79ece163c7deda551cd79f324d9d13158e6bef8bea4137f86c9aaff75e8"), looks := true }, kinds := [], alts := [], laidByText := true, laidKinds := [.data, .data, .data, .data, .sentinel, .sentinel, .pinned], laidTests := true, laidLooks := .later }
def FnCirclesCardSaid : Prop := Claim7.holds Tryz.pinned (.plain (OpenSpec.ofChange fnCirclesSpec)) fnCirclesCard

/-- THE SECOND FORM's CARD OF 'laws.FnExactEnter'. -/
def fnExactEnterUptoCard : Claim7 := { stood := { row := fnExactEnterUptoRow, standIns := [], harness := (true, "3989a79ece163c7deda551cd79f324d9d13158e6bef8bea4137f86c9aaff75e8"), looks := true }, kinds := [], alts := [], laidByText := true, laidKinds := [.data, .data, .data, .data, .sentinel, .sentinel, .pinned], laidTests := true, laidLooks := .later }
def FnExactEnterUptoCardSaid : Prop := Claim7.holds Tryz.pinned (.plain (OpenSpec.upto fnExactEnterSpec)) fnExactEnterUptoCard

/-- THE SECOND FORM's CARD OF 'laws.FnEntered'. -/
def fnEnteredUptoCard : Claim7 := { stood := { row := fnEnteredUptoRow, standIns := [], harness := (true, "3989a79ece163c7deda551cd79f324d9d13158e6bef8bea4137f86c9aaff75e8"), looks := true }, kinds := [], alts := [], laidByText := true, laidKinds := [.data, .data, .data, .data, .sentinel, .sentinel, .pinned], laidTests := true, laidLooks := .later }
def FnEnteredUptoCardSaid : Prop := Claim7.holds Tryz.pinned (.plain (OpenSpec.upto fnEnteredSpec)) fnEnteredUptoCard

/-- THE SECOND FORM's CARD OF 'laws.FnExactDiffOf'. -/
def fnExactDiffOfUptoCard : Claim7 := { stood := { row := fnExactDiffOfUptoRow, standIns := [], harness := (true, "3989a79ece163c7deda551cd79f324d9d13158e6bef8bea4137f86c9aaff75e8"), looks := true }, kinds := [], alts := [], laidByText := true, laidKinds := [.data, .data, .data, .data, .sentinel, .sentinel, .pinned], laidTests := true, laidLooks := .later }
def FnExactDiffOfUptoCardSaid : Prop := Claim7.holds Tryz.pinned (.plain (OpenSpec.upto fnExactDiffOfSpec)) fnExactDiffOfUptoCard

/-- THE SECOND FORM's CARD OF 'laws.FnExactDagText'. -/
def fnExactDagTextUptoCard : Claim7 := { stood := { row := fnExactDagTextUptoRow, standIns := [], harness := (true, "3989a79ece163c7deda551cd79f324d9d13158e6bef8bea4137f86c9aaff75e8"), looks := true }, kinds := [], alts := [], laidByText := true, laidKinds := [.data, .data, .data, .data, .sentinel, .sentinel, .pinned], laidTests := true, laidLooks := .later }
def FnExactDagTextUptoCardSaid : Prop := Claim7.holds Tryz.pinned (.plain (OpenSpec.upto fnExactDagTextSpec)) fnExactDagTextUptoCard

/-- THE SECOND FORM's CARD OF 'laws.FnExactReadMacro'. -/
def fnExactReadMacroUptoCard : Claim7 := { stood := { row := fnExactReadMacroUptoRow, standIns := [], harness := (true, "3989a79ece163c7deda551cd79f324d9d13158e6bef8bea4137f86c9aaff75e8"), looks := true }, kinds := [], alts := [], laidByText := true, laidKinds := [.data, .data, .data, .data, .sentinel, .sentinel, .pinned], laidTests := true, laidLooks := .later }
def FnExactReadMacroUptoCardSaid : Prop := Claim7.holds Tryz.pinned (.plain (OpenSpec.upto fnExactReadMacroSpec)) fnExactReadMacroUptoCard

/-- THE SECOND FORM's CARD OF 'laws.FnMacroTexts'. -/
def fnMacroTextsUptoCard : Claim7 := { stood := { row := fnMacroTextsUptoRow, standIns := [], harness := (true, "3989a79ece163c7deda551cd79f324d9d13158e6bef8bea4137f86c9aaff75e8"), looks := true }, kinds := [], alts := [], laidByText := true, laidKinds := [.data, .data, .data, .data, .sentinel, .sentinel, .pinned], laidTests := true, laidLooks := .later }
def FnMacroTextsUptoCardSaid : Prop := Claim7.holds Tryz.pinned (.plain (OpenSpec.upto fnMacroTextsSpec)) fnMacroTextsUptoCard

/-- THE SECOND FORM's CARD OF 'laws.FnCircles'. -/
def fnCirclesUptoCard : Claim7 := { stood := { row := fnCirclesUptoRow, standIns := [], harness := (true, "3989a79ece163c7deda551cd79f324d9d13158e6bef8bea4137f86c9aaff75e8"), looks := true }, kinds := [], alts := [], laidByText := true, laidKinds := [.data, .data, .data, .data, .sentinel, .sentinel, .pinned], laidTests := true, laidLooks := .later }
def FnCirclesUptoCardSaid : Prop := Claim7.holds Tryz.pinned (.plain (OpenSpec.upto fnCirclesSpec)) fnCirclesUptoCard
end Rows
end Go.Proofs.YtdkoeegcpbaojaaGreatDoor
