/-
  DERIVED. GIVEN WITH THE SEED: THE CARDS: each row of YtkkkfjgagjdcoaaGreatDoorRows.lean that lists a variable, with what it lists TIED to the program's text (the seventh form; the later family's looks); each row that meets fmt, with fmt's text TOLD by the authors' own Lean function (tested against real Go, not proved from fmt's source: count such statements apart). THE CARD IS WHAT COUNTS. Prove the row's statement (the work); the ties are given (YtkkkfjgagjdcoaaGreatDoorTie.lean); close each card by the builder's one call (the guide's Derived/Test/ToyasCard.lean, 'card_holds'). Laid BY PROGRAM, IN A SANDBOX (cutbox-door.mjs). By AI agents, Wed Nov 11 2026. No macro, syntax, notation, axiom, sorry.
-/
import Derived.Test.YtkkkfjgagjdcoaaGreatDoorRows
import GoSem.ClaimSeven
namespace Go.Proofs.YtkkkfjgagjdcoaaGreatDoor
namespace Rows

/-- THE TIED CARD OF 'laws.FnExactSourceAt'. -/
def fnExactSourceAtCard : Claim7 := { stood := { row := fnExactSourceAtRow, standIns := [], harness := (true, "b46c94c1b146a9b9d08bdab76e0cf938fbf8f49c40777ef671f3f18fb4253477"), looks := true }, kinds := [], alts := [], laidByText := true, laidKinds := [.data, .data, .data, .data, .sentinel, .sentinel, .pinned], laidTests := true, laidLooks := .later }
def FnExactSourceAtCardSaid : Prop := Claim7.holds Tryz.pinned (.plain (OpenSpec.ofChange fnExactSourceAtSpec)) fnExactSourceAtCard

/-- THE TIED CARD OF 'laws.FnExactMacroOk'. -/
def fnExactMacroOkCard : Claim7 := { stood := { row := fnExactMacroOkRow, standIns := [], harness := (true, "b46c94c1b146a9b9d08bdab76e0cf938fbf8f49c40777ef671f3f18fb4253477"), looks := true }, kinds := [], alts := [], laidByText := true, laidKinds := [.data, .data, .data, .data, .sentinel, .sentinel, .pinned], laidTests := true, laidLooks := .later }
def FnExactMacroOkCardSaid : Prop := Claim7.holds Tryz.pinned (.plain (OpenSpec.ofChange fnExactMacroOkSpec)) fnExactMacroOkCard

/-- THE TIED CARD OF 'laws.FnExactMacroText'. -/
def fnExactMacroTextCard : Claim7 := { stood := { row := fnExactMacroTextRow, standIns := [], harness := (true, "b46c94c1b146a9b9d08bdab76e0cf938fbf8f49c40777ef671f3f18fb4253477"), looks := true }, kinds := [], alts := [], laidByText := true, laidKinds := [.data, .data, .data, .data, .sentinel, .sentinel, .pinned], laidTests := true, laidLooks := .later }
def FnExactMacroTextCardSaid : Prop := Claim7.holds Tryz.pinned (.plain (OpenSpec.ofChange fnExactMacroTextSpec)) fnExactMacroTextCard

/-- THE TIED CARD OF 'laws.FnExactDagOk'. -/
def fnExactDagOkCard : Claim7 := { stood := { row := fnExactDagOkRow, standIns := [], harness := (true, "b46c94c1b146a9b9d08bdab76e0cf938fbf8f49c40777ef671f3f18fb4253477"), looks := true }, kinds := [], alts := [], laidByText := true, laidKinds := [.data, .data, .data, .data, .sentinel, .sentinel, .pinned], laidTests := true, laidLooks := .later }
def FnExactDagOkCardSaid : Prop := Claim7.holds Tryz.pinned (.plain (OpenSpec.ofChange fnExactDagOkSpec)) fnExactDagOkCard

/-- THE TIED CARD OF 'laws.FnExactHeadOf'. -/
def fnExactHeadOfCard : Claim7 := { stood := { row := fnExactHeadOfRow, standIns := [], harness := (true, "b46c94c1b146a9b9d08bdab76e0cf938fbf8f49c40777ef671f3f18fb4253477"), looks := true }, kinds := [], alts := [], laidByText := true, laidKinds := [.data, .data, .data, .data, .sentinel, .sentinel, .pinned], laidTests := true, laidLooks := .later }
def FnExactHeadOfCardSaid : Prop := Claim7.holds Tryz.pinned (.plain (OpenSpec.ofChange fnExactHeadOfSpec)) fnExactHeadOfCard

/-- THE TIED CARD OF 'laws.FnExactLeansOn'. -/
def fnExactLeansOnCard : Claim7 := { stood := { row := fnExactLeansOnRow, standIns := [], harness := (true, "b46c94c1b146a9b9d08bdab76e0cf938fbf8f49c40777ef671f3f18fb4253477"), looks := true }, kinds := [], alts := [], laidByText := true, laidKinds := [.data, .data, .data, .data, .sentinel, .sentinel, .pinned], laidTests := true, laidLooks := .later }
def FnExactLeansOnCardSaid : Prop := Claim7.holds Tryz.pinned (.plain (OpenSpec.ofChange fnExactLeansOnSpec)) fnExactLeansOnCard

/-- THE TIED CARD OF 'laws.FnExactInCircle'. -/
def fnExactInCircleCard : Claim7 := { stood := { row := fnExactInCircleRow, standIns := [], harness := (true, "b46c94c1b146a9b9d08bdab76e0cf938fbf8f49c40777ef671f3f18fb4253477"), looks := true }, kinds := [], alts := [], laidByText := true, laidKinds := [.data, .data, .data, .data, .sentinel, .sentinel, .pinned], laidTests := true, laidLooks := .later }
def FnExactInCircleCardSaid : Prop := Claim7.holds Tryz.pinned (.plain (OpenSpec.ofChange fnExactInCircleSpec)) fnExactInCircleCard

/-- THE TIED CARD OF 'laws.FnExactTouched'. -/
def fnExactTouchedCard : Claim7 := { stood := { row := fnExactTouchedRow, standIns := [], harness := (true, "b46c94c1b146a9b9d08bdab76e0cf938fbf8f49c40777ef671f3f18fb4253477"), looks := true }, kinds := [], alts := [], laidByText := true, laidKinds := [.data, .data, .data, .data, .sentinel, .sentinel, .pinned], laidTests := true, laidLooks := .later }
def FnExactTouchedCardSaid : Prop := Claim7.holds Tryz.pinned (.plain (OpenSpec.ofChange fnExactTouchedSpec)) fnExactTouchedCard

/-- THE SECOND FORM's CARD OF 'laws.FnExactSourceAt'. -/
def fnExactSourceAtUptoCard : Claim7 := { stood := { row := fnExactSourceAtUptoRow, standIns := [], harness := (true, "b46c94c1b146a9b9d08bdab76e0cf938fbf8f49c40777ef671f3f18fb4253477"), looks := true }, kinds := [], alts := [], laidByText := true, laidKinds := [.data, .data, .data, .data, .sentinel, .sentinel, .pinned], laidTests := true, laidLooks := .later }
def FnExactSourceAtUptoCardSaid : Prop := Claim7.holds Tryz.pinned (.plain (OpenSpec.upto fnExactSourceAtSpec)) fnExactSourceAtUptoCard

/-- THE SECOND FORM's CARD OF 'laws.FnExactMacroOk'. -/
def fnExactMacroOkUptoCard : Claim7 := { stood := { row := fnExactMacroOkUptoRow, standIns := [], harness := (true, "b46c94c1b146a9b9d08bdab76e0cf938fbf8f49c40777ef671f3f18fb4253477"), looks := true }, kinds := [], alts := [], laidByText := true, laidKinds := [.data, .data, .data, .data, .sentinel, .sentinel, .pinned], laidTests := true, laidLooks := .later }
def FnExactMacroOkUptoCardSaid : Prop := Claim7.holds Tryz.pinned (.plain (OpenSpec.upto fnExactMacroOkSpec)) fnExactMacroOkUptoCard

/-- THE SECOND FORM's CARD OF 'laws.FnExactMacroText'. -/
def fnExactMacroTextUptoCard : Claim7 := { stood := { row := fnExactMacroTextUptoRow, standIns := [], harness := (true, "b46c94c1b146a9b9d08bdab76e0cf938fbf8f49c40777ef671f3f18fb4253477"), looks := true }, kinds := [], alts := [], laidByText := true, laidKinds := [.data, .data, .data, .data, .sentinel, .sentinel, .pinned], laidTests := true, laidLooks := .later }
def FnExactMacroTextUptoCardSaid : Prop := Claim7.holds Tryz.pinned (.plain (OpenSpec.upto fnExactMacroTextSpec)) fnExactMacroTextUptoCard

/-- THE SECOND FORM's CARD OF 'laws.FnExactDagOk'. -/
def fnExactDagOkUptoCard : Claim7 := { stood := { row := fnExactDagOkUptoRow, standIns := [], harness := (true, "b46c94c1b146a9b9d08bdab76e0cf938fbf8f49c40777ef671f3f18fb4253477"), looks := true }, kinds := [], alts := [], laidByText := true, laidKinds := [.data, .data, .data, .data, .sentinel, .sentinel, .pinned], laidTests := true, laidLooks := .later }
def FnExactDagOkUptoCardSaid : Prop := Claim7.holds Tryz.pinned (.plain (OpenSpec.upto fnExactDagOkSpec)) fnExactDagOkUptoCard

/-- THE SECOND FORM's CARD OF 'laws.FnExactHeadOf'. -/
def fnExactHeadOfUptoCard : Claim7 := { stood := { row := fnExactHeadOfUptoRow, standIns := [], harness := (true, "b46c94c1b146a9b9d08bdab76e0cf938fbf8f49c40777ef671f3f18fb4253477"), looks := true }, kinds := [], alts := [], laidByText := true, laidKinds := [.data, .data, .data, .data, .sentinel, .sentinel, .pinned], laidTests := true, laidLooks := .later }
def FnExactHeadOfUptoCardSaid : Prop := Claim7.holds Tryz.pinned (.plain (OpenSpec.upto fnExactHeadOfSpec)) fnExactHeadOfUptoCard

/-- THE SECOND FORM's CARD OF 'laws.FnExactLeansOn'. -/
def fnExactLeansOnUptoCard : Claim7 := { stood := { row := fnExactLeansOnUptoRow, standIns := [], harness := (true, "b46c94c1b146a9b9d08bdab76e0cf938fbf8f49c40777ef671f3f18fb4253477"), looks := true }, kinds := [], alts := [], laidByText := true, laidKinds := [.data, .data, .data, .data, .sentinel, .sentinel, .pinned], laidTests := true, laidLooks := .later }
def FnExactLeansOnUptoCardSaid : Prop := Claim7.holds Tryz.pinned (.plain (OpenSpec.upto fnExactLeansOnSpec)) fnExactLeansOnUptoCard

/-- THE SECOND FORM's CARD OF 'laws.FnExactInCircle'. -/
def fnExactInCircleUptoCard : Claim7 := { stood := { row := fnExactInCircleUptoRow, standIns := [], harness := (true, "b46c94c1b146a9b9d08bdab76e0cf938fbf8f49c40777ef671f3f18fb4253477"), looks := true }, kinds := [], alts := [], laidByText := true, laidKinds := [.data, .data, .data, .data, .sentinel, .sentinel, .pinned], laidTests := true, laidLooks := .later }
def FnExactInCircleUptoCardSaid : Prop := Claim7.holds Tryz.pinned (.plain (OpenSpec.upto fnExactInCircleSpec)) fnExactInCircleUptoCard

/-- THE SECOND FORM's CARD OF 'laws.FnExactTouched'. -/
def fnExactTouchedUptoCard : Claim7 := { stood := { row := fnExactTouchedUptoRow, standIns := [], harness := (true, "b46c94c1b146a9b9d08bdab76e0cf938fbf8f49c40777ef671f3f18fb4253477"), looks := true }, kinds := [], alts := [], laidByText := true, laidKinds := [.data, .data, .data, .data, .sentinel, .sentinel, .pinned], laidTests := true, laidLooks := .later }
def FnExactTouchedUptoCardSaid : Prop := Claim7.holds Tryz.pinned (.plain (OpenSpec.upto fnExactTouchedSpec)) fnExactTouchedUptoCard
end Rows
end Go.Proofs.YtkkkfjgagjdcoaaGreatDoor
