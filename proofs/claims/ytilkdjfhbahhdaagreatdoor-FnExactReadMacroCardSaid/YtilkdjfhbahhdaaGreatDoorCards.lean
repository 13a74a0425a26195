/-
  DERIVED. GIVEN WITH THE SEED: THE CARDS: each row of YtilkdjfhbahhdaaGreatDoorRows.lean that lists a variable, with what it lists TIED to the program's text (the seventh form; the later family's looks); each row that meets fmt, with fmt's text TOLD by the authors' own Lean function (tested against real Go, not proved from fmt's source: count such statements apart). THE CARD IS WHAT COUNTS. Prove the row's statement (the work); the ties are given (YtilkdjfhbahhdaaGreatDoorTie.lean); close each card by the builder's one call (the guide's Derived/Test/ToyasCard.lean, 'card_holds'). Laid BY PROGRAM, IN A SANDBOX (cutbox-door.mjs). By AI agents, Wed Nov 11 2026. No macro, syntax, notation, axiom, sorry.
-/
import Derived.Test.YtilkdjfhbahhdaaGreatDoorRows
import GoSem.ClaimSeven
namespace Go.Proofs.YtilkdjfhbahhdaaGreatDoor
namespace Rows

/-- THE TIED CARD OF 'laws.FnExactReadFormula'. -/
def fnExactReadFormulaCard : Claim7 := { stood := { row := fnExactReadFormulaRow, standIns := [], harness := (true, "09ab82b818a8088c7d98e63730144c4968aaf167d6750c73fb9645dc84fd252c"), looks := true }, kinds := [], alts := [], laidByText := true, laidKinds := [.data, .data, .data, .data, .sentinel, .sentinel, .pinned], laidTests := true, laidLooks := .later }
def FnExactReadFormulaCardSaid : Prop := Claim7.holds Tryz.pinned (.plain (OpenSpec.ofChange fnExactReadFormulaSpec)) fnExactReadFormulaCard

/-- THE TIED CARD OF 'laws.FnExactReadMacro'. -/
def fnExactReadMacroCard : Claim7 := { stood := { row := fnExactReadMacroRow, standIns := [], harness := (true, "09ab82b818a8088c7d98e63730144c4968aaf167d6750c73fb9645dc84fd252c"), looks := true }, kinds := [], alts := [], laidByText := true, laidKinds := [.data, .data, .data, .data, .sentinel, .sentinel, .pinned], laidTests := true, laidLooks := .later }
def FnExactReadMacroCardSaid : Prop := Claim7.holds Tryz.pinned (.plain (OpenSpec.ofChange fnExactReadMacroSpec)) fnExactReadMacroCard

/-- THE SECOND FORM's CARD OF 'laws.FnExactReadFormula'. -/
def fnExactReadFormulaUptoCard : Claim7 := { stood := { row := fnExactReadFormulaUptoRow, standIns := [], harness := (true, "09ab82b818a8088c7d98e63730144c4968aaf167d6750c73fb9645dc84fd252c"), looks := true }, kinds := [], alts := [], laidByText := true, laidKinds := [.data, .data, .data, .data, .sentinel, .sentinel, .pinned], laidTests := true, laidLooks := .later }
def FnExactReadFormulaUptoCardSaid : Prop := Claim7.holds Tryz.pinned (.plain (OpenSpec.upto fnExactReadFormulaSpec)) fnExactReadFormulaUptoCard

/-- THE SECOND FORM's CARD OF 'laws.FnExactReadMacro'. -/
def fnExactReadMacroUptoCard : Claim7 := { stood := { row := fnExactReadMacroUptoRow, standIns := [], harness := (true, "09ab82b818a8088c7d98e63730144c4968aaf167d6750c73fb9645dc84fd252c"), looks := true }, kinds := [], alts := [], laidByText := true, laidKinds := [.data, .data, .data, .data, .sentinel, .sentinel, .pinned], laidTests := true, laidLooks := .later }
def FnExactReadMacroUptoCardSaid : Prop := Claim7.holds Tryz.pinned (.plain (OpenSpec.upto fnExactReadMacroSpec)) fnExactReadMacroUptoCard
end Rows
end Go.Proofs.YtilkdjfhbahhdaaGreatDoor
