/-
  DERIVED. GIVEN WITH THE SEED: THE CARDS: each row of YtaannlnlddbgdaaDoorRows.lean that lists a variable, with what it lists TIED to the program's text (the seventh form; the later family's looks); each row that meets fmt, with fmt's text TOLD by the authors' own Lean function (tested against real Go, not proved from fmt's source: count such statements apart). THE CARD IS WHAT COUNTS. Prove the row's statement (the work); the ties are given (YtaannlnlddbgdaaDoorTie.lean); close each card by the builder's one call (the guide's Derived/Test/ToyasCard.lean, 'card_holds'). Laid BY PROGRAM, IN A SANDBOX (cutbox-door.mjs). By AI agents, Wed Nov 11 2026. No macro, syntax, notation, axiom, sorry.
-/
import Derived.Test.YtaannlnlddbgdaaDoorRows
import GoSem.ClaimSeven
namespace Go.Proofs.YtaannlnlddbgdaaDoor
namespace Rows

/-- THE TIED CARD OF 'laws.FnExactJoined'. -/
def fnExactJoinedCard : Claim7 := { stood := { row := fnExactJoinedRow, standIns := [], harness := (true, "c9a1063e3a91177e2afafb5454e1e2e04351cdd4da785a851207ba0ad3224398"), looks := true }, kinds := [], alts := [], laidByText := true, laidKinds := [.data, .data, .data], laidTests := true, laidLooks := .later }
def FnExactJoinedCardSaid : Prop := Claim7.holds Tryd.pinned (.plain (OpenSpec.ofChange fnExactJoinedSpec)) fnExactJoinedCard

/-- THE TIED CARD OF 'laws.FnJoined'. -/
def fnJoinedCard : Claim7 := { stood := { row := fnJoinedRow, standIns := [], harness := (true, "c9a1063e3a91177e2afafb5454e1e2e04351cdd4da785a851207ba0ad3224398"), looks := true }, kinds := [], alts := [], laidByText := true, laidKinds := [.data, .data, .data], laidTests := true, laidLooks := .later }
def FnJoinedCardSaid : Prop := Claim7.holds Tryd.pinned (.plain (OpenSpec.ofChange fnJoinedSpec)) fnJoinedCard

/-- THE TIED CARD OF 'laws.FnExactValueText'. -/
def fnExactValueTextCard : Claim7 := { stood := { row := fnExactValueTextRow, standIns := [], harness := (true, "c9a1063e3a91177e2afafb5454e1e2e04351cdd4da785a851207ba0ad3224398"), looks := true }, kinds := [], alts := [], laidByText := true, laidKinds := [.data, .data, .data], laidTests := true, laidLooks := .later }
def FnExactValueTextCardSaid : Prop := Claim7.holds Tryd.pinned (.plain (OpenSpec.ofChange fnExactValueTextSpec)) fnExactValueTextCard

/-- THE TIED CARD OF 'laws.FnExactReadValue'. -/
def fnExactReadValueCard : Claim7 := { stood := { row := fnExactReadValueRow, standIns := [], harness := (true, "c9a1063e3a91177e2afafb5454e1e2e04351cdd4da785a851207ba0ad3224398"), looks := true }, kinds := [], alts := [], laidByText := true, laidKinds := [.data, .data, .data, .sentinel, .sentinel], laidTests := true, laidLooks := .later }
def FnExactReadValueCardSaid : Prop := Claim7.holds Tryd.pinned (.plain (OpenSpec.ofChange fnExactReadValueSpec)) fnExactReadValueCard

/-- THE TIED CARD OF 'laws.FnValueTexts'. -/
def fnValueTextsCard : Claim7 := { stood := { row := fnValueTextsRow, standIns := [], harness := (true, "c9a1063e3a91177e2afafb5454e1e2e04351cdd4da785a851207ba0ad3224398"), looks := true }, kinds := [], alts := [], laidByText := true, laidKinds := [.data, .data, .data, .sentinel, .sentinel], laidTests := true, laidLooks := .later }
def FnValueTextsCardSaid : Prop := Claim7.holds Tryd.pinned (.plain (OpenSpec.ofChange fnValueTextsSpec)) fnValueTextsCard

/-- THE SECOND FORM's CARD OF 'laws.FnExactJoined'. -/
def fnExactJoinedUptoCard : Claim7 := { stood := { row := fnExactJoinedUptoRow, standIns := [], harness := (true, "c9a1063e3a91177e2afafb5454e1e2e04351cdd4da785a851207ba0ad3224398"), looks := true }, kinds := [], alts := [], laidByText := true, laidKinds := [.data, .data, .data], laidTests := true, laidLooks := .later }
def FnExactJoinedUptoCardSaid : Prop := Claim7.holds Tryd.pinned (.plain (OpenSpec.upto fnExactJoinedSpec)) fnExactJoinedUptoCard

/-- THE SECOND FORM's CARD OF 'laws.FnJoined'. -/
def fnJoinedUptoCard : Claim7 := { stood := { row := fnJoinedUptoRow, standIns := [], harness := (true, "c9a1063e3a91177e2afafb5454e1e2e04351cdd4da785a851207ba0ad3224398"), looks := true }, kinds := [], alts := [], laidByText := true, laidKinds := [.data, .data, .data], laidTests := true, laidLooks := .later }
def FnJoinedUptoCardSaid : Prop := Claim7.holds Tryd.pinned (.plain (OpenSpec.upto fnJoinedSpec)) fnJoinedUptoCard

/-- THE SECOND FORM's CARD OF 'laws.FnExactValueText'. -/
def fnExactValueTextUptoCard : Claim7 := { stood := { row := fnExactValueTextUptoRow, standIns := [], harness := (true, "c9a1063e3a91177e2afafb5454e1e2e04351cdd4da785a851207ba0ad3224398"), looks := true }, kinds := [], alts := [], laidByText := true, laidKinds := [.data, .data, .data], laidTests := true, laidLooks := .later }
def FnExactValueTextUptoCardSaid : Prop := Claim7.holds Tryd.pinned (.plain (OpenSpec.upto fnExactValueTextSpec)) fnExactValueTextUptoCard

/-- THE SECOND FORM's CARD OF 'laws.FnExactReadValue'. -/
def fnExactReadValueUptoCard : Claim7 := { stood := { row := fnExactReadValueUptoRow, standIns := [], harness := (true, "c9a1063e3a91177e2afafb5454e1e2e04351cdd4da785a851207ba0ad3224398"), looks := true }, kinds := [], alts := [], laidByText := true, laidKinds := [.data, .data, .data, .sentinel, .sentinel], laidTests := true, laidLooks := .later }
def FnExactReadValueUptoCardSaid : Prop := Claim7.holds Tryd.pinned (.plain (OpenSpec.upto fnExactReadValueSpec)) fnExactReadValueUptoCard

/-- THE SECOND FORM's CARD OF 'laws.FnValueTexts'. -/
def fnValueTextsUptoCard : Claim7 := { stood := { row := fnValueTextsUptoRow, standIns := [], harness := (true, "c9a1063e3a91177e2afafb5454e1e2e04351cdd4da785a851207ba0ad3224398"), looks := true }, kinds := [], alts := [], laidByText := true, laidKinds := [.data, .data, .data, .sentinel, .sentinel], laidTests := true, laidLooks := .later }
def FnValueTextsUptoCardSaid : Prop := Claim7.holds Tryd.pinned (.plain (OpenSpec.upto fnValueTextsSpec)) fnValueTextsUptoCard
end Rows
end Go.Proofs.YtaannlnlddbgdaaDoor
