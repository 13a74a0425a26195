/-
  No cell of these rows narrows 'for every input' (looked for: loops, veiled, ifaces, maps, wideKeys, modest, calm, conditions, laid).
  DERIVED. THE GIVEN ROWS OF THIS SEAT. 9 by the template 'for every input the law returns true; each argument reads behind the call as it read before'; 0 by the template 'total and deterministic' (their statements: YtaannlnlddbgdabTotals.lean).
  GIVEN WITH THE SEED: the statements are not yours to turn. If you find one false, say at which input.
  Laid BY PROGRAM, IN A SANDBOX (cutbox-rows.mjs): the forced cells as the released guide's own fill.sh prints them over the translation 4b27f363d21336b0… (all of the seat's roots in one cut). By AI agents, Wed Nov 11 2026. No macro, syntax, notation, axiom, sorry.
-/
import Derived.Test.YtaannlnlddbgdabChecked
import GoSem.Claim
import GoSem.ClaimJoined
import GoSem.ClaimMapViews
import Derived.JoinedTies
import Derived.KernelRfl
namespace Go.Proofs.Ytaannlnlddbgdab
/- THE CELL 'sum', in the pinned program and in every row, IS THE sha256 OF THE DUMP (.gsa) THAT YtaannlnlddbgdabProg.lean LOADS. Nothing in Lean hashes anything: it is a label: what it is worth is what the hold of that sum in a sandbox is worth. -/
noncomputable def Try.pinned : Pinned := { name := "ytaannlnlddbgdab", sum := "4b27f363d21336b0a46c54248deac6e58980bb50cabaec0b96f3f623b8eae221", checked := Try.checked }
namespace Rows
def none {H : Type} : Left H := { results := [], args := [] }

/-- 'laws.FnExactValuesOk': WHATEVER THE INPUT: true; the input reads as it did. -/
def fnExactValuesOkSpec : ChangeSpec := { name := "fnExactValuesOk", fn := fun _ => fun
  | [d] => { results := [.lit (.bool true)], args := [d] }
  | _ => none }
def fnExactValuesOkRow : OpenClaim := { program := "ytaannlnlddbgdab", sum := "4b27f363d21336b0a46c54248deac6e58980bb50cabaec0b96f3f623b8eae221", func := "loop.example/g00267/laws.FnExactValuesOk", spec := "fnExactValuesOk", apart := false }
def FnExactValuesOkSaid : Prop := fnExactValuesOkRow.holds Try.pinned (OpenSpec.ofChange fnExactValuesOkSpec)

/-- ITS FALSE NEIGHBOUR: 'it returns false'. Refute it at one input. -/
def fnExactValuesOkWrong : ChangeSpec := { name := "fnExactValuesOk", fn := fun _ => fun
  | [d] => { results := [.lit (.bool false)], args := [d] }
  | _ => none }
def FnExactValuesOkWrongFalsely : Prop := fnExactValuesOkRow.holds Try.pinned (OpenSpec.ofChange fnExactValuesOkWrong)

/-- 'laws.FnExactLookup': WHATEVER THE INPUT: true; the input reads as it did. -/
def fnExactLookupSpec : ChangeSpec := { name := "fnExactLookup", fn := fun _ => fun
  | [d1, d2] => { results := [.lit (.bool true)], args := [d1, d2] }
  | _ => none }
def fnExactLookupRow : OpenClaim := { program := "ytaannlnlddbgdab", sum := "4b27f363d21336b0a46c54248deac6e58980bb50cabaec0b96f3f623b8eae221", func := "loop.example/g00267/laws.FnExactLookup", spec := "fnExactLookup", apart := false }
def FnExactLookupSaid : Prop := fnExactLookupRow.holds Try.pinned (OpenSpec.ofChange fnExactLookupSpec)

/-- ITS FALSE NEIGHBOUR: 'it returns false'. Refute it at one input. -/
def fnExactLookupWrong : ChangeSpec := { name := "fnExactLookup", fn := fun _ => fun
  | [d1, d2] => { results := [.lit (.bool false)], args := [d1, d2] }
  | _ => none }
def FnExactLookupWrongFalsely : Prop := fnExactLookupRow.holds Try.pinned (OpenSpec.ofChange fnExactLookupWrong)

/-- 'laws.FnExactDagNew': WHATEVER THE INPUT: true; the input reads as it did. -/
def fnExactDagNewSpec : ChangeSpec := { name := "fnExactDagNew", fn := fun _ => fun
  | [] => { results := [.lit (.bool true)], args := [] }
  | _ => none }
def fnExactDagNewRow : OpenClaim := { program := "ytaannlnlddbgdab", sum := "4b27f363d21336b0a46c54248deac6e58980bb50cabaec0b96f3f623b8eae221", func := "loop.example/g00267/laws.FnExactDagNew", spec := "fnExactDagNew", apart := false }
def FnExactDagNewSaid : Prop := fnExactDagNewRow.holds Try.pinned (OpenSpec.ofChange fnExactDagNewSpec)

/-- ITS FALSE NEIGHBOUR: 'it returns false'. Refute it at one input. -/
def fnExactDagNewWrong : ChangeSpec := { name := "fnExactDagNew", fn := fun _ => fun
  | [] => { results := [.lit (.bool false)], args := [] }
  | _ => none }
def FnExactDagNewWrongFalsely : Prop := fnExactDagNewRow.holds Try.pinned (OpenSpec.ofChange fnExactDagNewWrong)

/-- 'laws.FnAreas': WHATEVER THE INPUT: true; the input reads as it did. -/
def fnAreasSpec : ChangeSpec := { name := "fnAreas", fn := fun _ => fun
  | [d] => { results := [.lit (.bool true)], args := [d] }
  | _ => none }
def fnAreasRow : OpenClaim := { program := "ytaannlnlddbgdab", sum := "4b27f363d21336b0a46c54248deac6e58980bb50cabaec0b96f3f623b8eae221", func := "loop.example/g00267/laws.FnAreas", spec := "fnAreas", apart := false }
def FnAreasSaid : Prop := fnAreasRow.holds Try.pinned (OpenSpec.ofChange fnAreasSpec)

/-- ITS FALSE NEIGHBOUR: 'it returns false'. Refute it at one input. -/
def fnAreasWrong : ChangeSpec := { name := "fnAreas", fn := fun _ => fun
  | [d] => { results := [.lit (.bool false)], args := [d] }
  | _ => none }
def FnAreasWrongFalsely : Prop := fnAreasRow.holds Try.pinned (OpenSpec.ofChange fnAreasWrong)

/-- 'laws.FnExactFormulaOk': WHATEVER THE INPUT: true; the input reads as it did. -/
def fnExactFormulaOkSpec : ChangeSpec := { name := "fnExactFormulaOk", fn := fun _ => fun
  | [d] => { results := [.lit (.bool true)], args := [d] }
  | _ => none }
def fnExactFormulaOkRow : OpenClaim := { program := "ytaannlnlddbgdab", sum := "4b27f363d21336b0a46c54248deac6e58980bb50cabaec0b96f3f623b8eae221", func := "loop.example/g00267/laws.FnExactFormulaOk", spec := "fnExactFormulaOk", recurses := true, apart := false }
def FnExactFormulaOkSaid : Prop := fnExactFormulaOkRow.holds Try.pinned (OpenSpec.ofChange fnExactFormulaOkSpec)

/-- ITS FALSE NEIGHBOUR: 'it returns false'. Refute it at one input. -/
def fnExactFormulaOkWrong : ChangeSpec := { name := "fnExactFormulaOk", fn := fun _ => fun
  | [d] => { results := [.lit (.bool false)], args := [d] }
  | _ => none }
def FnExactFormulaOkWrongFalsely : Prop := fnExactFormulaOkRow.holds Try.pinned (OpenSpec.ofChange fnExactFormulaOkWrong)

/-- 'laws.FnExactAreasOf': WHATEVER THE INPUT: true; the input reads as it did. -/
def fnExactAreasOfSpec : ChangeSpec := { name := "fnExactAreasOf", fn := fun _ => fun
  | [d] => { results := [.lit (.bool true)], args := [d] }
  | _ => none }
def fnExactAreasOfRow : OpenClaim := { program := "ytaannlnlddbgdab", sum := "4b27f363d21336b0a46c54248deac6e58980bb50cabaec0b96f3f623b8eae221", func := "loop.example/g00267/laws.FnExactAreasOf", spec := "fnExactAreasOf", recurses := true, apart := false }
def FnExactAreasOfSaid : Prop := fnExactAreasOfRow.holds Try.pinned (OpenSpec.ofChange fnExactAreasOfSpec)

/-- ITS FALSE NEIGHBOUR: 'it returns false'. Refute it at one input. -/
def fnExactAreasOfWrong : ChangeSpec := { name := "fnExactAreasOf", fn := fun _ => fun
  | [d] => { results := [.lit (.bool false)], args := [d] }
  | _ => none }
def FnExactAreasOfWrongFalsely : Prop := fnExactAreasOfRow.holds Try.pinned (OpenSpec.ofChange fnExactAreasOfWrong)

/-- 'laws.FnExactMovedBy': WHATEVER THE INPUT: true; the input reads as it did. -/
def fnExactMovedBySpec : ChangeSpec := { name := "fnExactMovedBy", fn := fun _ => fun
  | [d1, d2, d3] => { results := [.lit (.bool true)], args := [d1, d2, d3] }
  | _ => none }
def fnExactMovedByRow : OpenClaim := { program := "ytaannlnlddbgdab", sum := "4b27f363d21336b0a46c54248deac6e58980bb50cabaec0b96f3f623b8eae221", func := "loop.example/g00267/laws.FnExactMovedBy", spec := "fnExactMovedBy", unfollowed := true, recurses := true, apart := false }
def FnExactMovedBySaid : Prop := fnExactMovedByRow.holds Try.pinned (OpenSpec.ofChange fnExactMovedBySpec)

/-- ITS FALSE NEIGHBOUR: 'it returns false'. Refute it at one input. -/
def fnExactMovedByWrong : ChangeSpec := { name := "fnExactMovedBy", fn := fun _ => fun
  | [d1, d2, d3] => { results := [.lit (.bool false)], args := [d1, d2, d3] }
  | _ => none }
def FnExactMovedByWrongFalsely : Prop := fnExactMovedByRow.holds Try.pinned (OpenSpec.ofChange fnExactMovedByWrong)

/-- 'laws.FnExactOpened': WHATEVER THE INPUT: true; the input reads as it did. -/
def fnExactOpenedSpec : ChangeSpec := { name := "fnExactOpened", fn := fun _ => fun
  | [d1, d2, d3] => { results := [.lit (.bool true)], args := [d1, d2, d3] }
  | _ => none }
def fnExactOpenedRow : OpenClaim := { program := "ytaannlnlddbgdab", sum := "4b27f363d21336b0a46c54248deac6e58980bb50cabaec0b96f3f623b8eae221", func := "loop.example/g00267/laws.FnExactOpened", spec := "fnExactOpened", unfollowed := true, recurses := true, apart := false }
def FnExactOpenedSaid : Prop := fnExactOpenedRow.holds Try.pinned (OpenSpec.ofChange fnExactOpenedSpec)

/-- ITS FALSE NEIGHBOUR: 'it returns false'. Refute it at one input. -/
def fnExactOpenedWrong : ChangeSpec := { name := "fnExactOpened", fn := fun _ => fun
  | [d1, d2, d3] => { results := [.lit (.bool false)], args := [d1, d2, d3] }
  | _ => none }
def FnExactOpenedWrongFalsely : Prop := fnExactOpenedRow.holds Try.pinned (OpenSpec.ofChange fnExactOpenedWrong)

/-- 'laws.FnExactClosed': WHATEVER THE INPUT: true; the input reads as it did. -/
def fnExactClosedSpec : ChangeSpec := { name := "fnExactClosed", fn := fun _ => fun
  | [d1, d2, d3] => { results := [.lit (.bool true)], args := [d1, d2, d3] }
  | _ => none }
def fnExactClosedRow : OpenClaim := { program := "ytaannlnlddbgdab", sum := "4b27f363d21336b0a46c54248deac6e58980bb50cabaec0b96f3f623b8eae221", func := "loop.example/g00267/laws.FnExactClosed", spec := "fnExactClosed", unfollowed := true, recurses := true, apart := false }
def FnExactClosedSaid : Prop := fnExactClosedRow.holds Try.pinned (OpenSpec.ofChange fnExactClosedSpec)

/-- ITS FALSE NEIGHBOUR: 'it returns false'. Refute it at one input. -/
def fnExactClosedWrong : ChangeSpec := { name := "fnExactClosed", fn := fun _ => fun
  | [d1, d2, d3] => { results := [.lit (.bool false)], args := [d1, d2, d3] }
  | _ => none }
def FnExactClosedWrongFalsely : Prop := fnExactClosedRow.holds Try.pinned (OpenSpec.ofChange fnExactClosedWrong)

/- THE SECOND FORM. 'bulk': how many values and letters a reading holds, each counted each time it is reached (what is shared counts as often as it is met; a slice's spare places count too). A statement '..UptoSaid' is the law's where the arguments, and the package variables that the reading takes, are together of bulk at most 1048576: NARROWER than '..Said'. Prove '..Said' where nothing that the law and all that it calls make is longer than what came in: it says more and counts as full. Else prove '..UptoSaid'. A law counts once. -/
mutual
def uptoBulk {H : Type} : DataW H → Nat
  | .lit (.string bytes) => bytes.length + 1
  | .lit _ => 1
  | .nil => 1
  | .ptr d => uptoBulk d + 1
  | .slice elems spare => uptoBulkAll elems + uptoBulkAll spare + 1
  | .agg parts => uptoBulkAll parts + 1
  | .iface _ d => uptoBulk d + 1
  | .map entries => uptoBulkEntries entries + 1
  | .held _ => 1
def uptoBulkAll {H : Type} : List (DataW H) → Nat
  | [] => 0
  | d :: r => uptoBulk d + uptoBulkAll r
def uptoBulkEntries {H : Type} : List (Lit × DataW H) → Nat
  | [] => 0
  | x :: r => uptoBulkEntry x + uptoBulkEntries r
def uptoBulkEntry {H : Type} : Lit × DataW H → Nat
  | (.string bytes, d) => bytes.length + uptoBulk d + 1
  | (_, d) => uptoBulk d + 1
 end
def uptoSmall : (H : Type) → List (DataW H) → Bool := fun _ ds => decide (uptoBulkAll ds ≤ 1048576)
def OpenSpec.upto (s : _root_.Go.ChangeSpec) : _root_.Go.OpenSpec := { _root_.Go.OpenSpec.ofChange s with cond := some uptoSmall }

/-- 'laws.FnExactValuesOk', WHERE WHAT IT READS IS OF BULK AT MOST 1048576: true; the input reads as it did. -/
def fnExactValuesOkUptoRow : OpenClaim := { program := "ytaannlnlddbgdab", sum := "4b27f363d21336b0a46c54248deac6e58980bb50cabaec0b96f3f623b8eae221", func := "loop.example/g00267/laws.FnExactValuesOk", spec := "fnExactValuesOk", apart := false, narrowed := true }
def FnExactValuesOkUptoSaid : Prop := fnExactValuesOkUptoRow.holds Try.pinned (OpenSpec.upto fnExactValuesOkSpec)

/-- 'laws.FnExactLookup', WHERE WHAT IT READS IS OF BULK AT MOST 1048576: true; the input reads as it did. -/
def fnExactLookupUptoRow : OpenClaim := { program := "ytaannlnlddbgdab", sum := "4b27f363d21336b0a46c54248deac6e58980bb50cabaec0b96f3f623b8eae221", func := "loop.example/g00267/laws.FnExactLookup", spec := "fnExactLookup", apart := false, narrowed := true }
def FnExactLookupUptoSaid : Prop := fnExactLookupUptoRow.holds Try.pinned (OpenSpec.upto fnExactLookupSpec)

/-- 'laws.FnExactDagNew', WHERE WHAT IT READS IS OF BULK AT MOST 1048576: true; the input reads as it did. -/
def fnExactDagNewUptoRow : OpenClaim := { program := "ytaannlnlddbgdab", sum := "4b27f363d21336b0a46c54248deac6e58980bb50cabaec0b96f3f623b8eae221", func := "loop.example/g00267/laws.FnExactDagNew", spec := "fnExactDagNew", apart := false, narrowed := true }
def FnExactDagNewUptoSaid : Prop := fnExactDagNewUptoRow.holds Try.pinned (OpenSpec.upto fnExactDagNewSpec)

/-- 'laws.FnAreas', WHERE WHAT IT READS IS OF BULK AT MOST 1048576: true; the input reads as it did. -/
def fnAreasUptoRow : OpenClaim := { program := "ytaannlnlddbgdab", sum := "4b27f363d21336b0a46c54248deac6e58980bb50cabaec0b96f3f623b8eae221", func := "loop.example/g00267/laws.FnAreas", spec := "fnAreas", apart := false, narrowed := true }
def FnAreasUptoSaid : Prop := fnAreasUptoRow.holds Try.pinned (OpenSpec.upto fnAreasSpec)

/-- 'laws.FnExactFormulaOk', WHERE WHAT IT READS IS OF BULK AT MOST 1048576: true; the input reads as it did. -/
def fnExactFormulaOkUptoRow : OpenClaim := { program := "ytaannlnlddbgdab", sum := "4b27f363d21336b0a46c54248deac6e58980bb50cabaec0b96f3f623b8eae221", func := "loop.example/g00267/laws.FnExactFormulaOk", spec := "fnExactFormulaOk", recurses := true, apart := false, narrowed := true }
def FnExactFormulaOkUptoSaid : Prop := fnExactFormulaOkUptoRow.holds Try.pinned (OpenSpec.upto fnExactFormulaOkSpec)

/-- 'laws.FnExactAreasOf', WHERE WHAT IT READS IS OF BULK AT MOST 1048576: true; the input reads as it did. -/
def fnExactAreasOfUptoRow : OpenClaim := { program := "ytaannlnlddbgdab", sum := "4b27f363d21336b0a46c54248deac6e58980bb50cabaec0b96f3f623b8eae221", func := "loop.example/g00267/laws.FnExactAreasOf", spec := "fnExactAreasOf", recurses := true, apart := false, narrowed := true }
def FnExactAreasOfUptoSaid : Prop := fnExactAreasOfUptoRow.holds Try.pinned (OpenSpec.upto fnExactAreasOfSpec)

/-- 'laws.FnExactMovedBy', WHERE WHAT IT READS IS OF BULK AT MOST 1048576: true; the input reads as it did. -/
def fnExactMovedByUptoRow : OpenClaim := { program := "ytaannlnlddbgdab", sum := "4b27f363d21336b0a46c54248deac6e58980bb50cabaec0b96f3f623b8eae221", func := "loop.example/g00267/laws.FnExactMovedBy", spec := "fnExactMovedBy", unfollowed := true, recurses := true, apart := false, narrowed := true }
def FnExactMovedByUptoSaid : Prop := fnExactMovedByUptoRow.holds Try.pinned (OpenSpec.upto fnExactMovedBySpec)

/-- 'laws.FnExactOpened', WHERE WHAT IT READS IS OF BULK AT MOST 1048576: true; the input reads as it did. -/
def fnExactOpenedUptoRow : OpenClaim := { program := "ytaannlnlddbgdab", sum := "4b27f363d21336b0a46c54248deac6e58980bb50cabaec0b96f3f623b8eae221", func := "loop.example/g00267/laws.FnExactOpened", spec := "fnExactOpened", unfollowed := true, recurses := true, apart := false, narrowed := true }
def FnExactOpenedUptoSaid : Prop := fnExactOpenedUptoRow.holds Try.pinned (OpenSpec.upto fnExactOpenedSpec)

/-- 'laws.FnExactClosed', WHERE WHAT IT READS IS OF BULK AT MOST 1048576: true; the input reads as it did. -/
def fnExactClosedUptoRow : OpenClaim := { program := "ytaannlnlddbgdab", sum := "4b27f363d21336b0a46c54248deac6e58980bb50cabaec0b96f3f623b8eae221", func := "loop.example/g00267/laws.FnExactClosed", spec := "fnExactClosed", unfollowed := true, recurses := true, apart := false, narrowed := true }
def FnExactClosedUptoSaid : Prop := fnExactClosedUptoRow.holds Try.pinned (OpenSpec.upto fnExactClosedSpec)

end Rows
end Go.Proofs.Ytaannlnlddbgdab
