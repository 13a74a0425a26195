/-
  No cell of these rows narrows 'for every input' (looked for: loops, veiled, ifaces, maps, wideKeys, modest, calm, conditions, laid).
  DERIVED. THE GIVEN ROWS OF THIS SEAT. 12 by the template 'for every input the law returns true; each argument reads behind the call as it read before'; 0 by the template 'total and deterministic' (their statements: YtoodcplobkflfaaTotals.lean).
  GIVEN WITH THE SEED: the statements are not yours to turn. If you find one false, say at which input.
  Laid BY PROGRAM, IN A SANDBOX (cutbox-rows.mjs): the forced cells as the released guide's own fill.sh prints them over the translation fe03aedcbf176c8b… (all of the seat's roots in one cut). By AI agents, Wed Nov 11 2026. No macro, syntax, notation, axiom, sorry.
-/
import Derived.Test.YtoodcplobkflfaaChecked
import GoSem.Claim
import GoSem.ClaimJoined
import GoSem.ClaimMapViews
import Derived.JoinedTies
import Derived.KernelRfl
namespace Go.Proofs.Ytoodcplobkflfaa
/- THE CELL 'sum', in the pinned program and in every row, IS THE sha256 OF THE DUMP (.gsa) THAT YtoodcplobkflfaaProg.lean LOADS. Nothing in Lean hashes anything: it is a label: what it is worth is what the hold of that sum in a sandbox is worth. -/
noncomputable def Try.pinned : Pinned := { name := "ytoodcplobkflfaa", sum := "fe03aedcbf176c8b1d5b3dbb8ccb681b34f5b0ed6a3f05c65ddbc98c05fd1e0f", checked := Try.checked }
namespace Rows
def none {H : Type} : Left H := { results := [], args := [] }

/-- 'laws.FnExactConstants': WHATEVER THE INPUT: true; the input reads as it did. -/
def fnExactConstantsSpec : ChangeSpec := { name := "fnExactConstants", fn := fun _ => fun
  | [] => { results := [.lit (.bool true)], args := [] }
  | _ => none }
def fnExactConstantsRow : OpenClaim := { program := "ytoodcplobkflfaa", sum := "fe03aedcbf176c8b1d5b3dbb8ccb681b34f5b0ed6a3f05c65ddbc98c05fd1e0f", func := "loop.example/g00267/laws.FnExactConstants", spec := "fnExactConstants", apart := false }
def FnExactConstantsSaid : Prop := fnExactConstantsRow.holds Try.pinned (OpenSpec.ofChange fnExactConstantsSpec)

/-- ITS FALSE NEIGHBOUR: 'it returns false'. Refute it at one input. -/
def fnExactConstantsWrong : ChangeSpec := { name := "fnExactConstants", fn := fun _ => fun
  | [] => { results := [.lit (.bool false)], args := [] }
  | _ => none }
def FnExactConstantsWrongFalsely : Prop := fnExactConstantsRow.holds Try.pinned (OpenSpec.ofChange fnExactConstantsWrong)

/-- 'laws.FnExactRefOk': WHATEVER THE INPUT: true; the input reads as it did. -/
def fnExactRefOkSpec : ChangeSpec := { name := "fnExactRefOk", fn := fun _ => fun
  | [d] => { results := [.lit (.bool true)], args := [d] }
  | _ => none }
def fnExactRefOkRow : OpenClaim := { program := "ytoodcplobkflfaa", sum := "fe03aedcbf176c8b1d5b3dbb8ccb681b34f5b0ed6a3f05c65ddbc98c05fd1e0f", func := "loop.example/g00267/laws.FnExactRefOk", spec := "fnExactRefOk", apart := false }
def FnExactRefOkSaid : Prop := fnExactRefOkRow.holds Try.pinned (OpenSpec.ofChange fnExactRefOkSpec)

/-- ITS FALSE NEIGHBOUR: 'it returns false'. Refute it at one input. -/
def fnExactRefOkWrong : ChangeSpec := { name := "fnExactRefOk", fn := fun _ => fun
  | [d] => { results := [.lit (.bool false)], args := [d] }
  | _ => none }
def FnExactRefOkWrongFalsely : Prop := fnExactRefOkRow.holds Try.pinned (OpenSpec.ofChange fnExactRefOkWrong)

/-- 'laws.FnExactColText': WHATEVER THE INPUT: true; the input reads as it did. -/
def fnExactColTextSpec : ChangeSpec := { name := "fnExactColText", fn := fun _ => fun
  | [d] => { results := [.lit (.bool true)], args := [d] }
  | _ => none }
def fnExactColTextRow : OpenClaim := { program := "ytoodcplobkflfaa", sum := "fe03aedcbf176c8b1d5b3dbb8ccb681b34f5b0ed6a3f05c65ddbc98c05fd1e0f", func := "loop.example/g00267/laws.FnExactColText", spec := "fnExactColText", apart := false }
def FnExactColTextSaid : Prop := fnExactColTextRow.holds Try.pinned (OpenSpec.ofChange fnExactColTextSpec)

/-- ITS FALSE NEIGHBOUR: 'it returns false'. Refute it at one input. -/
def fnExactColTextWrong : ChangeSpec := { name := "fnExactColText", fn := fun _ => fun
  | [d] => { results := [.lit (.bool false)], args := [d] }
  | _ => none }
def FnExactColTextWrongFalsely : Prop := fnExactColTextRow.holds Try.pinned (OpenSpec.ofChange fnExactColTextWrong)

/-- 'laws.FnExactAreaOk': WHATEVER THE INPUT: true; the input reads as it did. -/
def fnExactAreaOkSpec : ChangeSpec := { name := "fnExactAreaOk", fn := fun _ => fun
  | [d] => { results := [.lit (.bool true)], args := [d] }
  | _ => none }
def fnExactAreaOkRow : OpenClaim := { program := "ytoodcplobkflfaa", sum := "fe03aedcbf176c8b1d5b3dbb8ccb681b34f5b0ed6a3f05c65ddbc98c05fd1e0f", func := "loop.example/g00267/laws.FnExactAreaOk", spec := "fnExactAreaOk", apart := false }
def FnExactAreaOkSaid : Prop := fnExactAreaOkRow.holds Try.pinned (OpenSpec.ofChange fnExactAreaOkSpec)

/-- ITS FALSE NEIGHBOUR: 'it returns false'. Refute it at one input. -/
def fnExactAreaOkWrong : ChangeSpec := { name := "fnExactAreaOk", fn := fun _ => fun
  | [d] => { results := [.lit (.bool false)], args := [d] }
  | _ => none }
def FnExactAreaOkWrongFalsely : Prop := fnExactAreaOkRow.holds Try.pinned (OpenSpec.ofChange fnExactAreaOkWrong)

/-- 'laws.FnExactReadCol': WHATEVER THE INPUT: true; the input reads as it did. -/
def fnExactReadColSpec : ChangeSpec := { name := "fnExactReadCol", fn := fun _ => fun
  | [d] => { results := [.lit (.bool true)], args := [d] }
  | _ => none }
def fnExactReadColRow : OpenClaim := { program := "ytoodcplobkflfaa", sum := "fe03aedcbf176c8b1d5b3dbb8ccb681b34f5b0ed6a3f05c65ddbc98c05fd1e0f", func := "loop.example/g00267/laws.FnExactReadCol", spec := "fnExactReadCol", apart := false }
def FnExactReadColSaid : Prop := fnExactReadColRow.holds Try.pinned (OpenSpec.ofChange fnExactReadColSpec)

/-- ITS FALSE NEIGHBOUR: 'it returns false'. Refute it at one input. -/
def fnExactReadColWrong : ChangeSpec := { name := "fnExactReadCol", fn := fun _ => fun
  | [d] => { results := [.lit (.bool false)], args := [d] }
  | _ => none }
def FnExactReadColWrongFalsely : Prop := fnExactReadColRow.holds Try.pinned (OpenSpec.ofChange fnExactReadColWrong)

/-- 'laws.FnExactCommon': WHATEVER THE INPUT: true; the input reads as it did. -/
def fnExactCommonSpec : ChangeSpec := { name := "fnExactCommon", fn := fun _ => fun
  | [d1, d2] => { results := [.lit (.bool true)], args := [d1, d2] }
  | _ => none }
def fnExactCommonRow : OpenClaim := { program := "ytoodcplobkflfaa", sum := "fe03aedcbf176c8b1d5b3dbb8ccb681b34f5b0ed6a3f05c65ddbc98c05fd1e0f", func := "loop.example/g00267/laws.FnExactCommon", spec := "fnExactCommon", apart := false }
def FnExactCommonSaid : Prop := fnExactCommonRow.holds Try.pinned (OpenSpec.ofChange fnExactCommonSpec)

/-- ITS FALSE NEIGHBOUR: 'it returns false'. Refute it at one input. -/
def fnExactCommonWrong : ChangeSpec := { name := "fnExactCommon", fn := fun _ => fun
  | [d1, d2] => { results := [.lit (.bool false)], args := [d1, d2] }
  | _ => none }
def FnExactCommonWrongFalsely : Prop := fnExactCommonRow.holds Try.pinned (OpenSpec.ofChange fnExactCommonWrong)

/-- 'laws.FnExactValueOk': WHATEVER THE INPUT: true; the input reads as it did. -/
def fnExactValueOkSpec : ChangeSpec := { name := "fnExactValueOk", fn := fun _ => fun
  | [d] => { results := [.lit (.bool true)], args := [d] }
  | _ => none }
def fnExactValueOkRow : OpenClaim := { program := "ytoodcplobkflfaa", sum := "fe03aedcbf176c8b1d5b3dbb8ccb681b34f5b0ed6a3f05c65ddbc98c05fd1e0f", func := "loop.example/g00267/laws.FnExactValueOk", spec := "fnExactValueOk", apart := false }
def FnExactValueOkSaid : Prop := fnExactValueOkRow.holds Try.pinned (OpenSpec.ofChange fnExactValueOkSpec)

/-- ITS FALSE NEIGHBOUR: 'it returns false'. Refute it at one input. -/
def fnExactValueOkWrong : ChangeSpec := { name := "fnExactValueOk", fn := fun _ => fun
  | [d] => { results := [.lit (.bool false)], args := [d] }
  | _ => none }
def FnExactValueOkWrongFalsely : Prop := fnExactValueOkRow.holds Try.pinned (OpenSpec.ofChange fnExactValueOkWrong)

/-- 'laws.FnExactOrder': WHATEVER THE INPUT: true; the input reads as it did. -/
def fnExactOrderSpec : ChangeSpec := { name := "fnExactOrder", fn := fun _ => fun
  | [d1, d2] => { results := [.lit (.bool true)], args := [d1, d2] }
  | _ => none }
def fnExactOrderRow : OpenClaim := { program := "ytoodcplobkflfaa", sum := "fe03aedcbf176c8b1d5b3dbb8ccb681b34f5b0ed6a3f05c65ddbc98c05fd1e0f", func := "loop.example/g00267/laws.FnExactOrder", spec := "fnExactOrder", apart := false }
def FnExactOrderSaid : Prop := fnExactOrderRow.holds Try.pinned (OpenSpec.ofChange fnExactOrderSpec)

/-- ITS FALSE NEIGHBOUR: 'it returns false'. Refute it at one input. -/
def fnExactOrderWrong : ChangeSpec := { name := "fnExactOrder", fn := fun _ => fun
  | [d1, d2] => { results := [.lit (.bool false)], args := [d1, d2] }
  | _ => none }
def FnExactOrderWrongFalsely : Prop := fnExactOrderRow.holds Try.pinned (OpenSpec.ofChange fnExactOrderWrong)

/-- 'laws.FnExactCellsOf': WHATEVER THE INPUT: true; the input reads as it did. -/
def fnExactCellsOfSpec : ChangeSpec := { name := "fnExactCellsOf", fn := fun _ => fun
  | [d] => { results := [.lit (.bool true)], args := [d] }
  | _ => none }
def fnExactCellsOfRow : OpenClaim := { program := "ytoodcplobkflfaa", sum := "fe03aedcbf176c8b1d5b3dbb8ccb681b34f5b0ed6a3f05c65ddbc98c05fd1e0f", func := "loop.example/g00267/laws.FnExactCellsOf", spec := "fnExactCellsOf", apart := false }
def FnExactCellsOfSaid : Prop := fnExactCellsOfRow.holds Try.pinned (OpenSpec.ofChange fnExactCellsOfSpec)

/-- ITS FALSE NEIGHBOUR: 'it returns false'. Refute it at one input. -/
def fnExactCellsOfWrong : ChangeSpec := { name := "fnExactCellsOf", fn := fun _ => fun
  | [d] => { results := [.lit (.bool false)], args := [d] }
  | _ => none }
def FnExactCellsOfWrongFalsely : Prop := fnExactCellsOfRow.holds Try.pinned (OpenSpec.ofChange fnExactCellsOfWrong)

/-- 'laws.FnExactTurned': WHATEVER THE INPUT: true; the input reads as it did. -/
def fnExactTurnedSpec : ChangeSpec := { name := "fnExactTurned", fn := fun _ => fun
  | [d] => { results := [.lit (.bool true)], args := [d] }
  | _ => none }
def fnExactTurnedRow : OpenClaim := { program := "ytoodcplobkflfaa", sum := "fe03aedcbf176c8b1d5b3dbb8ccb681b34f5b0ed6a3f05c65ddbc98c05fd1e0f", func := "loop.example/g00267/laws.FnExactTurned", spec := "fnExactTurned", apart := false }
def FnExactTurnedSaid : Prop := fnExactTurnedRow.holds Try.pinned (OpenSpec.ofChange fnExactTurnedSpec)

/-- ITS FALSE NEIGHBOUR: 'it returns false'. Refute it at one input. -/
def fnExactTurnedWrong : ChangeSpec := { name := "fnExactTurned", fn := fun _ => fun
  | [d] => { results := [.lit (.bool false)], args := [d] }
  | _ => none }
def FnExactTurnedWrongFalsely : Prop := fnExactTurnedRow.holds Try.pinned (OpenSpec.ofChange fnExactTurnedWrong)

/-- 'laws.FnExactNegated': WHATEVER THE INPUT: true; the input reads as it did. -/
def fnExactNegatedSpec : ChangeSpec := { name := "fnExactNegated", fn := fun _ => fun
  | [d] => { results := [.lit (.bool true)], args := [d] }
  | _ => none }
def fnExactNegatedRow : OpenClaim := { program := "ytoodcplobkflfaa", sum := "fe03aedcbf176c8b1d5b3dbb8ccb681b34f5b0ed6a3f05c65ddbc98c05fd1e0f", func := "loop.example/g00267/laws.FnExactNegated", spec := "fnExactNegated", unfollowed := true, recurses := true, apart := false }
def FnExactNegatedSaid : Prop := fnExactNegatedRow.holds Try.pinned (OpenSpec.ofChange fnExactNegatedSpec)

/-- ITS FALSE NEIGHBOUR: 'it returns false'. Refute it at one input. -/
def fnExactNegatedWrong : ChangeSpec := { name := "fnExactNegated", fn := fun _ => fun
  | [d] => { results := [.lit (.bool false)], args := [d] }
  | _ => none }
def FnExactNegatedWrongFalsely : Prop := fnExactNegatedRow.holds Try.pinned (OpenSpec.ofChange fnExactNegatedWrong)

/-- 'laws.FnExactAdd': WHATEVER THE INPUT: true; the input reads as it did. -/
def fnExactAddSpec : ChangeSpec := { name := "fnExactAdd", fn := fun _ => fun
  | [d1, d2] => { results := [.lit (.bool true)], args := [d1, d2] }
  | _ => none }
def fnExactAddRow : OpenClaim := { program := "ytoodcplobkflfaa", sum := "fe03aedcbf176c8b1d5b3dbb8ccb681b34f5b0ed6a3f05c65ddbc98c05fd1e0f", func := "loop.example/g00267/laws.FnExactAdd", spec := "fnExactAdd", unfollowed := true, recurses := true, apart := false }
def FnExactAddSaid : Prop := fnExactAddRow.holds Try.pinned (OpenSpec.ofChange fnExactAddSpec)

/-- ITS FALSE NEIGHBOUR: 'it returns false'. Refute it at one input. -/
def fnExactAddWrong : ChangeSpec := { name := "fnExactAdd", fn := fun _ => fun
  | [d1, d2] => { results := [.lit (.bool false)], args := [d1, d2] }
  | _ => none }
def FnExactAddWrongFalsely : Prop := fnExactAddRow.holds Try.pinned (OpenSpec.ofChange fnExactAddWrong)

/- THE SECOND FORM. 'bulk': how many values and letters a reading holds, each counted each time it is reached (what is shared counts as often as it is met; a slice's spare places count too). A statement '..UptoSaid' is the law's where the arguments, and the package variables that the reading takes, are together of bulk at most 1048576: NARROWER than '..Said'. Prove '..Said' where nothing that the law and all that it calls make is longer than what came in: it says more and counts as full. Else prove '..UptoSaid'. A law counts once. -/
mutual
def uptoBulk {H : Type} : DataW H → Nat
  | .lit (.string bytes) => bytes.length + 1
  | .lit _ => 1
  | .nil => 1
  | .ptr d => uptoBulk d + 1
  | .slice elems spare => uptoBulkAll elems + uptoBulkAll spare + 1
  | .agg parts => uptoBulkAll parts + 1
  | .iface _ d => uptoBulk d + 1
  | .map entries => uptoBulkEntries entries + 1
  | .held _ => 1
def uptoBulkAll {H : Type} : List (DataW H) → Nat
  | [] => 0
  | d :: r => uptoBulk d + uptoBulkAll r
def uptoBulkEntries {H : Type} : List (Lit × DataW H) → Nat
  | [] => 0
  | x :: r => uptoBulkEntry x + uptoBulkEntries r
def uptoBulkEntry {H : Type} : Lit × DataW H → Nat
  | (.string bytes, d) => bytes.length + uptoBulk d + 1
  | (_, d) => uptoBulk d + 1
 end
def uptoSmall : (H : Type) → List (DataW H) → Bool := fun _ ds => decide (uptoBulkAll ds ≤ 1048576)
def OpenSpec.upto (s : _root_.Go.ChangeSpec) : _root_.Go.OpenSpec := { _root_.Go.OpenSpec.ofChange s with cond := some uptoSmall }

/-- 'laws.FnExactConstants', WHERE WHAT IT READS IS OF BULK AT MOST 1048576: true; the input reads as it did. -/
def fnExactConstantsUptoRow : OpenClaim := { program := "ytoodcplobkflfaa", sum := "fe03aedcbf176c8b1d5b3dbb8ccb681b34f5b0ed6a3f05c65ddbc98c05fd1e0f", func := "loop.example/g00267/laws.FnExactConstants", spec := "fnExactConstants", apart := false, narrowed := true }
def FnExactConstantsUptoSaid : Prop := fnExactConstantsUptoRow.holds Try.pinned (OpenSpec.upto fnExactConstantsSpec)

/-- 'laws.FnExactRefOk', WHERE WHAT IT READS IS OF BULK AT MOST 1048576: true; the input reads as it did. -/
def fnExactRefOkUptoRow : OpenClaim := { program := "ytoodcplobkflfaa", sum := "fe03aedcbf176c8b1d5b3dbb8ccb681b34f5b0ed6a3f05c65ddbc98c05fd1e0f", func := "loop.example/g00267/laws.FnExactRefOk", spec := "fnExactRefOk", apart := false, narrowed := true }
def FnExactRefOkUptoSaid : Prop := fnExactRefOkUptoRow.holds Try.pinned (OpenSpec.upto fnExactRefOkSpec)

/-- 'laws.FnExactColText', WHERE WHAT IT READS IS OF BULK AT MOST 1048576: true; the input reads as it did. -/
def fnExactColTextUptoRow : OpenClaim := { program := "ytoodcplobkflfaa", sum := "fe03aedcbf176c8b1d5b3dbb8ccb681b34f5b0ed6a3f05c65ddbc98c05fd1e0f", func := "loop.example/g00267/laws.FnExactColText", spec := "fnExactColText", apart := false, narrowed := true }
def FnExactColTextUptoSaid : Prop := fnExactColTextUptoRow.holds Try.pinned (OpenSpec.upto fnExactColTextSpec)

/-- 'laws.FnExactAreaOk', WHERE WHAT IT READS IS OF BULK AT MOST 1048576: true; the input reads as it did. -/
def fnExactAreaOkUptoRow : OpenClaim := { program := "ytoodcplobkflfaa", sum := "fe03aedcbf176c8b1d5b3dbb8ccb681b34f5b0ed6a3f05c65ddbc98c05fd1e0f", func := "loop.example/g00267/laws.FnExactAreaOk", spec := "fnExactAreaOk", apart := false, narrowed := true }
def FnExactAreaOkUptoSaid : Prop := fnExactAreaOkUptoRow.holds Try.pinned (OpenSpec.upto fnExactAreaOkSpec)

/-- 'laws.FnExactReadCol', WHERE WHAT IT READS IS OF BULK AT MOST 1048576: true; the input reads as it did. -/
def fnExactReadColUptoRow : OpenClaim := { program := "ytoodcplobkflfaa", sum := "fe03aedcbf176c8b1d5b3dbb8ccb681b34f5b0ed6a3f05c65ddbc98c05fd1e0f", func := "loop.example/g00267/laws.FnExactReadCol", spec := "fnExactReadCol", apart := false, narrowed := true }
def FnExactReadColUptoSaid : Prop := fnExactReadColUptoRow.holds Try.pinned (OpenSpec.upto fnExactReadColSpec)

/-- 'laws.FnExactCommon', WHERE WHAT IT READS IS OF BULK AT MOST 1048576: true; the input reads as it did. -/
def fnExactCommonUptoRow : OpenClaim := { program := "ytoodcplobkflfaa", sum := "fe03aedcbf176c8b1d5b3dbb8ccb681b34f5b0ed6a3f05c65ddbc98c05fd1e0f", func := "loop.example/g00267/laws.FnExactCommon", spec := "fnExactCommon", apart := false, narrowed := true }
def FnExactCommonUptoSaid : Prop := fnExactCommonUptoRow.holds Try.pinned (OpenSpec.upto fnExactCommonSpec)

/-- 'laws.FnExactValueOk', WHERE WHAT IT READS IS OF BULK AT MOST 1048576: true; the input reads as it did. -/
def fnExactValueOkUptoRow : OpenClaim := { program := "ytoodcplobkflfaa", sum := "fe03aedcbf176c8b1d5b3dbb8ccb681b34f5b0ed6a3f05c65ddbc98c05fd1e0f", func := "loop.example/g00267/laws.FnExactValueOk", spec := "fnExactValueOk", apart := false, narrowed := true }
def FnExactValueOkUptoSaid : Prop := fnExactValueOkUptoRow.holds Try.pinned (OpenSpec.upto fnExactValueOkSpec)

/-- 'laws.FnExactOrder', WHERE WHAT IT READS IS OF BULK AT MOST 1048576: true; the input reads as it did. -/
def fnExactOrderUptoRow : OpenClaim := { program := "ytoodcplobkflfaa", sum := "fe03aedcbf176c8b1d5b3dbb8ccb681b34f5b0ed6a3f05c65ddbc98c05fd1e0f", func := "loop.example/g00267/laws.FnExactOrder", spec := "fnExactOrder", apart := false, narrowed := true }
def FnExactOrderUptoSaid : Prop := fnExactOrderUptoRow.holds Try.pinned (OpenSpec.upto fnExactOrderSpec)

/-- 'laws.FnExactCellsOf', WHERE WHAT IT READS IS OF BULK AT MOST 1048576: true; the input reads as it did. -/
def fnExactCellsOfUptoRow : OpenClaim := { program := "ytoodcplobkflfaa", sum := "fe03aedcbf176c8b1d5b3dbb8ccb681b34f5b0ed6a3f05c65ddbc98c05fd1e0f", func := "loop.example/g00267/laws.FnExactCellsOf", spec := "fnExactCellsOf", apart := false, narrowed := true }
def FnExactCellsOfUptoSaid : Prop := fnExactCellsOfUptoRow.holds Try.pinned (OpenSpec.upto fnExactCellsOfSpec)

/-- 'laws.FnExactTurned', WHERE WHAT IT READS IS OF BULK AT MOST 1048576: true; the input reads as it did. -/
def fnExactTurnedUptoRow : OpenClaim := { program := "ytoodcplobkflfaa", sum := "fe03aedcbf176c8b1d5b3dbb8ccb681b34f5b0ed6a3f05c65ddbc98c05fd1e0f", func := "loop.example/g00267/laws.FnExactTurned", spec := "fnExactTurned", apart := false, narrowed := true }
def FnExactTurnedUptoSaid : Prop := fnExactTurnedUptoRow.holds Try.pinned (OpenSpec.upto fnExactTurnedSpec)

/-- 'laws.FnExactNegated', WHERE WHAT IT READS IS OF BULK AT MOST 1048576: true; the input reads as it did. -/
def fnExactNegatedUptoRow : OpenClaim := { program := "ytoodcplobkflfaa", sum := "fe03aedcbf176c8b1d5b3dbb8ccb681b34f5b0ed6a3f05c65ddbc98c05fd1e0f", func := "loop.example/g00267/laws.FnExactNegated", spec := "fnExactNegated", unfollowed := true, recurses := true, apart := false, narrowed := true }
def FnExactNegatedUptoSaid : Prop := fnExactNegatedUptoRow.holds Try.pinned (OpenSpec.upto fnExactNegatedSpec)

/-- 'laws.FnExactAdd', WHERE WHAT IT READS IS OF BULK AT MOST 1048576: true; the input reads as it did. -/
def fnExactAddUptoRow : OpenClaim := { program := "ytoodcplobkflfaa", sum := "fe03aedcbf176c8b1d5b3dbb8ccb681b34f5b0ed6a3f05c65ddbc98c05fd1e0f", func := "loop.example/g00267/laws.FnExactAdd", spec := "fnExactAdd", unfollowed := true, recurses := true, apart := false, narrowed := true }
def FnExactAddUptoSaid : Prop := fnExactAddUptoRow.holds Try.pinned (OpenSpec.upto fnExactAddSpec)

end Rows
end Go.Proofs.Ytoodcplobkflfaa
