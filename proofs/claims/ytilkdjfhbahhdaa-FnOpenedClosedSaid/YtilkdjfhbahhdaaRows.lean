/-
  No cell of these rows narrows 'for every input' (looked for: loops, veiled, ifaces, maps, wideKeys, modest, calm, conditions, laid).
  DERIVED. THE GIVEN ROWS OF THIS SEAT. 5 by the template 'for every input the law returns true; each argument reads behind the call as it read before'; 0 by the template 'total and deterministic' (their statements: YtilkdjfhbahhdaaTotals.lean).
  GIVEN WITH THE SEED: the statements are not yours to turn. If you find one false, say at which input.
  Laid BY PROGRAM, IN A SANDBOX (cutbox-rows.mjs): the forced cells as the released guide's own fill.sh prints them over the translation 9defa4f1d3b3d4e6… (all of the seat's roots in one cut). By AI agents, Wed Nov 11 2026. No macro, syntax, notation, axiom, sorry.
-/
import Derived.Test.YtilkdjfhbahhdaaChecked
import GoSem.Claim
import GoSem.ClaimJoined
import GoSem.ClaimMapViews
import Derived.JoinedTies
import Derived.KernelRfl
namespace Go.Proofs.Ytilkdjfhbahhdaa
/- THE CELL 'sum', in the pinned program and in every row, IS THE sha256 OF THE DUMP (.gsa) THAT YtilkdjfhbahhdaaProg.lean LOADS. Nothing in Lean hashes anything: it is a label: what it is worth is what the hold of that sum in a sandbox is worth. -/
noncomputable def Try.pinned : Pinned := { name := "ytilkdjfhbahhdaa", sum := "9defa4f1d3b3d4e6206f376a955cf694500b93f51cfac25289dc5fa150c13172", checked := Try.checked }
namespace Rows
def none {H : Type} : Left H := { results := [], args := [] }

/-- 'laws.FnExactDagNew': WHATEVER THE INPUT: true; the input reads as it did. -/
def fnExactDagNewSpec : ChangeSpec := { name := "fnExactDagNew", fn := fun _ => fun
  | [] => { results := [.lit (.bool true)], args := [] }
  | _ => none }
def fnExactDagNewRow : OpenClaim := { program := "ytilkdjfhbahhdaa", sum := "9defa4f1d3b3d4e6206f376a955cf694500b93f51cfac25289dc5fa150c13172", func := "loop.example/g00267/laws.FnExactDagNew", spec := "fnExactDagNew", apart := false }
def FnExactDagNewSaid : Prop := fnExactDagNewRow.holds Try.pinned (OpenSpec.ofChange fnExactDagNewSpec)

/-- ITS FALSE NEIGHBOUR: 'it returns false'. Refute it at one input. -/
def fnExactDagNewWrong : ChangeSpec := { name := "fnExactDagNew", fn := fun _ => fun
  | [] => { results := [.lit (.bool false)], args := [] }
  | _ => none }
def FnExactDagNewWrongFalsely : Prop := fnExactDagNewRow.holds Try.pinned (OpenSpec.ofChange fnExactDagNewWrong)

/-- 'laws.FnExactMovedBy': WHATEVER THE INPUT: true; the input reads as it did. -/
def fnExactMovedBySpec : ChangeSpec := { name := "fnExactMovedBy", fn := fun _ => fun
  | [d1, d2, d3] => { results := [.lit (.bool true)], args := [d1, d2, d3] }
  | _ => none }
def fnExactMovedByRow : OpenClaim := { program := "ytilkdjfhbahhdaa", sum := "9defa4f1d3b3d4e6206f376a955cf694500b93f51cfac25289dc5fa150c13172", func := "loop.example/g00267/laws.FnExactMovedBy", spec := "fnExactMovedBy", unfollowed := true, recurses := true, apart := false }
def FnExactMovedBySaid : Prop := fnExactMovedByRow.holds Try.pinned (OpenSpec.ofChange fnExactMovedBySpec)

/-- ITS FALSE NEIGHBOUR: 'it returns false'. Refute it at one input. -/
def fnExactMovedByWrong : ChangeSpec := { name := "fnExactMovedBy", fn := fun _ => fun
  | [d1, d2, d3] => { results := [.lit (.bool false)], args := [d1, d2, d3] }
  | _ => none }
def FnExactMovedByWrongFalsely : Prop := fnExactMovedByRow.holds Try.pinned (OpenSpec.ofChange fnExactMovedByWrong)

/-- 'laws.FnExactOpened': WHATEVER THE INPUT: true; the input reads as it did. -/
def fnExactOpenedSpec : ChangeSpec := { name := "fnExactOpened", fn := fun _ => fun
  | [d1, d2, d3] => { results := [.lit (.bool true)], args := [d1, d2, d3] }
  | _ => none }
def fnExactOpenedRow : OpenClaim := { program := "ytilkdjfhbahhdaa", sum := "9defa4f1d3b3d4e6206f376a955cf694500b93f51cfac25289dc5fa150c13172", func := "loop.example/g00267/laws.FnExactOpened", spec := "fnExactOpened", unfollowed := true, recurses := true, apart := false }
def FnExactOpenedSaid : Prop := fnExactOpenedRow.holds Try.pinned (OpenSpec.ofChange fnExactOpenedSpec)

/-- ITS FALSE NEIGHBOUR: 'it returns false'. Refute it at one input. -/
def fnExactOpenedWrong : ChangeSpec := { name := "fnExactOpened", fn := fun _ => fun
  | [d1, d2, d3] => { results := [.lit (.bool false)], args := [d1, d2, d3] }
  | _ => none }
def FnExactOpenedWrongFalsely : Prop := fnExactOpenedRow.holds Try.pinned (OpenSpec.ofChange fnExactOpenedWrong)

/-- 'laws.FnExactClosed': WHATEVER THE INPUT: true; the input reads as it did. -/
def fnExactClosedSpec : ChangeSpec := { name := "fnExactClosed", fn := fun _ => fun
  | [d1, d2, d3] => { results := [.lit (.bool true)], args := [d1, d2, d3] }
  | _ => none }
def fnExactClosedRow : OpenClaim := { program := "ytilkdjfhbahhdaa", sum := "9defa4f1d3b3d4e6206f376a955cf694500b93f51cfac25289dc5fa150c13172", func := "loop.example/g00267/laws.FnExactClosed", spec := "fnExactClosed", unfollowed := true, recurses := true, apart := false }
def FnExactClosedSaid : Prop := fnExactClosedRow.holds Try.pinned (OpenSpec.ofChange fnExactClosedSpec)

/-- ITS FALSE NEIGHBOUR: 'it returns false'. Refute it at one input. -/
def fnExactClosedWrong : ChangeSpec := { name := "fnExactClosed", fn := fun _ => fun
  | [d1, d2, d3] => { results := [.lit (.bool false)], args := [d1, d2, d3] }
  | _ => none }
def FnExactClosedWrongFalsely : Prop := fnExactClosedRow.holds Try.pinned (OpenSpec.ofChange fnExactClosedWrong)

/-- 'laws.FnOpenedClosed': WHATEVER THE INPUT: true; the input reads as it did. -/
def fnOpenedClosedSpec : ChangeSpec := { name := "fnOpenedClosed", fn := fun _ => fun
  | [d] => { results := [.lit (.bool true)], args := [d] }
  | _ => none }
def fnOpenedClosedRow : OpenClaim := { program := "ytilkdjfhbahhdaa", sum := "9defa4f1d3b3d4e6206f376a955cf694500b93f51cfac25289dc5fa150c13172", func := "loop.example/g00267/laws.FnOpenedClosed", spec := "fnOpenedClosed", unfollowed := true, recurses := true, apart := false }
def FnOpenedClosedSaid : Prop := fnOpenedClosedRow.holds Try.pinned (OpenSpec.ofChange fnOpenedClosedSpec)

/-- ITS FALSE NEIGHBOUR: 'it returns false'. Refute it at one input. -/
def fnOpenedClosedWrong : ChangeSpec := { name := "fnOpenedClosed", fn := fun _ => fun
  | [d] => { results := [.lit (.bool false)], args := [d] }
  | _ => none }
def FnOpenedClosedWrongFalsely : Prop := fnOpenedClosedRow.holds Try.pinned (OpenSpec.ofChange fnOpenedClosedWrong)

/- THE SECOND FORM. 'bulk': how many values and letters a reading holds, each counted each time it is reached (what is shared counts as often as it is met; a slice's spare places count too). A statement '..UptoSaid' is the law's where the arguments, and the package variables that the reading takes, are together of bulk at most 1048576: NARROWER than '..Said'. Prove '..Said' where nothing that the law and all that it calls make is longer than what came in: it says more and counts as full. Else prove '..UptoSaid'. A law counts once. -/
mutual
def uptoBulk {H : Type} : DataW H → Nat
  | .lit (.string bytes) => bytes.length + 1
  | .lit _ => 1
  | .nil => 1
  | .ptr d => uptoBulk d + 1
  | .slice elems spare => uptoBulkAll elems + uptoBulkAll spare + 1
  | .agg parts => uptoBulkAll parts + 1
  | .iface _ d => uptoBulk d + 1
  | .map entries => uptoBulkEntries entries + 1
  | .held _ => 1
def uptoBulkAll {H : Type} : List (DataW H) → Nat
  | [] => 0
  | d :: r => uptoBulk d + uptoBulkAll r
def uptoBulkEntries {H : Type} : List (Lit × DataW H) → Nat
  | [] => 0
  | x :: r => uptoBulkEntry x + uptoBulkEntries r
def uptoBulkEntry {H : Type} : Lit × DataW H → Nat
  | (.string bytes, d) => bytes.length + uptoBulk d + 1
  | (_, d) => uptoBulk d + 1
 end
def uptoSmall : (H : Type) → List (DataW H) → Bool := fun _ ds => decide (uptoBulkAll ds ≤ 1048576)
def OpenSpec.upto (s : _root_.Go.ChangeSpec) : _root_.Go.OpenSpec := { _root_.Go.OpenSpec.ofChange s with cond := some uptoSmall }

/-- 'laws.FnExactDagNew', WHERE WHAT IT READS IS OF BULK AT MOST 1048576: true; the input reads as it did. -/
def fnExactDagNewUptoRow : OpenClaim := { program := "ytilkdjfhbahhdaa", sum := "9defa4f1d3b3d4e6206f376a955cf694500b93f51cfac25289dc5fa150c13172", func := "loop.example/g00267/laws.FnExactDagNew", spec := "fnExactDagNew", apart := false, narrowed := true }
def FnExactDagNewUptoSaid : Prop := fnExactDagNewUptoRow.holds Try.pinned (OpenSpec.upto fnExactDagNewSpec)

/-- 'laws.FnExactMovedBy', WHERE WHAT IT READS IS OF BULK AT MOST 1048576: true; the input reads as it did. -/
def fnExactMovedByUptoRow : OpenClaim := { program := "ytilkdjfhbahhdaa", sum := "9defa4f1d3b3d4e6206f376a955cf694500b93f51cfac25289dc5fa150c13172", func := "loop.example/g00267/laws.FnExactMovedBy", spec := "fnExactMovedBy", unfollowed := true, recurses := true, apart := false, narrowed := true }
def FnExactMovedByUptoSaid : Prop := fnExactMovedByUptoRow.holds Try.pinned (OpenSpec.upto fnExactMovedBySpec)

/-- 'laws.FnExactOpened', WHERE WHAT IT READS IS OF BULK AT MOST 1048576: true; the input reads as it did. -/
def fnExactOpenedUptoRow : OpenClaim := { program := "ytilkdjfhbahhdaa", sum := "9defa4f1d3b3d4e6206f376a955cf694500b93f51cfac25289dc5fa150c13172", func := "loop.example/g00267/laws.FnExactOpened", spec := "fnExactOpened", unfollowed := true, recurses := true, apart := false, narrowed := true }
def FnExactOpenedUptoSaid : Prop := fnExactOpenedUptoRow.holds Try.pinned (OpenSpec.upto fnExactOpenedSpec)

/-- 'laws.FnExactClosed', WHERE WHAT IT READS IS OF BULK AT MOST 1048576: true; the input reads as it did. -/
def fnExactClosedUptoRow : OpenClaim := { program := "ytilkdjfhbahhdaa", sum := "9defa4f1d3b3d4e6206f376a955cf694500b93f51cfac25289dc5fa150c13172", func := "loop.example/g00267/laws.FnExactClosed", spec := "fnExactClosed", unfollowed := true, recurses := true, apart := false, narrowed := true }
def FnExactClosedUptoSaid : Prop := fnExactClosedUptoRow.holds Try.pinned (OpenSpec.upto fnExactClosedSpec)

/-- 'laws.FnOpenedClosed', WHERE WHAT IT READS IS OF BULK AT MOST 1048576: true; the input reads as it did. -/
def fnOpenedClosedUptoRow : OpenClaim := { program := "ytilkdjfhbahhdaa", sum := "9defa4f1d3b3d4e6206f376a955cf694500b93f51cfac25289dc5fa150c13172", func := "loop.example/g00267/laws.FnOpenedClosed", spec := "fnOpenedClosed", unfollowed := true, recurses := true, apart := false, narrowed := true }
def FnOpenedClosedUptoSaid : Prop := fnOpenedClosedUptoRow.holds Try.pinned (OpenSpec.upto fnOpenedClosedSpec)

end Rows
end Go.Proofs.Ytilkdjfhbahhdaa
