import Derived.Test.YtilkdjfhbahhdaaLFnOpenedClosed
import Derived.Test.YtilkdjfhbahhdaaRows
import Derived.Test.YtilkdjfhbahhdaaE32
import Derived.Test.YtilkdjfhbahhdaaE34
import Derived.Test.YtilkdjfhbahhdaaJFnOpenedClosed
import Derived.WalkKit
import Derived.ProofKit
import Derived.OpenShut
import Derived.ShutString
import Derived.ChangeOld
import Derived.Below
import Derived.SizedLaws
namespace Go.Proofs.Ytilkdjfhbahhdaa.fnOpenedClosed
open Go.ChangeShapes Go.WideShapes Go.ChangeAt Go.RowKit
set_option linter.unusedVariables false
theorem over:Rows.fnOpenedClosedRow.holds Try.pinned (OpenSpec.ofChange Rows.fnOpenedClosedSpec):=
 OpenClaim.holds_of_wide 7 Try.f7 rfl rfl rfl rfl rfl rfl rfl ⟨rfl,rfl,rfl,rfl,rfl⟩ rfl rfl rfl rfl rfl (by kernel_rfl) Try.func7 (Go.Eng.joined_of j1 j2 j3 j4 j5 j6 j7 j8)
  (of_decide_eq_true (by kernel_rfl)) (by unfold Func.isWrapper;first|(rw [if_pos (by decide+kernel)];kernel_rfl)|(rw [if_neg (by decide+kernel)];exact ⟨rfl,rfl⟩))
  (λos started H enc _=>lifted os started H enc)
theorem proved:Rows.FnOpenedClosedSaid:=over
#print axioms proved
end Go.Proofs.Ytilkdjfhbahhdaa.fnOpenedClosed
namespace Go.Proofs.Ytilkdjfhbahhdaa
theorem fnOpenedClosed_holds:Rows.FnOpenedClosedSaid:=fnOpenedClosed.proved
end Go.Proofs.Ytilkdjfhbahhdaa

