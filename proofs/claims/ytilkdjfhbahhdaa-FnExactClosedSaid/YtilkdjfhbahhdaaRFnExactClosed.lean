import Derived.Test.YtilkdjfhbahhdaaLFnExactClosed
import Derived.Test.YtilkdjfhbahhdaaRows
import Derived.Test.YtilkdjfhbahhdaaE34
import Derived.Test.YtilkdjfhbahhdaaE34
import Derived.Test.YtilkdjfhbahhdaaJFnExactClosed
import Derived.WalkKit
import Derived.ProofKit
import Derived.OpenShut
import Derived.ShutString
import Derived.ChangeOld
import Derived.Below
import Derived.SizedLaws
namespace Go.Proofs.Ytilkdjfhbahhdaa.fnExactClosed
open Go.ChangeShapes Go.WideShapes Go.ChangeAt Go.RowKit
set_option linter.unusedVariables false
theorem over:Rows.fnExactClosedRow.holds Try.pinned (OpenSpec.ofChange Rows.fnExactClosedSpec):=
 OpenClaim.holds_of_wide 6 Try.f6 rfl rfl rfl rfl rfl rfl rfl ⟨rfl,rfl,rfl,rfl,rfl⟩ rfl rfl rfl rfl rfl (by kernel_rfl) Try.func6 (Go.Eng.joined_of j1 j2 j3 j4 j5 j6 j7 j8)
  (of_decide_eq_true (by kernel_rfl)) (by unfold Func.isWrapper;first|(rw [if_pos (by decide+kernel)];kernel_rfl)|(rw [if_neg (by decide+kernel)];exact ⟨rfl,rfl⟩))
  (λos started H enc _=>lifted os started H enc)
theorem proved:Rows.FnExactClosedSaid:=over
#print axioms proved
end Go.Proofs.Ytilkdjfhbahhdaa.fnExactClosed
namespace Go.Proofs.Ytilkdjfhbahhdaa
theorem fnExactClosed_holds:Rows.FnExactClosedSaid:=fnExactClosed.proved
end Go.Proofs.Ytilkdjfhbahhdaa

