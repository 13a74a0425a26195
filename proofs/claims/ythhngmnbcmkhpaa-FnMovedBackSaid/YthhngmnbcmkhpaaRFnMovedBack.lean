import Derived.Test.YthhngmnbcmkhpaaLFnMovedBack
import Derived.Test.YthhngmnbcmkhpaaRows
import Derived.Test.YthhngmnbcmkhpaaE32
import Derived.Test.YthhngmnbcmkhpaaE34
import Derived.Test.YthhngmnbcmkhpaaJFnMovedBack
import Derived.WalkKit
import Derived.ProofKit
import Derived.OpenShut
import Derived.ShutString
import Derived.ChangeOld
import Derived.Below
import Derived.SizedLaws
namespace Go.Proofs.Ythhngmnbcmkhpaa.fnMovedBack
open Go.ChangeShapes Go.WideShapes Go.ChangeAt Go.RowKit
set_option linter.unusedVariables false
theorem over:Rows.fnMovedBackRow.holds Try.pinned (OpenSpec.ofChange Rows.fnMovedBackSpec):=
 OpenClaim.holds_of_wide 3 Try.f3 rfl rfl rfl rfl rfl rfl rfl ⟨rfl,rfl,rfl,rfl,rfl⟩ rfl rfl rfl rfl rfl (by kernel_rfl) Try.func3 (Go.Eng.joined_of j1 j2 j3 j4 j5 j6 j7 j8)
  (of_decide_eq_true (by kernel_rfl)) (by unfold Func.isWrapper;first|(rw [if_pos (by decide+kernel)];kernel_rfl)|(rw [if_neg (by decide+kernel)];exact ⟨rfl,rfl⟩))
  (fun os started H enc _=>lifted os started H enc)
theorem proved:Rows.FnMovedBackSaid:=over
#print axioms proved
end Go.Proofs.Ythhngmnbcmkhpaa.fnMovedBack
namespace Go.Proofs.Ythhngmnbcmkhpaa
theorem fnMovedBack_holds:Rows.FnMovedBackSaid:=fnMovedBack.proved
end Go.Proofs.Ythhngmnbcmkhpaa

