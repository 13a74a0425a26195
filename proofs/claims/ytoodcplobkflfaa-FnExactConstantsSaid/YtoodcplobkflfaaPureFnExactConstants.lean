/-
  FnExactConstants answers true: no condition.
-/
import Derived.Test.YtoodcplobkflfaaPFnExactConstantsx1
set_option linter.unusedVariables false
set_option linter.unusedSimpArgs false
namespace Go.Proofs.Ytoodcplobkflfaa.Pure
open Go.RowKit Go.Proofs.Ytoodcplobkflfaa.PFnExactConstants Go.Proofs.YtoodcplobkflfaaW.PrintWords Go.Proofs.YtoodcplobkflfaaW.PrintLast

theorem FnExactConstants : laws_FnExactConstants.Pure := by
  unfold laws_FnExactConstants.Pure laws_FnExactConstants.f
  rfl

end Go.Proofs.Ytoodcplobkflfaa.Pure
