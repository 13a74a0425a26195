/-
  The readings that the row of FnExactRefOk lays open, kind by kind. No condition.
-/
import Derived.Test.YtoodcplobkflfaaPFnExactRefOkx1
import Derived.Test.YtoodcplobkflfaaRowLib
set_option linter.unusedVariables false
set_option linter.unusedSimpArgs false
namespace Go.Proofs.Ytoodcplobkflfaa.OpenFnExactRefOk
open Go.RowKit Go.Proofs.YtoodcplobkflfaaW.PrintWords Go.Proofs.YtoodcplobkflfaaW.PrintLast Go.Proofs.Ytoodcplobkflfaa.PFnExactRefOk Go.Proofs.Ytoodcplobkflfaa.RowLib
set_option linter.unusedVariables false

theorem p24 : Opens Try.prog 24 (Kd.iso (Kd.pair (Kd.int .i64) (Kd.int .i64)) (id : (Int × Int) → (Int × Int))) (fun y : (Int × Int) => ((Lit.int .i64 y.1).wf = true) ∧ ((Lit.int .i64 y.2).wf = true)) := opens_struct id id (fun _ => rfl) Try.underlying24 (by kernel_rfl) (opensF_cons rfl (by kernel_rfl) (opens_int Try.underlying2) (opensF_one rfl (by kernel_rfl) (opens_int Try.underlying2)))

end Go.Proofs.Ytoodcplobkflfaa.OpenFnExactRefOk
