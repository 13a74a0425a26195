/-
  The readings that the row of FnExactValueOk lays open, kind by kind. No condition.
-/
import Derived.Test.YtoodcplobkflfaaPFnExactValueOkx1
import Derived.Test.YtoodcplobkflfaaRowLib
set_option linter.unusedVariables false
set_option linter.unusedSimpArgs false
namespace Go.Proofs.Ytoodcplobkflfaa.OpenFnExactValueOk
open Go.RowKit Go.Proofs.YtoodcplobkflfaaW.PrintWords Go.Proofs.YtoodcplobkflfaaW.PrintLast Go.Proofs.Ytoodcplobkflfaa.PFnExactValueOk Go.Proofs.Ytoodcplobkflfaa.RowLib
set_option linter.unusedVariables false

theorem p45 : Opens Try.prog 45 (Kd.iso (Kd.pair (Kd.int .i64) (Kd.pair (Kd.int .i64) Kd.string)) (id : (Int × (Int × ByteArray)) → (Int × (Int × ByteArray)))) (fun y : (Int × (Int × ByteArray)) => ((Lit.int .i64 y.1).wf = true) ∧ ((Lit.int .i64 y.2.1).wf = true) ∧ (y.2.2.size ≤ 140737488351232)) := opens_struct id id (fun _ => rfl) Try.underlying45 (by kernel_rfl) (opensF_cons rfl (by kernel_rfl) (opens_int Try.underlying2) (opensF_cons rfl (by kernel_rfl) (opens_int Try.underlying2) (opensF_one rfl (by kernel_rfl) (opens_string Try.underlying9))))

end Go.Proofs.Ytoodcplobkflfaa.OpenFnExactValueOk
