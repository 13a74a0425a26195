/-
  The readings that the row of FnExactCellsOf lays open, kind by kind. No condition.
-/
import Derived.Test.YtoodcplobkflfaaPFnExactCellsOfx2
import Derived.Test.YtoodcplobkflfaaRowLib
set_option linter.unusedVariables false
set_option linter.unusedSimpArgs false
namespace Go.Proofs.Ytoodcplobkflfaa.OpenFnExactCellsOf
open Go.RowKit Go.Proofs.YtoodcplobkflfaaW.PrintWords Go.Proofs.YtoodcplobkflfaaW.PrintLast Go.Proofs.Ytoodcplobkflfaa.PFnExactCellsOf Go.Proofs.Ytoodcplobkflfaa.RowLib
set_option linter.unusedVariables false

theorem p24 : Opens Try.prog 24 (Kd.iso (Kd.pair (Kd.int .i64) (Kd.int .i64)) (id : (Int × Int) → (Int × Int))) (fun y : (Int × Int) => ((Lit.int .i64 y.1).wf = true) ∧ ((Lit.int .i64 y.2).wf = true)) := opens_struct id id (fun _ => rfl) Try.underlying24 (by kernel_rfl) (opensF_cons rfl (by kernel_rfl) (opens_int Try.underlying2) (opensF_one rfl (by kernel_rfl) (opens_int Try.underlying2)))
theorem p32 : Opens Try.prog 32 (Kd.iso (Kd.pair (Kd.iso (Kd.pair (Kd.int .i64) (Kd.int .i64)) (id : (Int × Int) → (Int × Int))) (Kd.iso (Kd.pair (Kd.int .i64) (Kd.int .i64)) (id : (Int × Int) → (Int × Int)))) (id : ((Int × Int) × (Int × Int)) → ((Int × Int) × (Int × Int)))) (fun y : ((Int × Int) × (Int × Int)) => (((Lit.int .i64 y.1.1).wf = true) ∧ ((Lit.int .i64 y.1.2).wf = true)) ∧ (((Lit.int .i64 y.2.1).wf = true) ∧ ((Lit.int .i64 y.2.2).wf = true))) := opens_struct id id (fun _ => rfl) Try.underlying32 (by kernel_rfl) (opensF_cons rfl (by kernel_rfl) p24 (opensF_one rfl (by kernel_rfl) p24))

end Go.Proofs.Ytoodcplobkflfaa.OpenFnExactCellsOf
