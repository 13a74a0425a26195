import Derived.Test.YtaannlnlddbgdabLFnExactAreasOf
import Derived.Test.YtaannlnlddbgdabRows
import Derived.Test.YtaannlnlddbgdabE32
import Derived.Test.YtaannlnlddbgdabE34
import Derived.Test.YtaannlnlddbgdabJFnExactAreasOf
import Derived.WalkKit
import Derived.ProofKit
import Derived.OpenShut
import Derived.ShutString
import Derived.ChangeOld
import Derived.Below
import Derived.SizedLaws
namespace Go.Proofs.Ytaannlnlddbgdab.fnExactAreasOf
open Go.ChangeShapes Go.WideShapes Go.ChangeAt Go.RowKit
set_option linter.unusedVariables false
theorem over:Rows.fnExactAreasOfRow.holds Try.pinned (OpenSpec.ofChange Rows.fnExactAreasOfSpec):=
 OpenClaim.holds_of_wide 8 Try.f8 rfl rfl rfl rfl rfl rfl rfl ⟨rfl,rfl,rfl,rfl,rfl⟩ rfl rfl rfl rfl rfl (by kernel_rfl) Try.func8 (Go.Eng.joined_of j1 j2 j3 j4 j5 j6 j7 j8)
  (of_decide_eq_true (by kernel_rfl)) (by unfold Func.isWrapper;first|(rw [if_pos (by decide+kernel)];kernel_rfl)|(rw [if_neg (by decide+kernel)];exact ⟨rfl,rfl⟩))
  (fun os started H enc _=>lifted os started H enc)
theorem proved:Rows.FnExactAreasOfSaid:=over
#print axioms proved
end Go.Proofs.Ytaannlnlddbgdab.fnExactAreasOf
namespace Go.Proofs.Ytaannlnlddbgdab
theorem fnExactAreasOf_holds:Rows.FnExactAreasOfSaid:=fnExactAreasOf.proved
end Go.Proofs.Ytaannlnlddbgdab

