import Derived.Test.YthhngmnbcmkhpaaRows
import Derived.Test.YthhngmnbcmkhpaaE34
import Derived.Test.YthhngmnbcmkhpaaChecked
import Derived.KernelRfl
namespace Go.Proofs.Ythhngmnbcmkhpaa.fnMovedBack
set_option maxRecDepth 100000 in
theorem j1:(Rows.fnMovedBackRow.inPlace==Try.prog.inPlace 3)=true:=by kernel_rfl
set_option maxRecDepth 100000 in
theorem j2:(Rows.fnMovedBackRow.unfollowed==Try.prog.unfollowed 3)=true:=by kernel_rfl
set_option maxRecDepth 100000 in
theorem j3:(Rows.fnMovedBackRow.recurses==Try.prog.recurses 3)=true:=by kernel_rfl
set_option maxRecDepth 100000 in
theorem j4:(Rows.fnMovedBackRow.named==Try.prog.varsNamed 3)=true:=by kernel_rfl
set_option maxRecDepth 100000 in
theorem j5:(Rows.fnMovedBackRow.lifted==Try.prog.liftsFinal)=true:=by kernel_rfl
set_option maxRecDepth 100000 in
theorem j6:Try.prog.mayEnter=true:=by kernel_rfl
set_option maxRecDepth 100000 in
theorem j7:Try.prog.stopsHeard=true:=by kernel_rfl
set_option maxRecDepth 100000 in
theorem j8:Go.Eng.restFacts Try.prog Try.f3 Rows.fnMovedBackSpec Rows.fnMovedBackRow=true:=by kernel_rfl
end Go.Proofs.Ythhngmnbcmkhpaa.fnMovedBack

