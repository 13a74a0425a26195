import Derived.Test.YtilkdjfhbahhdaaRows
import Derived.Test.YtilkdjfhbahhdaaE34
import Derived.Test.YtilkdjfhbahhdaaChecked
import Derived.KernelRfl
namespace Go.Proofs.Ytilkdjfhbahhdaa.fnExactMovedBy
set_option maxRecDepth 100000 in
theorem j1:(Rows.fnExactMovedByRow.inPlace==Try.prog.inPlace 4)=true:=by kernel_rfl
set_option maxRecDepth 100000 in
theorem j2:(Rows.fnExactMovedByRow.unfollowed==Try.prog.unfollowed 4)=true:=by kernel_rfl
set_option maxRecDepth 100000 in
theorem j3:(Rows.fnExactMovedByRow.recurses==Try.prog.recurses 4)=true:=by kernel_rfl
set_option maxRecDepth 100000 in
theorem j4:(Rows.fnExactMovedByRow.named==Try.prog.varsNamed 4)=true:=by kernel_rfl
set_option maxRecDepth 100000 in
theorem j5:(Rows.fnExactMovedByRow.lifted==Try.prog.liftsFinal)=true:=by kernel_rfl
set_option maxRecDepth 100000 in
theorem j6:Try.prog.mayEnter=true:=by kernel_rfl
set_option maxRecDepth 100000 in
theorem j7:Try.prog.stopsHeard=true:=by kernel_rfl
set_option maxRecDepth 100000 in
theorem j8:Go.Eng.restFacts Try.prog Try.f4 Rows.fnExactMovedBySpec Rows.fnExactMovedByRow=true:=by kernel_rfl
end Go.Proofs.Ytilkdjfhbahhdaa.fnExactMovedBy

