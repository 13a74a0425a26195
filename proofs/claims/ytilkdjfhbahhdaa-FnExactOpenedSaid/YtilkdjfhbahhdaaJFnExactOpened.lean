import Derived.Test.YtilkdjfhbahhdaaRows
import Derived.Test.YtilkdjfhbahhdaaE34
import Derived.Test.YtilkdjfhbahhdaaChecked
import Derived.KernelRfl
namespace Go.Proofs.Ytilkdjfhbahhdaa.fnExactOpened
set_option maxRecDepth 100000 in
theorem j1:(Rows.fnExactOpenedRow.inPlace==Try.prog.inPlace 5)=true:=by kernel_rfl
set_option maxRecDepth 100000 in
theorem j2:(Rows.fnExactOpenedRow.unfollowed==Try.prog.unfollowed 5)=true:=by kernel_rfl
set_option maxRecDepth 100000 in
theorem j3:(Rows.fnExactOpenedRow.recurses==Try.prog.recurses 5)=true:=by kernel_rfl
set_option maxRecDepth 100000 in
theorem j4:(Rows.fnExactOpenedRow.named==Try.prog.varsNamed 5)=true:=by kernel_rfl
set_option maxRecDepth 100000 in
theorem j5:(Rows.fnExactOpenedRow.lifted==Try.prog.liftsFinal)=true:=by kernel_rfl
set_option maxRecDepth 100000 in
theorem j6:Try.prog.mayEnter=true:=by kernel_rfl
set_option maxRecDepth 100000 in
theorem j7:Try.prog.stopsHeard=true:=by kernel_rfl
set_option maxRecDepth 100000 in
theorem j8:Go.Eng.restFacts Try.prog Try.f5 Rows.fnExactOpenedSpec Rows.fnExactOpenedRow=true:=by kernel_rfl
end Go.Proofs.Ytilkdjfhbahhdaa.fnExactOpened

