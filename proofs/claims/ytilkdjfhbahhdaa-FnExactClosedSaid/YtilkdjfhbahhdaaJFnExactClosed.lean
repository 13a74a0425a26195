import Derived.Test.YtilkdjfhbahhdaaRows
import Derived.Test.YtilkdjfhbahhdaaE34
import Derived.Test.YtilkdjfhbahhdaaChecked
import Derived.KernelRfl
namespace Go.Proofs.Ytilkdjfhbahhdaa.fnExactClosed
set_option maxRecDepth 100000 in
theorem j1:(Rows.fnExactClosedRow.inPlace==Try.prog.inPlace 6)=true:=by kernel_rfl
set_option maxRecDepth 100000 in
theorem j2:(Rows.fnExactClosedRow.unfollowed==Try.prog.unfollowed 6)=true:=by kernel_rfl
set_option maxRecDepth 100000 in
theorem j3:(Rows.fnExactClosedRow.recurses==Try.prog.recurses 6)=true:=by kernel_rfl
set_option maxRecDepth 100000 in
theorem j4:(Rows.fnExactClosedRow.named==Try.prog.varsNamed 6)=true:=by kernel_rfl
set_option maxRecDepth 100000 in
theorem j5:(Rows.fnExactClosedRow.lifted==Try.prog.liftsFinal)=true:=by kernel_rfl
set_option maxRecDepth 100000 in
theorem j6:Try.prog.mayEnter=true:=by kernel_rfl
set_option maxRecDepth 100000 in
theorem j7:Try.prog.stopsHeard=true:=by kernel_rfl
set_option maxRecDepth 100000 in
theorem j8:Go.Eng.restFacts Try.prog Try.f6 Rows.fnExactClosedSpec Rows.fnExactClosedRow=true:=by kernel_rfl
end Go.Proofs.Ytilkdjfhbahhdaa.fnExactClosed

