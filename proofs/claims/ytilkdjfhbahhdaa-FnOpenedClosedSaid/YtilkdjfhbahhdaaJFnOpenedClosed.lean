import Derived.Test.YtilkdjfhbahhdaaRows
import Derived.Test.YtilkdjfhbahhdaaE34
import Derived.Test.YtilkdjfhbahhdaaChecked
import Derived.KernelRfl
namespace Go.Proofs.Ytilkdjfhbahhdaa.fnOpenedClosed
set_option maxRecDepth 100000 in
theorem j1:(Rows.fnOpenedClosedRow.inPlace==Try.prog.inPlace 7)=true:=by kernel_rfl
set_option maxRecDepth 100000 in
theorem j2:(Rows.fnOpenedClosedRow.unfollowed==Try.prog.unfollowed 7)=true:=by kernel_rfl
set_option maxRecDepth 100000 in
theorem j3:(Rows.fnOpenedClosedRow.recurses==Try.prog.recurses 7)=true:=by kernel_rfl
set_option maxRecDepth 100000 in
theorem j4:(Rows.fnOpenedClosedRow.named==Try.prog.varsNamed 7)=true:=by kernel_rfl
set_option maxRecDepth 100000 in
theorem j5:(Rows.fnOpenedClosedRow.lifted==Try.prog.liftsFinal)=true:=by kernel_rfl
set_option maxRecDepth 100000 in
theorem j6:Try.prog.mayEnter=true:=by kernel_rfl
set_option maxRecDepth 100000 in
theorem j7:Try.prog.stopsHeard=true:=by kernel_rfl
set_option maxRecDepth 100000 in
theorem j8:Go.Eng.restFacts Try.prog Try.f7 Rows.fnOpenedClosedSpec Rows.fnOpenedClosedRow=true:=by kernel_rfl
end Go.Proofs.Ytilkdjfhbahhdaa.fnOpenedClosed

