import Derived.Test.YtaannlnlddbgdabRows
import Derived.Test.YtaannlnlddbgdabE34
import Derived.Test.YtaannlnlddbgdabChecked
import Derived.KernelRfl
namespace Go.Proofs.Ytaannlnlddbgdab.fnExactAreasOf
set_option maxRecDepth 100000 in
theorem j1:(Rows.fnExactAreasOfRow.inPlace==Try.prog.inPlace 8)=true:=by kernel_rfl
set_option maxRecDepth 100000 in
theorem j2:(Rows.fnExactAreasOfRow.unfollowed==Try.prog.unfollowed 8)=true:=by kernel_rfl
set_option maxRecDepth 100000 in
theorem j3:(Rows.fnExactAreasOfRow.recurses==Try.prog.recurses 8)=true:=by kernel_rfl
set_option maxRecDepth 100000 in
theorem j4:(Rows.fnExactAreasOfRow.named==Try.prog.varsNamed 8)=true:=by kernel_rfl
set_option maxRecDepth 100000 in
theorem j5:(Rows.fnExactAreasOfRow.lifted==Try.prog.liftsFinal)=true:=by kernel_rfl
set_option maxRecDepth 100000 in
theorem j6:Try.prog.mayEnter=true:=by kernel_rfl
set_option maxRecDepth 100000 in
theorem j7:Try.prog.stopsHeard=true:=by kernel_rfl
set_option maxRecDepth 100000 in
theorem j8:Go.Eng.restFacts Try.prog Try.f8 Rows.fnExactAreasOfSpec Rows.fnExactAreasOfRow=true:=by kernel_rfl
end Go.Proofs.Ytaannlnlddbgdab.fnExactAreasOf

