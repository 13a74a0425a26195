import Derived.Test.YtdkoeegcpbaojaaGreatDoorRows
import Derived.Test.YtdkoeegcpbaojaaGreatDoorE34
import Derived.Test.YtdkoeegcpbaojaaGreatDoorChecked
import Derived.KernelRfl
import Derived.SevenTiedAt
namespace Go.Proofs.YtdkoeegcpbaojaaGreatDoor.fnExactDagText
set_option maxRecDepth 100000 in
theorem j1:(Rows.fnExactDagTextRow.inPlace==Tryz.prog.inPlace 6)=true:=by kernel_rfl
set_option maxRecDepth 100000 in
theorem j2:(Rows.fnExactDagTextRow.unfollowed==Tryz.prog.unfollowed 6)=true:=by kernel_rfl
set_option maxRecDepth 100000 in
theorem j3:(Rows.fnExactDagTextRow.recurses==Tryz.prog.recurses 6)=true:=by kernel_rfl
set_option maxRecDepth 100000 in
theorem j4:(Rows.fnExactDagTextRow.named==Tryz.prog.varsNamed 6)=true:=by kernel_rfl
set_option maxRecDepth 100000 in
theorem j5:(Rows.fnExactDagTextRow.lifted==Tryz.prog.liftsFinal)=true:=by kernel_rfl
set_option maxRecDepth 100000 in
theorem j6:Tryz.prog.mayEnter=true:=by kernel_rfl
set_option maxRecDepth 100000 in
theorem j7:Tryz.prog.stopsHeard=true:=by kernel_rfl
set_option maxRecDepth 100000 in
theorem j8:Go.Eng.restFacts Tryz.prog Tryz.f6 Rows.fnExactDagTextSpec Rows.fnExactDagTextRow=true:=by kernel_rfl
set_option maxRecDepth 100000 in
theorem j9 : Tryz.prog.mainIs = some (true, "3989a79ece163c7deda551cd79f324d9d13158e6bef8bea4137f86c9aaff75e8".toList) := by kernel_rfl
set_option maxRecDepth 100000 in
theorem j10:true=Tryz.prog.looks []:=by kernel_rfl
set_option maxRecDepth 100000 in
theorem j11:false=Rows.fnExactDagTextRow.goesBy Tryz.prog:=by kernel_rfl
end Go.Proofs.YtdkoeegcpbaojaaGreatDoor.fnExactDagText

