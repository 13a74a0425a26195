import Derived.Test.YtkkkfjgagjdcoaaGreatDoorRows
import Derived.Test.YtkkkfjgagjdcoaaGreatDoorE34
import Derived.Test.YtkkkfjgagjdcoaaGreatDoorChecked
import Derived.KernelRfl
import Derived.SevenTiedAt
namespace Go.Proofs.YtkkkfjgagjdcoaaGreatDoor.fnExactTouched
set_option maxRecDepth 100000 in
theorem j1:(Rows.fnExactTouchedRow.inPlace==Tryz.prog.inPlace 10)=true:=by kernel_rfl
set_option maxRecDepth 100000 in
theorem j2:(Rows.fnExactTouchedRow.unfollowed==Tryz.prog.unfollowed 10)=true:=by kernel_rfl
set_option maxRecDepth 100000 in
theorem j3:(Rows.fnExactTouchedRow.recurses==Tryz.prog.recurses 10)=true:=by kernel_rfl
set_option maxRecDepth 100000 in
theorem j4:(Rows.fnExactTouchedRow.named==Tryz.prog.varsNamed 10)=true:=by kernel_rfl
set_option maxRecDepth 100000 in
theorem j5:(Rows.fnExactTouchedRow.lifted==Tryz.prog.liftsFinal)=true:=by kernel_rfl
set_option maxRecDepth 100000 in
theorem j6:Tryz.prog.mayEnter=true:=by kernel_rfl
set_option maxRecDepth 100000 in
theorem j7:Tryz.prog.stopsHeard=true:=by kernel_rfl
set_option maxRecDepth 100000 in
theorem j8:Go.Eng.restFacts Tryz.prog Tryz.f10 Rows.fnExactTouchedSpec Rows.fnExactTouchedRow=true:=by kernel_rfl
set_option maxRecDepth 100000 in
theorem j9 : Tryz.prog.mainIs = some (true, "b46c94c1b146a9b9d08bdab76e0cf938fbf8f49c40777ef671f3f18fb4253477".toList) := by kernel_rfl
set_option maxRecDepth 100000 in
theorem j10:true=Tryz.prog.looks []:=by kernel_rfl
set_option maxRecDepth 100000 in
theorem j11:false=Rows.fnExactTouchedRow.goesBy Tryz.prog:=by kernel_rfl
end Go.Proofs.YtkkkfjgagjdcoaaGreatDoor.fnExactTouched

