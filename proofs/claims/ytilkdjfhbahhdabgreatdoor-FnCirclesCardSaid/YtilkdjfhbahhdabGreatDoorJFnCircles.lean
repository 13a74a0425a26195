import Derived.Test.YtilkdjfhbahhdabGreatDoorRows
import Derived.Test.YtilkdjfhbahhdabGreatDoorE34
import Derived.Test.YtilkdjfhbahhdabGreatDoorChecked
import Derived.KernelRfl
import Derived.SevenTiedAt
namespace Go.Proofs.YtilkdjfhbahhdabGreatDoor.fnCircles
set_option maxRecDepth 100000 in
theorem j1:(Rows.fnCirclesRow.inPlace==Tryz.prog.inPlace 4)=true:=by kernel_rfl
set_option maxRecDepth 100000 in
theorem j2:(Rows.fnCirclesRow.unfollowed==Tryz.prog.unfollowed 4)=true:=by kernel_rfl
set_option maxRecDepth 100000 in
theorem j3:(Rows.fnCirclesRow.recurses==Tryz.prog.recurses 4)=true:=by kernel_rfl
set_option maxRecDepth 100000 in
theorem j4:(Rows.fnCirclesRow.named==Tryz.prog.varsNamed 4)=true:=by kernel_rfl
set_option maxRecDepth 100000 in
theorem j5:(Rows.fnCirclesRow.lifted==Tryz.prog.liftsFinal)=true:=by kernel_rfl
set_option maxRecDepth 100000 in
theorem j6:Tryz.prog.mayEnter=true:=by kernel_rfl
set_option maxRecDepth 100000 in
theorem j7:Tryz.prog.stopsHeard=true:=by kernel_rfl
set_option maxRecDepth 100000 in
theorem j8:Go.Eng.restFacts Tryz.prog Tryz.f4 Rows.fnCirclesSpec Rows.fnCirclesRow=true:=by kernel_rfl
set_option maxRecDepth 100000 in
theorem j9 : Tryz.prog.mainIs = some (true, "0bd31c01d72fae6eefa21446219ddcf359e6725a9ff2d93fa1c66bcd777c0a1e".toList) := by kernel_rfl
set_option maxRecDepth 100000 in
theorem j10:true=Tryz.prog.looks []:=by kernel_rfl
set_option maxRecDepth 100000 in
theorem j11:false=Rows.fnCirclesRow.goesBy Tryz.prog:=by kernel_rfl
end Go.Proofs.YtilkdjfhbahhdabGreatDoor.fnCircles

