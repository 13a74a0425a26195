import Derived.Test.YtilkdjfhbahhdaaGreatDoorRows
import Derived.Test.YtilkdjfhbahhdaaGreatDoorE34
import Derived.Test.YtilkdjfhbahhdaaGreatDoorChecked
import Derived.KernelRfl
import Derived.SevenTiedAt
namespace Go.Proofs.YtilkdjfhbahhdaaGreatDoor.fnExactReadMacro
set_option maxRecDepth 100000 in
theorem j1:(Rows.fnExactReadMacroRow.inPlace==Tryz.prog.inPlace 4)=true:=by kernel_rfl
set_option maxRecDepth 100000 in
theorem j2:(Rows.fnExactReadMacroRow.unfollowed==Tryz.prog.unfollowed 4)=true:=by kernel_rfl
set_option maxRecDepth 100000 in
theorem j3:(Rows.fnExactReadMacroRow.recurses==Tryz.prog.recurses 4)=true:=by kernel_rfl
set_option maxRecDepth 100000 in
theorem j4:(Rows.fnExactReadMacroRow.named==Tryz.prog.varsNamed 4)=true:=by kernel_rfl
set_option maxRecDepth 100000 in
theorem j5:(Rows.fnExactReadMacroRow.lifted==Tryz.prog.liftsFinal)=true:=by kernel_rfl
set_option maxRecDepth 100000 in
theorem j6:Tryz.prog.mayEnter=true:=by kernel_rfl
set_option maxRecDepth 100000 in
theorem j7:Tryz.prog.stopsHeard=true:=by kernel_rfl
set_option maxRecDepth 100000 in
theorem j8:Go.Eng.restFacts Tryz.prog Tryz.f4 Rows.fnExactReadMacroSpec Rows.fnExactReadMacroRow=true:=by kernel_rfl
set_option maxRecDepth 100000 in
theorem j9 : Tryz.prog.mainIs = some (true, "09ab82b818a8088c7d98e63730144c4968aaf167d6750c73fb9645dc84fd252c".toList) := by kernel_rfl
set_option maxRecDepth 100000 in
theorem j10:true=Tryz.prog.looks []:=by kernel_rfl
set_option maxRecDepth 100000 in
theorem j11:false=Rows.fnExactReadMacroRow.goesBy Tryz.prog:=by kernel_rfl
end Go.Proofs.YtilkdjfhbahhdaaGreatDoor.fnExactReadMacro

