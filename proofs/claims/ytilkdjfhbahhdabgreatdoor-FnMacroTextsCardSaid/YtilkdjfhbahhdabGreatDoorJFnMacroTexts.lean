import Derived.Test.YtilkdjfhbahhdabGreatDoorRows
import Derived.Test.YtilkdjfhbahhdabGreatDoorE35
import Derived.Test.YtilkdjfhbahhdabGreatDoorChecked
import Derived.KernelRfl
import Derived.SevenTiedAt
namespace Go.Proofs.YtilkdjfhbahhdabGreatDoor.fnMacroTexts
set_option maxRecDepth 100000 in
theorem j1:(Rows.fnMacroTextsRow.inPlace==Tryz.prog.inPlace 3)=true:=by kernel_rfl
set_option maxRecDepth 100000 in
theorem j2:(Rows.fnMacroTextsRow.unfollowed==Tryz.prog.unfollowed 3)=true:=by kernel_rfl
set_option maxRecDepth 100000 in
theorem j3:(Rows.fnMacroTextsRow.recurses==Tryz.prog.recurses 3)=true:=by kernel_rfl
set_option maxRecDepth 100000 in
theorem j4:(Rows.fnMacroTextsRow.named==Tryz.prog.varsNamed 3)=true:=by kernel_rfl
set_option maxRecDepth 100000 in
theorem j5:(Rows.fnMacroTextsRow.lifted==Tryz.prog.liftsFinal)=true:=by kernel_rfl
set_option maxRecDepth 100000 in
theorem j6:Tryz.prog.mayEnter=true:=by kernel_rfl
set_option maxRecDepth 100000 in
theorem j7:Tryz.prog.stopsHeard=true:=by kernel_rfl
set_option maxRecDepth 100000 in
theorem j8:Go.Eng.restFacts Tryz.prog Tryz.f3 Rows.fnMacroTextsSpec Rows.fnMacroTextsRow=true:=by kernel_rfl
set_option maxRecDepth 100000 in
theorem j9 : Tryz.prog.mainIs = some (true, "0bd31c01d72fae6eefa21446219ddcf359e6725a9ff2d93fa1c66bcd777c0a1e".toList) := by kernel_rfl
set_option maxRecDepth 100000 in
theorem j10:true=Tryz.prog.looks []:=by kernel_rfl
set_option maxRecDepth 100000 in
theorem j11:false=Rows.fnMacroTextsRow.goesBy Tryz.prog:=by kernel_rfl
end Go.Proofs.YtilkdjfhbahhdabGreatDoor.fnMacroTexts

