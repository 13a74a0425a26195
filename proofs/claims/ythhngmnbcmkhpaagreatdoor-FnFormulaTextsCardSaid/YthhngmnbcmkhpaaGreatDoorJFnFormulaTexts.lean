import Derived.Test.YthhngmnbcmkhpaaGreatDoorRows
import Derived.Test.YthhngmnbcmkhpaaGreatDoorE34
import Derived.Test.YthhngmnbcmkhpaaGreatDoorChecked
import Derived.KernelRfl
import Derived.SevenTiedAt
namespace Go.Proofs.YthhngmnbcmkhpaaGreatDoor.fnFormulaTexts
set_option maxRecDepth 100000 in
theorem j1:(Rows.fnFormulaTextsRow.inPlace==Tryz.prog.inPlace 5)=true:=by kernel_rfl
set_option maxRecDepth 100000 in
theorem j2:(Rows.fnFormulaTextsRow.unfollowed==Tryz.prog.unfollowed 5)=true:=by kernel_rfl
set_option maxRecDepth 100000 in
theorem j3:(Rows.fnFormulaTextsRow.recurses==Tryz.prog.recurses 5)=true:=by kernel_rfl
set_option maxRecDepth 100000 in
theorem j4:(Rows.fnFormulaTextsRow.named==Tryz.prog.varsNamed 5)=true:=by kernel_rfl
set_option maxRecDepth 100000 in
theorem j5:(Rows.fnFormulaTextsRow.lifted==Tryz.prog.liftsFinal)=true:=by kernel_rfl
set_option maxRecDepth 100000 in
theorem j6:Tryz.prog.mayEnter=true:=by kernel_rfl
set_option maxRecDepth 100000 in
theorem j7:Tryz.prog.stopsHeard=true:=by kernel_rfl
set_option maxRecDepth 100000 in
theorem j8:Go.Eng.restFacts Tryz.prog Tryz.f5 Rows.fnFormulaTextsSpec Rows.fnFormulaTextsRow=true:=by kernel_rfl
set_option maxRecDepth 100000 in
theorem j9 : Tryz.prog.mainIs = some (true, "56dc66f1c71abd78c958039848380bf8310ab7f35dc7eb253ce919278551b811".toList) := by kernel_rfl
set_option maxRecDepth 100000 in
theorem j10:true=Tryz.prog.looks []:=by kernel_rfl
set_option maxRecDepth 100000 in
theorem j11:false=Rows.fnFormulaTextsRow.goesBy Tryz.prog:=by kernel_rfl
end Go.Proofs.YthhngmnbcmkhpaaGreatDoor.fnFormulaTexts

