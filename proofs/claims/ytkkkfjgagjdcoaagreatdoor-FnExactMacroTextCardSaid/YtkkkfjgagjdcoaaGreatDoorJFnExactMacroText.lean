import Derived.Test.YtkkkfjgagjdcoaaGreatDoorRows
import Derived.Test.YtkkkfjgagjdcoaaGreatDoorE34
import Derived.Test.YtkkkfjgagjdcoaaGreatDoorChecked
import Derived.KernelRfl
import Derived.SevenTiedAt
namespace Go.Proofs.YtkkkfjgagjdcoaaGreatDoor.fnExactMacroText
set_option maxRecDepth 100000 in
theorem j1:(Rows.fnExactMacroTextRow.inPlace==Tryz.prog.inPlace 5)=true:=by kernel_rfl
set_option maxRecDepth 100000 in
theorem j2:(Rows.fnExactMacroTextRow.unfollowed==Tryz.prog.unfollowed 5)=true:=by kernel_rfl
set_option maxRecDepth 100000 in
theorem j3:(Rows.fnExactMacroTextRow.recurses==Tryz.prog.recurses 5)=true:=by kernel_rfl
set_option maxRecDepth 100000 in
theorem j4:(Rows.fnExactMacroTextRow.named==Tryz.prog.varsNamed 5)=true:=by kernel_rfl
set_option maxRecDepth 100000 in
theorem j5:(Rows.fnExactMacroTextRow.lifted==Tryz.prog.liftsFinal)=true:=by kernel_rfl
set_option maxRecDepth 100000 in
theorem j6:Tryz.prog.mayEnter=true:=by kernel_rfl
set_option maxRecDepth 100000 in
theorem j7:Tryz.prog.stopsHeard=true:=by kernel_rfl
set_option maxRecDepth 100000 in
theorem j8:Go.Eng.restFacts Tryz.prog Tryz.f5 Rows.fnExactMacroTextSpec Rows.fnExactMacroTextRow=true:=by kernel_rfl
set_option maxRecDepth 100000 in
theorem j9 : Tryz.prog.mainIs = some (true, "b46c94c1b146a9b9d08bdab76e0cf938fbf8f49c40777ef671f3f18fb4253477".toList) := by kernel_rfl
set_option maxRecDepth 100000 in
theorem j10:true=Tryz.prog.looks []:=by kernel_rfl
set_option maxRecDepth 100000 in
theorem j11:false=Rows.fnExactMacroTextRow.goesBy Tryz.prog:=by kernel_rfl
end Go.Proofs.YtkkkfjgagjdcoaaGreatDoor.fnExactMacroText

