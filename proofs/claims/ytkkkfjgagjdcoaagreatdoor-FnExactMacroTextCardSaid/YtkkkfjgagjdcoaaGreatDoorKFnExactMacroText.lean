import Derived.Test.YtkkkfjgagjdcoaaGreatDoorChecked
import Derived.Test.YtkkkfjgagjdcoaaGreatDoorE35
import Derived.KernelRfl
namespace Go.Proofs.YtkkkfjgagjdcoaaGreatDoor.KFnExactMacroText
open Go.Eng
set_option linter.unusedVariables false
set_option maxRecDepth 100000
def qRK:Hints:=⟨[],[],[19],[135,175,198],[100,104,134,135,159,160,173,174,175,191,192,195,196,208,209,211,212,223,232,243,244,245,248,263],[120]⟩
def but:List FuncId:= [100,104,109,118,144,168,197,251,252,261]
noncomputable abbrev KP:=kp Tryz.prog qRK but
theorem hK:∀f kf,KP f=some kf→zBt Tryz.prog qRK f kf:=fun f kf h=>(zKe h).1
noncomputable abbrev KB:=kb Tryz.prog qRK but
def lib:zY:=zCy 100 (ze 135 5) (zCy 104 (zAE 135 5) (zAx 109 zAo (zAx 118 zAH (zAx 144 zAG (zAx 168 zAM (zAx 197 zAN (zAx 251 zAB (zAx 252 zAq (zAx 261 zAy (zJq))))))))))
noncomputable abbrev Rn (n:Nat):=zBc KP lib n
end Go.Proofs.YtkkkfjgagjdcoaaGreatDoor.KFnExactMacroText

