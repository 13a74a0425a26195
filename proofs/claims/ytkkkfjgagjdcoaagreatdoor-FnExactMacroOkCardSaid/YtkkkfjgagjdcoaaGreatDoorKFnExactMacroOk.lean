import Derived.Test.YtkkkfjgagjdcoaaGreatDoorChecked
import Derived.Test.YtkkkfjgagjdcoaaGreatDoorE33
import Derived.KernelRfl
namespace Go.Proofs.YtkkkfjgagjdcoaaGreatDoor.KFnExactMacroOk
open Go.Eng
set_option linter.unusedVariables false
set_option maxRecDepth 100000
def qQL:Hints:=⟨[],[],[19],[175,198],[134,135,159,160,173,174,175,191,192,195,196,208,209,211,212,223,232,243,244,245,248,263]⟩
def but:List FuncId:= [109,118,144,168,197,251,252,261]
noncomputable abbrev KP:=kp Tryz.prog qQL but
theorem hK:∀f kf,KP f=some kf→zBb Tryz.prog qQL f kf:=fun f kf h=>(zJ1 h).1
noncomputable abbrev KB:=kb Tryz.prog qQL but
def lib:FuncId→List AV→Option AV:=zAg 109 zAz (zAg 118 zAM (zAg 144 zAL (zAg 168 zAT (zAg 197 zAU (zAg 251 zAG (zAg 252 zA0 (zAg 261 zBB (zJF))))))))
noncomputable abbrev Rn (n:Nat):=zBU KP lib n
end Go.Proofs.YtkkkfjgagjdcoaaGreatDoor.KFnExactMacroOk

