import Derived.Test.YtkkkfjgagjdcoaaGreatDoorChecked
import Derived.Test.YtkkkfjgagjdcoaaGreatDoorE33
import Derived.KernelRfl
namespace Go.Proofs.YtkkkfjgagjdcoaaGreatDoor.KFnExactLeansOn
open Go.Eng
set_option linter.unusedVariables false
set_option maxRecDepth 100000
def qTQ:Hints:=⟨[34,35],[],[13,31,32,75],[175,198],[134,135,159,160,173,174,175,191,192,195,196,208,209,211,212,223,232,243,244,245,248,263]⟩
def but:List FuncId:= [109,118,144,168,197,251,252,261]
noncomputable abbrev KP:=kp Tryz.prog qTQ but
theorem hK:∀f kf,KP f=some kf→zBa Tryz.prog qTQ f kf:=fun f kf h=>(zJ0 h).1
noncomputable abbrev KB:=kb Tryz.prog qTQ but
def lib:FuncId→List AV→Option AV:=zAf 109 zAy (zAf 118 zAM (zAf 144 zAL (zAf 168 zAT (zAf 197 zAU (zAf 251 zAG (zAf 252 zAz (zAf 261 zBA (zJE))))))))
noncomputable abbrev Rn (n:Nat):=zBT KP lib n
end Go.Proofs.YtkkkfjgagjdcoaaGreatDoor.KFnExactLeansOn

