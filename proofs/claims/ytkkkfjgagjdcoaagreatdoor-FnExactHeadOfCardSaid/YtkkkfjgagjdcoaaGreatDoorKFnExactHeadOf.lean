import Derived.Test.YtkkkfjgagjdcoaaGreatDoorChecked
import Derived.Test.YtkkkfjgagjdcoaaGreatDoorE33
import Derived.KernelRfl
namespace Go.Proofs.YtkkkfjgagjdcoaaGreatDoor.KFnExactHeadOf
open Go.Eng
set_option linter.unusedVariables false
set_option maxRecDepth 100000
def qUj:Hints:=⟨[],[],[13,65,66,146],[175,198],[134,135,159,160,173,174,175,191,192,195,196,208,209,211,212,223,232,243,244,245,248,263],[120]⟩
def but:List FuncId:= [109,118,144,168,197,251,252,261]
noncomputable abbrev KP:=kp Tryz.prog qUj but
theorem hK:∀f kf,KP f=some kf→zBc Tryz.prog qUj f kf:=fun f kf h=>(zKB h).1
noncomputable abbrev KB:=kb Tryz.prog qUj but
def lib:FuncId→List AV→Option AV:=zAh 109 zA2 (zAh 118 zAP (zAh 144 zAO (zAh 168 zAW (zAh 197 zAX (zAh 251 zAI (zAh 252 zA3 (zAh 261 zBE (zJQ))))))))
noncomputable abbrev Rn (n:Nat):=zBV KP lib n
end Go.Proofs.YtkkkfjgagjdcoaaGreatDoor.KFnExactHeadOf

