import Derived.Test.YtkkkfjgagjdcoaaGreatDoorChecked
import Derived.Test.YtkkkfjgagjdcoaaGreatDoorE33
import Derived.KernelRfl
namespace Go.Proofs.YtkkkfjgagjdcoaaGreatDoor.KFnExactInCircle
open Go.Eng
set_option linter.unusedVariables false
set_option maxRecDepth 100000
def qTx:Hints:=⟨[],[],[13,75,125],[175,198],[134,135,159,160,173,174,175,191,192,195,196,208,209,211,212,223,232,243,244,245,248,263],[120]⟩
def but:List FuncId:= [109,118,144,168,197,251,252,261]
noncomputable abbrev KP:=kp Tryz.prog qTx but
theorem hK:∀f kf,KP f=some kf→zBb Tryz.prog qTx f kf:=fun f kf h=>(zJ9 h).1
noncomputable abbrev KB:=kb Tryz.prog qTx but
def lib:FuncId→List AV→Option AV:=zAh 109 zA1 (zAh 118 zAN (zAh 144 zAM (zAh 168 zAV (zAh 197 zAW (zAh 251 zAG (zAh 252 zA2 (zAh 261 zBC (zJO))))))))
noncomputable abbrev Rn (n:Nat):=zBU KP lib n
end Go.Proofs.YtkkkfjgagjdcoaaGreatDoor.KFnExactInCircle

