import Derived.Test.YtkkkfjgagjdcoaaGreatDoorChecked
import Derived.Test.YtkkkfjgagjdcoaaGreatDoorE33
import Derived.KernelRfl
namespace Go.Proofs.YtkkkfjgagjdcoaaGreatDoor.KFnExactSourceAt
open Go.Eng
set_option linter.unusedVariables false
set_option maxRecDepth 100000
def qQ1:Hints:=⟨[],[],[13],[175,198],[134,135,159,160,173,174,175,191,192,195,196,208,209,211,212,223,232,243,244,245,248,263]⟩
def but:List FuncId:= [109,118,144,168,197,251,252,261]
noncomputable abbrev KP:=kp Tryz.prog qQ1 but
theorem hK:∀f kf,KP f=some kf→zBP Tryz.prog qQ1 f kf:=fun f kf h=>(zJF h).1
noncomputable abbrev KB:=kb Tryz.prog qQ1 but
def lib:FuncId→List AV→Option AV:=zAX 109 zAr (zAX 118 zAJ (zAX 144 zAI (zAX 168 zAO (zAX 197 zAP (zAX 251 zAF (zAX 252 zAs (zAX 261 zA2 (zIX))))))))
noncomputable abbrev Rn (n:Nat):=zBI KP lib n
end Go.Proofs.YtkkkfjgagjdcoaaGreatDoor.KFnExactSourceAt

