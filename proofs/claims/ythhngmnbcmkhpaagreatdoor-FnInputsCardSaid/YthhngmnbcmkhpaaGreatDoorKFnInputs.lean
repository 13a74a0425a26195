import Derived.Test.YthhngmnbcmkhpaaGreatDoorChecked
import Derived.Test.YthhngmnbcmkhpaaGreatDoorE33
import Derived.KernelRfl
namespace Go.Proofs.YthhngmnbcmkhpaaGreatDoor.KFnInputs
open Go.Eng
set_option linter.unusedVariables false
set_option maxRecDepth 100000
def qRZ:Hints:=⟨[43,44,45,66,67,95,97,99,100,106,147,175],[],[42],[50,55],[33,34,36,37,81,82,83,84,85,88,89,128,129,131,132,134,159,161,162,163,165,188]⟩
def but:List FuncId:= [59,61,90,101,104,121,122,186]
noncomputable abbrev KP:=kp Tryz.prog qRZ but
theorem hK:∀f kf,KP f=some kf→zBN Tryz.prog qRZ f kf:=fun f kf h=>(zJE h).1
noncomputable abbrev KB:=kb Tryz.prog qRZ but
def lib:FuncId→List AV→Option AV:=zAV 59 zAJ (zAV 61 zAO (zAV 90 zAP (zAV 101 zAF (zAV 104 zAq (zAV 121 zAp (zAV 122 zAI (zAV 186 zA1 (zIW))))))))
noncomputable abbrev Rn (n:Nat):=zBG KP lib n
end Go.Proofs.YthhngmnbcmkhpaaGreatDoor.KFnInputs

