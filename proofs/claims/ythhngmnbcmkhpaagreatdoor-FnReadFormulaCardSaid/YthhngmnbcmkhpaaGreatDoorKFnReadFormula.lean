import Derived.Test.YthhngmnbcmkhpaaGreatDoorChecked
import Derived.Test.YthhngmnbcmkhpaaGreatDoorE33
import Derived.KernelRfl
namespace Go.Proofs.YthhngmnbcmkhpaaGreatDoor.KFnReadFormula
open Go.Eng
set_option linter.unusedVariables false
set_option maxRecDepth 100000
def qPn:Hints:=⟨[43,44,45,67,95,97,99,100,106,147,175],[],[42],[50,55],[33,34,36,37,81,82,83,84,85,88,89,128,129,131,132,134,159,161,162,163,165,188]⟩
def but:List FuncId:= [59,61,90,101,104,122,186]
noncomputable abbrev KP:=kp Tryz.prog qPn but
theorem hK:∀f kf,KP f=some kf→zBK Tryz.prog qPn f kf:=fun f kf h=>(zIz h).1
noncomputable abbrev KB:=kb Tryz.prog qPn but
def lib:FuncId→List AV→Option AV:=zAb 59 zAH (zAb 61 zAL (zAb 90 zAM (zAb 101 zAC (zAb 104 zAo (zAb 122 zAG (zAb 186 zAz (zIH)))))))
noncomputable abbrev Rn (n:Nat):=zBE KP lib n
end Go.Proofs.YthhngmnbcmkhpaaGreatDoor.KFnReadFormula

