import Derived.Test.YthhngmnbcmkhpaaGreatDoorChecked
import Derived.Test.YthhngmnbcmkhpaaGreatDoorE33
import Derived.KernelRfl
namespace Go.Proofs.YthhngmnbcmkhpaaGreatDoor.KFnFormulaTexts
open Go.Eng
set_option linter.unusedVariables false
set_option maxRecDepth 100000
def qQR:Hints:=⟨[43,44,50,67,95,97,99,106,107,147,175],[],[9,42],[50,55],[33,34,36,37,81,82,83,84,85,88,89,128,129,131,132,134,159,161,162,163,165,188]⟩
def but:List FuncId:= [59,61,90,101,104,122,186]
noncomputable abbrev KP:=kp Tryz.prog qQR but
theorem hK:∀f kf,KP f=some kf→zBR Tryz.prog qQR f kf:=fun f kf h=>(zJc h).1
noncomputable abbrev KB:=kb Tryz.prog qQR but
def lib:FuncId→List AV→Option AV:=zAg 59 zAI (zAg 61 zAN (zAg 90 zAO (zAg 101 zAC (zAg 104 zAs (zAg 122 zAH (zAg 186 zA5 (zIv)))))))
noncomputable abbrev Rn (n:Nat):=zBK KP lib n
end Go.Proofs.YthhngmnbcmkhpaaGreatDoor.KFnFormulaTexts

