import Derived.Test.YthhngmnbcmkhpaaGreatDoorChecked
import Derived.Test.YthhngmnbcmkhpaaGreatDoorE33
import Derived.KernelRfl
namespace Go.Proofs.YthhngmnbcmkhpaaGreatDoor.KFnExactSheetOk
open Go.Eng
set_option linter.unusedVariables false
set_option maxRecDepth 100000
def qQT:Hints:=⟨[],[],[29],[50,55],[33,34,36,37,81,82,83,84,85,88,89,128,129,131,132,134,159,161,162,163,165,188]⟩
def but:List FuncId:= [59,61,90,101,104,121,122,186]
noncomputable abbrev KP:=kp Tryz.prog qQT but
theorem hK:∀f kf,KP f=some kf→zBX Tryz.prog qQT f kf:=fun f kf h=>(zIm h).1
noncomputable abbrev KB:=kb Tryz.prog qQT but
def lib:FuncId→List AV→Option AV:=zAk 59 zAN (zAk 61 zAU (zAk 90 zAV (zAk 101 zAJ (zAk 104 zA3 (zAk 121 zA2 (zAk 122 zAM (zAk 186 zBA (zH8))))))))
noncomputable abbrev Rn (n:Nat):=zBT KP lib n
end Go.Proofs.YthhngmnbcmkhpaaGreatDoor.KFnExactSheetOk

