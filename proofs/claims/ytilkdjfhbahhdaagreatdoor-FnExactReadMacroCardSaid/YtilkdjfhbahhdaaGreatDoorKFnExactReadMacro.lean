import Derived.Test.YtilkdjfhbahhdaaGreatDoorChecked
import Derived.Test.YtilkdjfhbahhdaaGreatDoorE35
import Derived.KernelRfl
namespace Go.Proofs.YtilkdjfhbahhdaaGreatDoor.KFnExactReadMacro
open Go.Eng
set_option linter.unusedVariables false
set_option maxRecDepth 100000
def qSy:Hints:=⟨[13],[],[10,11],[35,41,101],[16,17,20,21,41,42,43,48,49,52,53,71,74,76,77,80,82,89,114,115,117,119,122,151],[],[],[]⟩
def but:List FuncId:= [33,34,54,69,71,74,104,113,175,188,189]
noncomputable abbrev KP:=kp Tryz.prog qSy but
theorem hK:∀f kf,KP f=some kf→zCM Tryz.prog qSy f kf:=fun f kf h=>(zL8 h).1
noncomputable abbrev KB:=kb Tryz.prog qSy but
def lib:zk:=zBA 33 zAw (zBA 34 zBL (zBA 54 zAh (zBA 69 zAg (zDX 71 (zAD 101 5) (zDX 74 (zAX 101 5) (zBA 104 zAa (zBA 113 zAZ (zBA 175 zBB (zBA 188 zAU (zBA 189 zBD (zLH)))))))))))
noncomputable abbrev Rn (n:Nat):=zBz KP lib n
end Go.Proofs.YtilkdjfhbahhdaaGreatDoor.KFnExactReadMacro

