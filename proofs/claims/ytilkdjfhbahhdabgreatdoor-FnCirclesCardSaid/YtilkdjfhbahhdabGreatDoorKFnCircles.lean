import Derived.Test.YtilkdjfhbahhdabGreatDoorChecked
import Derived.Test.YtilkdjfhbahhdabGreatDoorE34
import Derived.KernelRfl
namespace Go.Proofs.YtilkdjfhbahhdabGreatDoor.KFnCircles
open Go.Eng
set_option linter.unusedVariables false
set_option maxRecDepth 100000
def fk:Hints:=⟨[74,75,76,77,96,97,151,167,168,222,223],[],[24,28,54,88,90,152],[179,205,235],[170,171,210,211,226,227,230,231,261,262,263,280,301,302,304,305,313,314,315,316,336,338],[118],[],[74]⟩
def but:List FuncId:= [58,99,102,177,178,208,282,284]
noncomputable abbrev KP:=kp Tryz.prog fk but
theorem hK:∀f kf,KP f=some kf->fG Tryz.prog fk f kf:=λf kf h=>(CO h).1
noncomputable abbrev KB:=kb Tryz.prog fk but
def lib:zo:=cQ 58 cS (cQ 99 aX (cQ 102 bC (cQ 177 cH (cQ 178 aW (cQ 208 bD (cQ 282 aT (cQ 284 cJ (BN))))))))
noncomputable abbrev Rn (n:Nat):=eY KP lib n
end Go.Proofs.YtilkdjfhbahhdabGreatDoor.KFnCircles

