import Derived.Test.YtilkdjfhbahhdabGreatDoorChecked
import Derived.Test.YtilkdjfhbahhdabGreatDoorE35
import Derived.KernelRfl
namespace Go.Proofs.YtilkdjfhbahhdabGreatDoor.KFnMacroTexts
open Go.Eng
set_option linter.unusedVariables false
set_option maxRecDepth 100000
def cw:Hints:=⟨[55,69,75,76,77,96,97,133,149,151,167,168,203,222,223],[],[54],[179,205,235],[134,136,170,171,210,211,226,227,230,231,261,262,263,280,301,302,304,305,313,314,315,316,336,338],[118],[],[55]⟩
def but:List FuncId:= [57,58,99,102,134,136,177,178,208,282,284]
noncomputable abbrev KP:=kp Tryz.prog cw but
theorem hK:∀f kf,KP f=some kf->fZ Tryz.prog cw f kf:=λf kf h=>(C1 h).1
noncomputable abbrev KB:=kb Tryz.prog cw but
def lib:zo:=cX 57 cH (cX 58 dI (cX 99 bJ (cX 102 bP (jT 134 (aJ 179 5) (jT 136 (bG 179 5) (cX 177 cY (cX 178 bI (cX 208 bQ (cX 282 bC (cX 284 dA (B5)))))))))))
noncomputable abbrev Rn (n:Nat):=fC KP lib n
end Go.Proofs.YtilkdjfhbahhdabGreatDoor.KFnMacroTexts

