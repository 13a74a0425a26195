import Derived.Test.YtilkdjfhbahhdaaChecked
import Derived.Test.YtilkdjfhbahhdaaE31
import Derived.KernelRfl
namespace Go.Proofs.Ytilkdjfhbahhdaa.KFnExactOpened
open Go.Eng
set_option linter.unusedVariables false
set_option maxRecDepth 100000
def qGv:Hints:=⟨[18,46],[],[15,20,21,39,40,49,51,75,77,99],[129],[],[],[15,20,21,39,49,51,77],[]⟩
def but:List FuncId:= []
noncomputable abbrev KP:=kp Try.prog qGv but
theorem hK:∀f kf,KP f=some kf→zBB Try.prog qGv f kf:=fun f kf h=>(zKm h).1
noncomputable abbrev KB:=kb Try.prog qGv but
def lib:zh:=fun _ _ _=>none
noncomputable abbrev Rn (n:Nat):=zB8 KP lib n
end Go.Proofs.Ytilkdjfhbahhdaa.KFnExactOpened

