import Derived.Test.YtilkdjfhbahhdaaChecked
import Derived.Test.YtilkdjfhbahhdaaE34
import Derived.KernelRfl
namespace Go.Proofs.Ytilkdjfhbahhdaa.KFnExactClosed
open Go.Eng
set_option linter.unusedVariables false
set_option maxRecDepth 100000
def KM:Hints:=⟨[18,46],[86],[15,22,23,39,40,49,52,75,77,99],[129],[],[],[15,22,23,39,49,52,77],[]⟩
def but:List FuncId:= []
noncomputable abbrev KP:=kp Try.prog KM but
theorem hK:∀f kf,KP f=some kf->cW Try.prog KM f kf:=λf kf h=>(BQ h).1
noncomputable abbrev KB:=kb Try.prog KM but
def lib:zl:=λ_ _ _=>none
noncomputable abbrev Rn (n:Nat):=fH KP lib n
end Go.Proofs.Ytilkdjfhbahhdaa.KFnExactClosed

