import Derived.Test.YtilkdjfhbahhdaaChecked
import Derived.Test.YtilkdjfhbahhdaaE32
import Derived.KernelRfl
namespace Go.Proofs.Ytilkdjfhbahhdaa.KFnOpenedClosed
open Go.Eng
set_option linter.unusedVariables false
set_option maxRecDepth 100000
def Qp:Hints:=⟨[54,55,56,57,88,89,90,91,104,106,108],[86],[53,87],[129],[101,102,113,114,115,119,120,122,124,128],[],[],[]⟩
def but:List FuncId:= []
noncomputable abbrev KP:=kp Try.prog Qp but
theorem hK:∀f kf,KP f=some kf->dF Try.prog Qp f kf:=λf kf h=>(Be h).1
noncomputable abbrev KB:=kb Try.prog Qp but
def lib:zk:=λ_ _ _=>none
noncomputable abbrev Rn (n:Nat):=fN KP lib n
end Go.Proofs.Ytilkdjfhbahhdaa.KFnOpenedClosed

