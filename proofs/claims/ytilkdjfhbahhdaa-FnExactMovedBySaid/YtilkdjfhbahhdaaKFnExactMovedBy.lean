import Derived.Test.YtilkdjfhbahhdaaChecked
import Derived.Test.YtilkdjfhbahhdaaE31
import Derived.KernelRfl
namespace Go.Proofs.Ytilkdjfhbahhdaa.KFnExactMovedBy
open Go.Eng
set_option linter.unusedVariables false
set_option maxRecDepth 100000
def qGk:Hints:=⟨[18,46],[],[14,15,16,39,40,43,75,77,99],[129],[],[],[14,15,16,39,43,77],[]⟩
def but:List FuncId:= []
noncomputable abbrev KP:=kp Try.prog qGk but
theorem hK:∀f kf,KP f=some kf→zBB Try.prog qGk f kf:=fun f kf h=>(zKl h).1
noncomputable abbrev KB:=kb Try.prog qGk but
def lib:zk:=fun _ _ _=>none
noncomputable abbrev Rn (n:Nat):=zB5 KP lib n
end Go.Proofs.Ytilkdjfhbahhdaa.KFnExactMovedBy

