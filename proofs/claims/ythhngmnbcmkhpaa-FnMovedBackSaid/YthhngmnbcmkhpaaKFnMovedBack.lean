import Derived.Test.YthhngmnbcmkhpaaChecked
import Derived.Test.YthhngmnbcmkhpaaE31
import Derived.KernelRfl
namespace Go.Proofs.Ythhngmnbcmkhpaa.KFnMovedBack
open Go.Eng
set_option linter.unusedVariables false
set_option maxRecDepth 100000
def qLj:Hints:=⟨[17,18,19,20,37,38,39,40,61,63,65],[],[16,36],[83],[58,59,70,71,72,77,78,80,82,88]⟩
def but:List FuncId:= []
noncomputable abbrev KP:=kp Try.prog qLj but
theorem hK:∀f kf,KP f=some kf→zAp Try.prog qLj f kf:=fun f kf h=>(zJG h).1
noncomputable abbrev KB:=kb Try.prog qLj but
def lib:FuncId→List AV→Option AV:=fun _ _=>none
noncomputable abbrev Rn (n:Nat):=zBX KP lib n
end Go.Proofs.Ythhngmnbcmkhpaa.KFnMovedBack

