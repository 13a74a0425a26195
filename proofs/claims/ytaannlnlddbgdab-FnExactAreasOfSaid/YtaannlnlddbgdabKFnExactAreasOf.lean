import Derived.Test.YtaannlnlddbgdabChecked
import Derived.Test.YtaannlnlddbgdabE31
import Derived.KernelRfl
namespace Go.Proofs.Ytaannlnlddbgdab.KFnExactAreasOf
open Go.Eng
set_option linter.unusedVariables false
set_option maxRecDepth 100000
def qF1:Hints:=⟨[44,45,85],[],[38,41,42,78,82,112],[],[],[],[38]⟩
def but:List FuncId:= []
noncomputable abbrev KP:=kp Try.prog qF1 but
theorem hK:∀f kf,KP f=some kf→zAy Try.prog qF1 f kf:=fun f kf h=>(zKL h).1
noncomputable abbrev KB:=kb Try.prog qF1 but
def lib:zd:=fun _ _ _=>none
noncomputable abbrev Rn (n:Nat):=zBq KP lib n
end Go.Proofs.Ytaannlnlddbgdab.KFnExactAreasOf

