import Derived.Test.YtdkoeegcpbaojaaGreatDoorChecked
import Derived.Test.YtdkoeegcpbaojaaGreatDoorE35
import Derived.KernelRfl
namespace Go.Proofs.YtdkoeegcpbaojaaGreatDoor.KFnExactDagText
open Go.Eng
set_option linter.unusedVariables false
set_option maxRecDepth 100000
def qVN:Hints:=⟨[],[],[12,90,91,227],[174,197,220],[138,139,165,167,187,188,200,201,204,205,242,243,244,261,288,289,291,292,300,301,302,303,326,328],[159]⟩
def but:List FuncId:= [70,73,101,145,146,165,167,206,263,265]
noncomputable abbrev KP:=kp Tryz.prog qVN but
theorem hK:∀f kf,KP f=some kf→zBx Tryz.prog qVN f kf:=fun f kf h=>(zKi h).1
noncomputable abbrev KB:=kb Tryz.prog qVN but
def lib:zZ:=zA1 70 zAN (zA1 73 zAR (zA1 101 zA2 (zA1 145 zAs (zA1 146 zAM (zC3 165 (zk 197 5) (zC3 167 (zAK 197 5) (zA1 206 zAS (zA1 263 zAH (zA1 265 zAu (zJu))))))))))
noncomputable abbrev Rn (n:Nat):=zBg KP lib n
end Go.Proofs.YtdkoeegcpbaojaaGreatDoor.KFnExactDagText

