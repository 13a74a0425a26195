import Derived.Test.YtkkkfjgagjdcoaaGreatDoorChecked
import Derived.Test.YtkkkfjgagjdcoaaGreatDoorE33
import Derived.KernelRfl
namespace Go.Proofs.YtkkkfjgagjdcoaaGreatDoor.KFnExactTouched
open Go.Eng
set_option linter.unusedVariables false
set_option maxRecDepth 100000
def qVQ:Hints:=⟨[34,35],[],[13,40,41,42,86],[135,175,198],[134,135,159,160,173,174,175,191,192,195,196,208,209,211,212,223,232,243,244,245,248,263],[120]⟩
def but:List FuncId:= [109,118,144,168,197,251,252,261]
noncomputable abbrev KP:=kp Tryz.prog qVQ but
theorem hK:∀f kf,KP f=some kf→zBe Tryz.prog qVQ f kf:=fun f kf h=>(zKD h).1
noncomputable abbrev KB:=kb Tryz.prog qVQ but
def lib:za:=zAk 109 zAc (zAk 118 z8 (zAk 144 z0 (zAk 168 zAC (zAk 197 zAD (zAk 251 zw (zAk 252 zAe (zAk 261 zAm (zJS))))))))
noncomputable abbrev Rn (n:Nat):=zBX KP lib n
end Go.Proofs.YtkkkfjgagjdcoaaGreatDoor.KFnExactTouched

