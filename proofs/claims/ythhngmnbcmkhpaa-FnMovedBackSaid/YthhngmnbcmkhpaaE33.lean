import Derived.Test.YthhngmnbcmkhpaaE32
import Derived.Shelf.Strconv.Itoa4
import Derived.Shelf.Strconv.ParseIntPublic10
import Derived.Shelf.Small.Wraps
import Derived.Shelf.Strings.SlTrimAscii
import Derived.Shelf.Strings.OnBuilder
import Derived.Shelf.Strings.Replace
import Derived.Shelf.Strings.Cut
import Derived.HandedShaped
import Derived.Lib.LaidTab
import Derived.Stop.LaidErr
set_option linter.unusedVariables false
namespace Go.Eng
open Go.Shelf Go.RowKit Go.Proofs
section
variable {P:Program} {G:Nat→Option Obj} {ρ:Ren} {F:Nat→Prop} {fs:List Frame} {pl:Pl} {w:World}
def zAc (s:ByteArray) (b k:Int):Option (Int⊕Int):=if b=10∧k=64∧s.size≤281474976710656 then (match Lib.parseIntB 64 s.data.toList with
 | .ok v=>some (.inl v)
 | .range=>some (.inr (Lib.intSat 64 s.data.toList))
 |_=>some (.inr 0)) else none
end
end Go.Eng

