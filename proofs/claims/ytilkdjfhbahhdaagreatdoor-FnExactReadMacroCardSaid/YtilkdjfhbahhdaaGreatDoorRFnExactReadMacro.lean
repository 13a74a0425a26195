import Derived.Test.YtilkdjfhbahhdaaGreatDoorLFnExactReadMacro
import Derived.Test.YtilkdjfhbahhdaaGreatDoorRows
import Derived.Test.YtilkdjfhbahhdaaGreatDoorE32
import Derived.Test.YtilkdjfhbahhdaaGreatDoorE34
import Derived.Test.YtilkdjfhbahhdaaGreatDoorJFnExactReadMacro
import Derived.WalkKit
import Derived.ProofKit
import Derived.OpenShut
import Derived.ShutString
import Derived.ChangeOld
import Derived.Below
import Derived.SizedLaws
import Derived.Test.YtilkdjfhbahhdaaGreatDoorE33
import Derived.Test.YtilkdjfhbahhdaaGreatDoorShelf
import Derived.Test.YtilkdjfhbahhdaaGreatDoorCards
import Derived.Test.YtilkdjfhbahhdaaGreatDoorTie
import Derived.SevenTiedAt
import Derived.LaidMore
import Derived.LaidHandle
import Derived.MakeChecks
import Derived.Handed
import Derived.HandedShaped
import Derived.Lay
namespace Go.Proofs.YtilkdjfhbahhdaaGreatDoor.fnExactReadMacro
open Go.ChangeShapes Go.WideShapes Go.ChangeAt Go.RowKit
set_option linter.unusedVariables false
theorem over:Rows.fnExactReadMacroRow.holds Tryz.pinned (OpenSpec.ofChange Rows.fnExactReadMacroSpec):=
 OpenClaim.holds_of_wide 4 Tryz.f4 rfl rfl rfl rfl rfl rfl rfl ⟨rfl,rfl,rfl,rfl,rfl⟩ rfl rfl rfl rfl rfl (by kernel_rfl) Tryz.func4 (Go.Eng.joined_of j1 j2 j3 j4 j5 j6 j7 j8)
  (of_decide_eq_true (by kernel_rfl)) (by unfold Func.isWrapper;first|(rw [if_pos (by decide+kernel)];kernel_rfl)|(rw [if_neg (by decide+kernel)];exact ⟨rfl,rfl⟩))
  (fun os started H enc _=>lifted os started H enc)
theorem row_holds:Rows.FnExactReadMacroSaid:=over
theorem card_holds:Rows.FnExactReadMacroCardSaid:=
 Claim7.holds_tied_plain_at .later [] [.data, .data, .data, .data, .sentinel, .sentinel, .pinned] true (true, "09ab82b818a8088c7d98e63730144c4968aaf167d6750c73fb9645dc84fd252c") true
  row_holds (fun _ h=>by cases h) (by kernel_rfl) (fun _ h=>by cases h) fnExactReadMacro_row_tie rfl ⟨rfl,rfl⟩ j9 rfl
  (fun f fn hf hfn=>by
   obtain rfl : f = 4 := Option.some.inj ((show Tryz.prog.funcNamed "loop.example/g00267/laws.FnExactReadMacro" = some 4 by kernel_rfl).symm.trans hf) |>.symm
   obtain rfl:fn=Tryz.f4:=(Option.some.inj (Tryz.func4.symm.trans hfn)).symm
   exact ⟨j10,fun j t ht=>by
    have hm:t∈Tryz.f4.params.toList:=by simpa using Array.mem_of_getElem? ht
    have hall:(Tryz.f4.params.toList.all fun u=>!Tryz.prog.wantsStandIn u)=true:=by kernel_rfl
    exact (show Tryz.prog.wantsStandIn t=false by simpa using List.all_eq_true.1 hall t hm)⟩)
  j11
#print axioms card_holds
end Go.Proofs.YtilkdjfhbahhdaaGreatDoor.fnExactReadMacro
namespace Go.Proofs.YtilkdjfhbahhdaaGreatDoor
theorem fnExactReadMacro_holds:Rows.FnExactReadMacroCardSaid:=fnExactReadMacro.card_holds
end Go.Proofs.YtilkdjfhbahhdaaGreatDoor

