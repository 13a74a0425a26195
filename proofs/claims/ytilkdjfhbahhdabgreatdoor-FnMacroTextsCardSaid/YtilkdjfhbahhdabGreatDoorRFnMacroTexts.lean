import Derived.Test.YtilkdjfhbahhdabGreatDoorLFnMacroTexts
import Derived.Test.YtilkdjfhbahhdabGreatDoorRows
import Derived.Test.YtilkdjfhbahhdabGreatDoorE32
import Derived.Test.YtilkdjfhbahhdabGreatDoorE35
import Derived.Test.YtilkdjfhbahhdabGreatDoorJFnMacroTexts
import Derived.WalkKit
import Derived.ProofKit
import Derived.OpenShut
import Derived.ShutString
import Derived.ChangeOld
import Derived.Below
import Derived.SizedLaws
import Derived.Test.YtilkdjfhbahhdabGreatDoorE35
import Derived.Test.YtilkdjfhbahhdabGreatDoorShelf
import Derived.Test.YtilkdjfhbahhdabGreatDoorCards
import Derived.Test.YtilkdjfhbahhdabGreatDoorTie
import Derived.SevenTiedAt
import Derived.LaidMore
import Derived.LaidHandle
import Derived.MakeChecks
import Derived.Handed
import Derived.HandedShaped
import Derived.Lay
namespace Go.Proofs.YtilkdjfhbahhdabGreatDoor.fnMacroTexts
open Go.ChangeShapes Go.WideShapes Go.ChangeAt Go.RowKit
set_option linter.unusedVariables false
theorem over:Rows.fnMacroTextsRow.holds Tryz.pinned (OpenSpec.ofChange Rows.fnMacroTextsSpec):=
 OpenClaim.holds_of_wide 3 Tryz.f3 rfl rfl rfl rfl rfl rfl rfl ⟨rfl,rfl,rfl,rfl,rfl⟩ rfl rfl rfl rfl rfl (by kernel_rfl) Tryz.func3 (Go.Eng.joined_of j1 j2 j3 j4 j5 j6 j7 j8)
  (of_decide_eq_true (by kernel_rfl)) (by unfold Func.isWrapper;first|(rw [if_pos (by decide+kernel)];kernel_rfl)|(rw [if_neg (by decide+kernel)];exact ⟨rfl,rfl⟩))
  (λos started H enc _=>lifted os started H enc)
theorem row_holds:Rows.FnMacroTextsSaid:=over
theorem card_holds:Rows.FnMacroTextsCardSaid:=
 Claim7.holds_tied_plain_at .later [] [.data, .data, .data, .data, .sentinel, .sentinel, .pinned] true (true, "0bd31c01d72fae6eefa21446219ddcf359e6725a9ff2d93fa1c66bcd777c0a1e") true
  row_holds (λ_ h=>by cases h) (by kernel_rfl) (λ_ h=>by cases h) fnMacroTexts_row_tie rfl ⟨rfl,rfl⟩ j9 rfl
  (λf fn hf hfn=>by
   obtain rfl : f = 3 := Option.some.inj ((show Tryz.prog.funcNamed "loop.example/g00267/laws.FnMacroTexts" = some 3 by kernel_rfl).symm.trans hf) |>.symm
   obtain rfl:fn=Tryz.f3:=(Option.some.inj (Tryz.func3.symm.trans hfn)).symm;exact ⟨j10,λj t ht=>by
    have hm:t∈Tryz.f3.params.toList:=by simpa using Array.mem_of_getElem? ht
    have hall:(Tryz.f3.params.toList.all λu=>!Tryz.prog.wantsStandIn u)=true:=by kernel_rfl
    exact (show Tryz.prog.wantsStandIn t=false by simpa using List.all_eq_true.1 hall t hm)⟩)
  j11
#print axioms card_holds
end Go.Proofs.YtilkdjfhbahhdabGreatDoor.fnMacroTexts
namespace Go.Proofs.YtilkdjfhbahhdabGreatDoor
theorem fnMacroTexts_holds:Rows.FnMacroTextsCardSaid:=fnMacroTexts.card_holds
end Go.Proofs.YtilkdjfhbahhdabGreatDoor

