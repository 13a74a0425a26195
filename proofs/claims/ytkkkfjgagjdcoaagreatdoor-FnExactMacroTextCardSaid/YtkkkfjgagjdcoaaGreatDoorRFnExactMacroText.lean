import Derived.Test.YtkkkfjgagjdcoaaGreatDoorLFnExactMacroText
import Derived.Test.YtkkkfjgagjdcoaaGreatDoorRows
import Derived.Test.YtkkkfjgagjdcoaaGreatDoorE32
import Derived.Test.YtkkkfjgagjdcoaaGreatDoorE34
import Derived.Test.YtkkkfjgagjdcoaaGreatDoorJFnExactMacroText
import Derived.WalkKit
import Derived.ProofKit
import Derived.OpenShut
import Derived.ShutString
import Derived.ChangeOld
import Derived.Below
import Derived.SizedLaws
import Derived.Test.YtkkkfjgagjdcoaaGreatDoorE33
import Derived.Test.YtkkkfjgagjdcoaaGreatDoorShelf
import Derived.Test.YtkkkfjgagjdcoaaGreatDoorCards
import Derived.Test.YtkkkfjgagjdcoaaGreatDoorTie
import Derived.SevenTiedAt
import Derived.LaidMore
import Derived.LaidHandle
import Derived.MakeChecks
import Derived.Handed
import Derived.HandedShaped
import Derived.Lay
namespace Go.Proofs.YtkkkfjgagjdcoaaGreatDoor.fnExactMacroText
open Go.ChangeShapes Go.WideShapes Go.ChangeAt Go.RowKit
set_option linter.unusedVariables false
theorem over:Rows.fnExactMacroTextRow.holds Tryz.pinned (OpenSpec.ofChange Rows.fnExactMacroTextSpec):=
 OpenClaim.holds_of_wide 5 Tryz.f5 rfl rfl rfl rfl rfl rfl rfl ⟨rfl,rfl,rfl,rfl,rfl⟩ rfl rfl rfl rfl rfl (by kernel_rfl) Tryz.func5 (Go.Eng.joined_of j1 j2 j3 j4 j5 j6 j7 j8)
  (of_decide_eq_true (by kernel_rfl)) (by unfold Func.isWrapper;first|(rw [if_pos (by decide+kernel)];kernel_rfl)|(rw [if_neg (by decide+kernel)];exact ⟨rfl,rfl⟩))
  (fun os started H enc _=>lifted os started H enc)
theorem row_holds:Rows.FnExactMacroTextSaid:=over
theorem card_holds:Rows.FnExactMacroTextCardSaid:=
 Claim7.holds_tied_plain_at .later [] [.data, .data, .data, .data, .sentinel, .sentinel, .pinned] true (true, "b46c94c1b146a9b9d08bdab76e0cf938fbf8f49c40777ef671f3f18fb4253477") true
  row_holds (fun _ h=>by cases h) (by kernel_rfl) (fun _ h=>by cases h) fnExactMacroText_row_tie rfl ⟨rfl,rfl⟩ j9 rfl
  (fun f fn hf hfn=>by
   obtain rfl : f = 5 := Option.some.inj ((show Tryz.prog.funcNamed "loop.example/g00267/laws.FnExactMacroText" = some 5 by kernel_rfl).symm.trans hf) |>.symm
   obtain rfl:fn=Tryz.f5:=(Option.some.inj (Tryz.func5.symm.trans hfn)).symm
   exact ⟨j10,fun j t ht=>by
    have hm:t∈Tryz.f5.params.toList:=by simpa using Array.mem_of_getElem? ht
    have hall:(Tryz.f5.params.toList.all fun u=>!Tryz.prog.wantsStandIn u)=true:=by kernel_rfl
    exact (show Tryz.prog.wantsStandIn t=false by simpa using List.all_eq_true.1 hall t hm)⟩)
  j11
#print axioms card_holds
end Go.Proofs.YtkkkfjgagjdcoaaGreatDoor.fnExactMacroText
namespace Go.Proofs.YtkkkfjgagjdcoaaGreatDoor
theorem fnExactMacroText_holds:Rows.FnExactMacroTextCardSaid:=fnExactMacroText.card_holds
end Go.Proofs.YtkkkfjgagjdcoaaGreatDoor

