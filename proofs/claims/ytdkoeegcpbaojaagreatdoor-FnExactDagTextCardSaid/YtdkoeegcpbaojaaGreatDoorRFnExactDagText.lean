import Derived.Test.YtdkoeegcpbaojaaGreatDoorLFnExactDagText
import Derived.Test.YtdkoeegcpbaojaaGreatDoorRows
import Derived.Test.YtdkoeegcpbaojaaGreatDoorE32
import Derived.Test.YtdkoeegcpbaojaaGreatDoorE34
import Derived.Test.YtdkoeegcpbaojaaGreatDoorJFnExactDagText
import Derived.WalkKit
import Derived.ProofKit
import Derived.OpenShut
import Derived.ShutString
import Derived.ChangeOld
import Derived.Below
import Derived.SizedLaws
import Derived.Test.YtdkoeegcpbaojaaGreatDoorE33
import Derived.Test.YtdkoeegcpbaojaaGreatDoorShelf
import Derived.Test.YtdkoeegcpbaojaaGreatDoorCards
import Derived.Test.YtdkoeegcpbaojaaGreatDoorTie
import Derived.SevenTiedAt
import Derived.LaidMore
import Derived.LaidHandle
import Derived.MakeChecks
import Derived.Handed
import Derived.HandedShaped
import Derived.Lay
namespace Go.Proofs.YtdkoeegcpbaojaaGreatDoor.fnExactDagText
open Go.ChangeShapes Go.WideShapes Go.ChangeAt Go.RowKit
set_option linter.unusedVariables false
theorem over:Rows.fnExactDagTextRow.holds Tryz.pinned (OpenSpec.ofChange Rows.fnExactDagTextSpec):=
 OpenClaim.holds_of_wide 6 Tryz.f6 rfl rfl rfl rfl rfl rfl rfl ⟨rfl,rfl,rfl,rfl,rfl⟩ rfl rfl rfl rfl rfl (by kernel_rfl) Tryz.func6 (Go.Eng.joined_of j1 j2 j3 j4 j5 j6 j7 j8)
  (of_decide_eq_true (by kernel_rfl)) (by unfold Func.isWrapper;first|(rw [if_pos (by decide+kernel)];kernel_rfl)|(rw [if_neg (by decide+kernel)];exact ⟨rfl,rfl⟩))
  (fun os started H enc _=>lifted os started H enc)
theorem row_holds:Rows.FnExactDagTextSaid:=over
theorem card_holds:Rows.FnExactDagTextCardSaid:=
 Claim7.holds_tied_plain_at .later [] [.data, .data, .data, .data, .sentinel, .sentinel, .pinned] true (true, "3989a79ece163c7deda551cd79f324d9d13158e6bef8bea4137f86c9aaff75e8") true
  row_holds (fun _ h=>by cases h) (by kernel_rfl) (fun _ h=>by cases h) fnExactDagText_row_tie rfl ⟨rfl,rfl⟩ j9 rfl
  (fun f fn hf hfn=>by
   obtain rfl : f = 6 := Option.some.inj ((show Tryz.prog.funcNamed "loop.example/g00267/laws.FnExactDagText" = some 6 by kernel_rfl).symm.trans hf) |>.symm
   obtain rfl:fn=Tryz.f6:=(Option.some.inj (Tryz.func6.symm.trans hfn)).symm
   exact ⟨j10,fun j t ht=>by
    have hm:t∈Tryz.f6.params.toList:=by simpa using Array.mem_of_getElem? ht
    have hall:(Tryz.f6.params.toList.all fun u=>!Tryz.prog.wantsStandIn u)=true:=by kernel_rfl
    exact (show Tryz.prog.wantsStandIn t=false by simpa using List.all_eq_true.1 hall t hm)⟩)
  j11
#print axioms card_holds
end Go.Proofs.YtdkoeegcpbaojaaGreatDoor.fnExactDagText
namespace Go.Proofs.YtdkoeegcpbaojaaGreatDoor
theorem fnExactDagText_holds:Rows.FnExactDagTextCardSaid:=fnExactDagText.card_holds
end Go.Proofs.YtdkoeegcpbaojaaGreatDoor

