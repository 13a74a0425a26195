import Derived.Test.YtilkdjfhbahhdaaRows
import Derived.Test.YtilkdjfhbahhdaaSFnOpenedClosed
import Derived.Test.YtilkdjfhbahhdaaE32
import Derived.Test.YtilkdjfhbahhdaaE34
import Derived.WalkKit
import Derived.ProofKit
import Derived.OpenShut
import Derived.ShutString
import Derived.ChangeOld
import Derived.Below
import Derived.SizedLaws
namespace Go.Proofs.Ytilkdjfhbahhdaa.KFnOpenedClosed
open Go.Eng
set_option linter.unusedVariables false
def shs:List (Bool×List Sh):= [(false,[(.sl 1 [(.i .u8)])])]
theorem pure:∀xss,nR shs xss->∃n,fN KP lib n 7 (iR shs xss) []=some ⟨.c (.p (.b true)),[],[]⟩:=by
 intro xss ho;obtain ⟨a0,t0,rfl,g0_0,ho0⟩:=tL ho;obtain ⟨c0_0,u0_0,rfl,p0,g0_1⟩:=rP g0_0;obtain ⟨x0,rfl,w0⟩:=CJ p0;obtain rfl:=vA g0_1;obtain rfl:=wS ho0;obtain ⟨n,hn⟩:=law x0 w0;exact ⟨n,It n x0 true (hn n (Nat.le_refl n))⟩
end Go.Proofs.Ytilkdjfhbahhdaa.KFnOpenedClosed
namespace Go.Proofs.Ytilkdjfhbahhdaa.fnOpenedClosed
open Go.ChangeShapes Go.WideShapes Go.ChangeAt Go.RowKit
set_option linter.unusedVariables false
theorem own:ownKnob Try.prog.godebug=none:=by kernel_rfl
set_option maxRecDepth 100000 in
theorem lifted (os:Os) (started:os.Started) (H:Type) (enc:TypeId×Value->H):
  ReturnsInHanded {} Try.checked os 7 .any (Rows.fnOpenedClosedSpec.pre6 enc Try.prog Try.f7 Rows.fnOpenedClosedRow.domain false) (Rows.fnOpenedClosedSpec.post enc Try.prog Try.f7 false true false false):=by
 refine returnsInHanded_of_change_sized (C:=Try.checked) own started (by kernel_rfl) Try.func7
  (ChangeSpec.witness6 (enc:=enc) (C:=Try.checked) false ⟨#[], #[.slice none 0 0],[]⟩ 8 (by kernel_rfl) (by kernel_rfl) (by kernel_rfl) (by kernel_rfl)) ?_
 intro W base args ds gs before hval0 hW hcnd hsz0 _;have hsz:(DataW.weightsEach Try.prog (Try.f7.params.toList++Rows.fnOpenedClosedSpec.plain.varTypes Try.prog) (ds++gs)).all (· <=reachBytes)=true:=hsz0;have hval:∀(j:Nat) t v,Try.f7.params.toList[j]?=some t->args.toList[j]?=some v->Value.okWide Try.prog W .any base t v:=λj t v ht hv=>hval0 j t v (by simpa using ht) (by simpa using hv)
 have hW':=hW;obtain ⟨p,q,hA0,hV,rfl,hfz,hnd⟩:=hW;have hA:DataW.TrodAll enc Try.prog W 0 (λ_=>true) true Try.f7.params.toList args.toList ds p:=hA0;obtain ⟨rfl,rfl⟩:=trodVars_none hV;obtain ⟨xss,ho,hr⟩:=Go.Eng.open_args (shs:=KFnOpenedClosed.shs) (by kernel_rfl) hA hval hsz;obtain ⟨n,hn⟩:=KFnOpenedClosed.pure xss ho;rw [Try.params7] at hA;refine (Go.Eng.law_calls KFnOpenedClosed.hK (Go.Eng.lib_none λ_ _ _=>rfl) (f:=7) (by kernel_rfl) hn hr).mono λe W' ⟨he,bel⟩=>?_
 subst he;have hAk:=hA;obtain ⟨v0,vs0,d0,ds0,p0,q0,hargs,rfl,rfl,h0,r0⟩:=trodAll_cons hA;obtain ⟨rfl,rfl,rfl⟩:=trodAll_nil r0;exact ⟨_,rfl,_,_,_,[],_,[],hW',trodAll_mk1 (shut_bool Try.underlying4 _),Go.Eng.args_again (by kernel_rfl) (by kernel_rfl) (by kernel_rfl) (by rw [Try.params7];decide+kernel) (by rw [Try.params7];exact hAk) bel,rfl,bel.frame _,λh=>by cases h⟩
end Go.Proofs.Ytilkdjfhbahhdaa.fnOpenedClosed

