import Derived.Test.YtilkdjfhbahhdaaRows
import Derived.Test.YtilkdjfhbahhdaaSFnExactClosed
import Derived.Test.YtilkdjfhbahhdaaE34
import Derived.Test.YtilkdjfhbahhdaaE34
import Derived.WalkKit
import Derived.ProofKit
import Derived.OpenShut
import Derived.ShutString
import Derived.ChangeOld
import Derived.Below
import Derived.SizedLaws
namespace Go.Proofs.Ytilkdjfhbahhdaa.KFnExactClosed
open Go.Eng
set_option linter.unusedVariables false
def shs:List (Bool×List Sh):= [(false,[(.sl 120 [(.i .i64),(.i .i64),(.i .i64),(.i .i64),.s,(.i .i64),(.i .i64),.b,.b,(.i .i64),(.i .i64),.b,.b,(.sl 8 [(.i .i64)])])]),(false,[(.i .i64)]),(false,[(.i .i64)])]
theorem pure:∀xss,nP shs xss->∃n,fH KP lib n 6 (iM shs xss) []=some ⟨.c (.p (.b true)),[],[]⟩:=by
 intro xss ho;obtain ⟨a0,t0,rfl,g0_0,ho0⟩:=fV ho;obtain ⟨c0_0,u0_0,rfl,p0,g0_1⟩:=zh g0_0;obtain ⟨x0,rfl,w0⟩:=AX p0;obtain rfl:=hI g0_1;obtain ⟨a1,t1,rfl,g1_0,ho1⟩:=fV ho0;obtain ⟨c1_0,u1_0,rfl,p1,g1_1⟩:=zh g1_0;obtain ⟨x1,rfl,w1⟩:=eH p1;obtain rfl:=hI g1_1;obtain ⟨a2,t2,rfl,g2_0,ho2⟩:=fV ho1;obtain ⟨c2_0,u2_0,rfl,p2,g2_1⟩:=zh g2_0;obtain ⟨x2,rfl,w2⟩:=eH p2;obtain rfl:=hI g2_1;obtain rfl:=wH ho2;obtain ⟨n,hn⟩:=law x0 x1 x2 w0 w1 w2;exact ⟨n,F3 n (x0,x1,x2) true (hn n (Nat.le_refl n))⟩
end Go.Proofs.Ytilkdjfhbahhdaa.KFnExactClosed
namespace Go.Proofs.Ytilkdjfhbahhdaa.fnExactClosed
open Go.ChangeShapes Go.WideShapes Go.ChangeAt Go.RowKit
set_option linter.unusedVariables false
theorem own:ownKnob Try.prog.godebug=none:=by kernel_rfl
set_option maxRecDepth 100000 in
theorem lifted (os:Os) (started:os.Started) (H:Type) (enc:TypeId×Value->H):
  ReturnsInHanded {} Try.checked os 6 .any (Rows.fnExactClosedSpec.pre6 enc Try.prog Try.f6 Rows.fnExactClosedRow.domain false) (Rows.fnExactClosedSpec.post enc Try.prog Try.f6 false true false false):=by
 refine returnsInHanded_of_change_sized (C:=Try.checked) own started (by kernel_rfl) Try.func6
  (ChangeSpec.witness6 (enc:=enc) (C:=Try.checked) false ⟨#[], #[.slice none 0 0,.int .i64 0,.int .i64 0],[]⟩ 8 (by kernel_rfl) (by kernel_rfl) (by kernel_rfl) (by kernel_rfl)) ?_
 intro W base args ds gs before hval0 hW hcnd hsz0 _;have hsz:(DataW.weightsEach Try.prog (Try.f6.params.toList++Rows.fnExactClosedSpec.plain.varTypes Try.prog) (ds++gs)).all (· <=reachBytes)=true:=hsz0;have hval:∀(j:Nat) t v,Try.f6.params.toList[j]?=some t->args.toList[j]?=some v->Value.okWide Try.prog W .any base t v:=λj t v ht hv=>hval0 j t v (by simpa using ht) (by simpa using hv)
 have hW':=hW;obtain ⟨p,q,hA0,hV,rfl,hfz,hnd⟩:=hW;have hA:DataW.TrodAll enc Try.prog W 0 (λ_=>true) true Try.f6.params.toList args.toList ds p:=hA0;obtain ⟨rfl,rfl⟩:=trodVars_none hV;obtain ⟨xss,ho,hr⟩:=Go.Eng.open_args (shs:=KFnExactClosed.shs) (by kernel_rfl) hA hval hsz;obtain ⟨n,hn⟩:=KFnExactClosed.pure xss ho;rw [Try.params6] at hA;refine (Go.Eng.law_calls KFnExactClosed.hK (Go.Eng.lib_none λ_ _ _=>rfl) (f:=6) (by kernel_rfl) hn hr).mono λe W' ⟨he,bel⟩=>?_
 subst he;have hAk:=hA;obtain ⟨v0,vs0,d0,ds0,p0,q0,hargs,rfl,rfl,h0,r0⟩:=trodAll_cons hA;obtain ⟨v1,vs1,d1,ds1,p1,q1,rfl,rfl,rfl,h1,r1⟩:=trodAll_cons r0;obtain ⟨v2,vs2,d2,ds2,p2,q2,rfl,rfl,rfl,h2,r2⟩:=trodAll_cons r1;obtain ⟨rfl,rfl,rfl⟩:=trodAll_nil r2;exact ⟨_,rfl,_,_,_,[],_,[],hW',trodAll_mk1 (shut_bool Try.underlying4 _),Go.Eng.args_again (by kernel_rfl) (by kernel_rfl) (by kernel_rfl) (by rw [Try.params6];decide+kernel) (by rw [Try.params6];exact hAk) bel,rfl,bel.frame _,λh=>by cases h⟩
end Go.Proofs.Ytilkdjfhbahhdaa.fnExactClosed

