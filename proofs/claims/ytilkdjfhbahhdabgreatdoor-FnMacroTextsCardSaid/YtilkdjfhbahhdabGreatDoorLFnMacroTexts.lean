import Derived.Test.YtilkdjfhbahhdabGreatDoorRows
import Derived.Test.YtilkdjfhbahhdabGreatDoorSFnMacroTexts
import Derived.Test.YtilkdjfhbahhdabGreatDoorE32
import Derived.Test.YtilkdjfhbahhdabGreatDoorE35
import Derived.WalkKit
import Derived.ProofKit
import Derived.OpenShut
import Derived.ShutString
import Derived.ChangeOld
import Derived.Below
import Derived.SizedLaws
import Derived.Test.YtilkdjfhbahhdabGreatDoorE35
import Derived.Test.YtilkdjfhbahhdabGreatDoorShelf
import Derived.Test.YtilkdjfhbahhdabGreatDoorCards
import Derived.Test.YtilkdjfhbahhdabGreatDoorTie
import Derived.SevenTiedAt
import Derived.LaidMore
import Derived.LaidHandle
import Derived.MakeChecks
import Derived.Handed
import Derived.HandedShaped
import Derived.Lay
namespace Go.Proofs.YtilkdjfhbahhdabGreatDoor.KFnMacroTexts
open Go.Eng
set_option linter.unusedVariables false
def shs:List (Bool×List Sh):= [(false,[(.sl 1 [(.i .u8)])])]
theorem pure:∀xss,pW shs xss->∃n,fC KP lib n 3 (kO shs xss) []=some ⟨.c (.p (.b true)),[],[]⟩:=by
 intro xss ho;obtain ⟨a0,t0,rfl,g0_0,ho0⟩:=vT ho;obtain ⟨c0_0,u0_0,rfl,p0,g0_1⟩:=tY g0_0;obtain ⟨x0,rfl,w0⟩:=Da p0;obtain rfl:=xM g0_1;obtain rfl:=yZ ho0;obtain ⟨n,hn⟩:=law x0 w0;exact ⟨n,Qe n x0 true (hn n (Nat.le_refl n))⟩
end Go.Proofs.YtilkdjfhbahhdabGreatDoor.KFnMacroTexts
namespace Go.Proofs.YtilkdjfhbahhdabGreatDoor.fnMacroTexts
open Go.ChangeShapes Go.WideShapes Go.ChangeAt Go.RowKit
set_option linter.unusedVariables false
theorem own:ownKnob Tryz.prog.godebug=none:=by kernel_rfl
def laid : List (String × DataW Unit) := [("math/bits.deBruijn32tab", Rows.laid_math_bits_deBruijn32tab), ("math/bits.deBruijn64tab", Rows.laid_math_bits_deBruijn64tab), ("internal/strconv.uint64pow10", Rows.laid_internal_strconv_uint64pow10), ("unicode/utf8.acceptRanges", Rows.laid_unicode_utf8_acceptRanges), ("strconv.ErrRange", Rows.laid_strconv_ErrRange), ("strconv.ErrSyntax", Rows.laid_strconv_ErrSyntax), ("unicode/utf8.first", Rows.laid_unicode_utf8_first)]
theorem mL {W:World} (h:laidMetH Tryz.prog laid W):laidMet Tryz.prog laid W:=by
 rw [MakeChecks.laidMetH_plain _ _ _ (by kernel_rfl)] at h;exact h
theorem tabs {W : World} (h0 : laidMetH Tryz.prog laid W) : Lib.TabIs Tryz.prog W "internal/strconv.uint64pow10" .u64 Lib.pow10Tab := by
 have h:=mL h0;have e:Rows.laid_internal_strconv_uint64pow10=(Lib.tabData .u64 Lib.pow10Tab:DataW Unit):=by kernel_rfl
 have h2 : laidMet Tryz.prog (("internal/strconv.uint64pow10", Rows.laid_internal_strconv_uint64pow10) :: _) W := h.tail.tail;rw [e] at h2;exact Lib.tabIs_of_head (g:=3) (t:=316) (e:=242) (n:=20) (by kernel_rfl) (by kernel_rfl) Tryz.underlying316 Tryz.underlying242 (by kernel_rfl) (by kernel_rfl) h2
theorem err_ErrRange {W:World} (h0:laidMetH Tryz.prog laid W):Go.Eng.ErrCell (Go.Eng.GOf 8 W) 2:=by
 have h:=mL h0;exact Go.Eng.errCell_of (n := "strconv.ErrRange") h.tail.tail.tail.tail (by kernel_rfl) (by kernel_rfl) Tryz.underlying139 (by decide)
theorem err_ErrSyntax {W:World} (h0:laidMetH Tryz.prog laid W):Go.Eng.ErrCell (Go.Eng.GOf 8 W) 1:=by
 have h:=mL h0;exact Go.Eng.errCell_of (n := "strconv.ErrSyntax") h.tail.tail.tail.tail.tail (by kernel_rfl) (by kernel_rfl) Tryz.underlying139 (by decide)
theorem extra155:Builder.Extra Tryz.prog Tryz.lays155_ren where
 sizeBuilder:=by kernel_rfl
 liesBuilder:=by kernel_rfl
 t5:=Tryz.lays155.t5
 a5:=Tryz.lays155.a5
 z5:=Tryz.lays155.z5
 v5:=Tryz.lays155.v5
 infoByte:=by kernel_rfl
 cellsByte:=by kernel_rfl
 sizeByte:=by kernel_rfl
 neB5:=by decide
theorem extra156:Builder.Extra Tryz.prog Tryz.lays156_ren where
 sizeBuilder:=by kernel_rfl
 liesBuilder:=by kernel_rfl
 t5:=Tryz.lays155.t5
 a5:=Tryz.lays155.a5
 z5:=Tryz.lays155.z5
 v5:=Tryz.lays155.v5
 infoByte:=by kernel_rfl
 cellsByte:=by kernel_rfl
 sizeByte:=by kernel_rfl
 neB5:=by decide
set_option maxRecDepth 100000 in
open Go.Eng in
theorem libOk {W:World} (hL:laidMetH Tryz.prog laid W) (hS:W.ShapedOpen Tryz.prog):lJ (GOf 8 W) Tryz.prog KFnMacroTexts.lib:=
 bO (f:=57) (jU {Tryz.lays147 with} (by kernel_rfl) (iS (Tryz.lays147.s1_3 W hS) (by decide))) (bO (f:=58) (oH {Tryz.lays145 with} (iS (Tryz.lays145.s1_3 W hS) (by decide))) (bO (f:=99) (gM Tryz.lays103) (bO (f:=102) (hH Tryz.lays174 (err_ErrSyntax hL) (err_ErrRange hL)) (lO (f:=134) (dG {Tryz.lays156 with} extra156) (lO (f:=136) (eG {Tryz.lays156 with} extra156) (bO (f:=177) (lS Tryz.lays160 (by kernel_rfl)) (bO (f:=178) (gL Tryz.lays173 λw hw=>AC (g:=3) (by kernel_rfl) (tabs hL) (vV hw (by decide))) (bO (f:=208) (hI Tryz.lays161 (by kernel_rfl)) (bO (f:=282) (fS {Tryz.lays155 with} extra155 (iS (Tryz.lays155.s1_3 W hS) (by decide))) (bO (f:=284) (lT Tryz.lays156 extra156) (AA)))))))))))
set_option maxRecDepth 100000 in
theorem lifted (os:Os) (started:os.Started) (H:Type) (enc:TypeId×Value->H):
  ReturnsInHanded {} Tryz.checked os 3 .any (λw args=>(Rows.fnMacroTextsSpec.pre enc Tryz.prog Tryz.f3 [] false w args/\laidMetH Tryz.prog laid w)/\sizedMet enc Tryz.prog Tryz.f3 (OpenSpec.ofChange Rows.fnMacroTextsSpec) false w args) (Rows.fnMacroTextsSpec.post enc Tryz.prog Tryz.f3 false true false false):=by
 refine Go.Eng.returnsInHanded_of_change_both (C:=Tryz.checked) (X:=λw _=>laidMetH Tryz.prog laid w) (λ_ _ _ hh h=>h.of_heap hh) own started (by kernel_rfl) Tryz.func3
  (ChangeSpec.witness_shaped (enc:=enc) (C:=Tryz.checked) (os:=os) (X:=λw _=>laidMetH Tryz.prog laid w) false (World.laidAll Tryz.prog os laid) #[.slice none 0 0] 8 (World.laidAll_os _ _ _) (World.shaped_of_ZipB (by kernel_rfl) (by kernel_rfl)) (by kernel_rfl) (by kernel_rfl) (by kernel_rfl) (by rw [MakeChecks.laidMetH_plain _ _ _ (by kernel_rfl)];exact laidMet_laidAll _ (by kernel_rfl) (by kernel_rfl))) ?_
 intro W base args ds gs before hval0 hW hcnd hsz0 hL hS _;have hsz:(DataW.weightsEach Tryz.prog (Tryz.f3.params.toList++Rows.fnMacroTextsSpec.plain.varTypes Tryz.prog) (ds++gs)).all (· <=reachBytes)=true:=hsz0;have hval:∀(j:Nat) t v,Tryz.f3.params.toList[j]?=some t->args.toList[j]?=some v->Value.okWide Tryz.prog W .any base t v:=λj t v ht hv=>hval0 j t v (by simpa using ht) (by simpa using hv)
 have hW':=hW;obtain ⟨p,q,hA0,hV,rfl,hfz,hnd⟩:=hW;have hA:DataW.TrodAll enc Tryz.prog W 0 (λ_=>true) true Tryz.f3.params.toList args.toList ds p:=hA0;obtain ⟨rfl,rfl⟩:=trodVars_none hV;obtain ⟨xss,ho,hr⟩:=Go.Eng.open_args (shs:=KFnMacroTexts.shs) (by kernel_rfl) hA hval hsz;obtain ⟨n,hn⟩:=KFnMacroTexts.pure xss ho;rw [Tryz.params3] at hA;refine (Go.Eng.law_calls_at (G:=Go.Eng.GOf 8 W) KFnMacroTexts.hK (libOk hL hS) (f:=3) (by kernel_rfl) hn hr Go.Eng.gof_self).mono λe W' ⟨he,bel⟩=>?_
 subst he;have hAk:=hA;obtain ⟨v0,vs0,d0,ds0,p0,q0,hargs,rfl,rfl,h0,r0⟩:=trodAll_cons hA;obtain ⟨rfl,rfl,rfl⟩:=trodAll_nil r0;exact ⟨_,rfl,_,_,_,[],_,[],hW',trodAll_mk1 (shut_bool Tryz.underlying4 _),Go.Eng.args_again (by kernel_rfl) (by kernel_rfl) (by kernel_rfl) (by rw [Tryz.params3];decide+kernel) (by rw [Tryz.params3];exact hAk) bel,rfl,bel.frame _,λh=>by cases h⟩
end Go.Proofs.YtilkdjfhbahhdabGreatDoor.fnMacroTexts

