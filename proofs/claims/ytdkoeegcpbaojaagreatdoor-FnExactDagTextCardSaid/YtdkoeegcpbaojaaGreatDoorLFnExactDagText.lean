import Derived.Test.YtdkoeegcpbaojaaGreatDoorRows
import Derived.Test.YtdkoeegcpbaojaaGreatDoorSFnExactDagText
import Derived.Test.YtdkoeegcpbaojaaGreatDoorE32
import Derived.Test.YtdkoeegcpbaojaaGreatDoorE34
import Derived.WalkKit
import Derived.ProofKit
import Derived.OpenShut
import Derived.ShutString
import Derived.ChangeOld
import Derived.Below
import Derived.SizedLaws
import Derived.Test.YtdkoeegcpbaojaaGreatDoorE33
import Derived.Test.YtdkoeegcpbaojaaGreatDoorShelf
import Derived.Test.YtdkoeegcpbaojaaGreatDoorCards
import Derived.Test.YtdkoeegcpbaojaaGreatDoorTie
import Derived.SevenTiedAt
import Derived.LaidMore
import Derived.LaidHandle
import Derived.MakeChecks
import Derived.Handed
import Derived.HandedShaped
import Derived.Lay
namespace Go.Proofs.YtdkoeegcpbaojaaGreatDoor.KFnExactDagText
open Go.Eng
set_option linter.unusedVariables false
def shs:List (Bool×List Sh):= [(true,[(.i .i64),(.sl 56 [(.i .i64),(.sl 8 [(.i .i64)]),(.sl 32 [(.i .i64),(.i .i64),.s])]),(.sl 24 [.s,(.i .i64)])])]
theorem pure:∀xss,zFN shs xss→∃n,zBg KP lib n 6 (zDG shs xss) []=some ⟨.c (.p (.b true)),[],[]⟩:=by
 intro xss ho
 obtain ⟨a0,t0,rfl,g0_0,ho0⟩:=zHJ ho
 obtain ⟨c0_0,u0_0,rfl,p0,g0_1⟩:=zAU g0_0
 obtain ⟨x0,rfl,w0⟩:=zFW p0
 obtain ⟨c0_1,u0_1,rfl,p1,g0_2⟩:=zAU g0_1
 obtain ⟨x1,rfl,w1⟩:=zFw p1
 obtain ⟨c0_2,u0_2,rfl,p2,g0_3⟩:=zAU g0_2
 obtain ⟨x2,rfl,w2⟩:=zFw p2
 obtain rfl:=zC2 g0_3
 obtain rfl:=zIN ho0
 obtain ⟨n,hn⟩:=law x0 x1 x2 w0 w1 w2
 exact ⟨n,qJj n (x0,x1,x2) true (hn n (Nat.le_refl n))⟩
end Go.Proofs.YtdkoeegcpbaojaaGreatDoor.KFnExactDagText
namespace Go.Proofs.YtdkoeegcpbaojaaGreatDoor.fnExactDagText
open Go.ChangeShapes Go.WideShapes Go.ChangeAt Go.RowKit
set_option linter.unusedVariables false
theorem own:ownKnob Tryz.prog.godebug=none:=by kernel_rfl
def laid : List (String × DataW Unit) := [("math/bits.deBruijn32tab", Rows.laid_math_bits_deBruijn32tab), ("math/bits.deBruijn64tab", Rows.laid_math_bits_deBruijn64tab), ("internal/strconv.uint64pow10", Rows.laid_internal_strconv_uint64pow10), ("unicode/utf8.acceptRanges", Rows.laid_unicode_utf8_acceptRanges), ("strconv.ErrRange", Rows.laid_strconv_ErrRange), ("strconv.ErrSyntax", Rows.laid_strconv_ErrSyntax), ("unicode/utf8.first", Rows.laid_unicode_utf8_first)]
theorem plainL {W:World} (h:laidMetH Tryz.prog laid W):laidMet Tryz.prog laid W:=by
 rw [MakeChecks.laidMetH_plain _ _ _ (by kernel_rfl)] at h
 exact h
theorem tabs {W : World} (h0 : laidMetH Tryz.prog laid W) : Lib.TabIs Tryz.prog W "internal/strconv.uint64pow10" .u64 Lib.pow10Tab := by
 have h:=plainL h0
 have e:Rows.laid_internal_strconv_uint64pow10=(Lib.tabData .u64 Lib.pow10Tab:DataW Unit):=by kernel_rfl
 have h2 : laidMet Tryz.prog (("internal/strconv.uint64pow10", Rows.laid_internal_strconv_uint64pow10) :: _) W := h.tail.tail
 rw [e] at h2
 exact Lib.tabIs_of_head (g:=3) (t:=307) (e:=226) (n:=20) (by kernel_rfl) (by kernel_rfl) Tryz.underlying307 Tryz.underlying226 (by kernel_rfl) (by kernel_rfl) h2
theorem err_ErrRange {W:World} (h0:laidMetH Tryz.prog laid W):Go.Eng.ErrCell (Go.Eng.GOf 8 W) 1:=by
 have h:=plainL h0
 exact Go.Eng.errCell_of (n := "strconv.ErrRange") h.tail.tail.tail.tail (by kernel_rfl) (by kernel_rfl) Tryz.underlying102 (by decide)
theorem err_ErrSyntax {W:World} (h0:laidMetH Tryz.prog laid W):Go.Eng.ErrCell (Go.Eng.GOf 8 W) 0:=by
 have h:=plainL h0
 exact Go.Eng.errCell_of (n := "strconv.ErrSyntax") h.tail.tail.tail.tail.tail (by kernel_rfl) (by kernel_rfl) Tryz.underlying102 (by decide)
theorem extra155:Builder.Extra Tryz.prog Tryz.lays155_ren where
 sizeBuilder:=by kernel_rfl
 liesBuilder:=by kernel_rfl
 t5:=Tryz.lays155.t5
 a5:=Tryz.lays155.a5
 z5:=Tryz.lays155.z5
 v5:=Tryz.lays155.v5
 infoByte:=by kernel_rfl
 cellsByte:=by kernel_rfl
 sizeByte:=by kernel_rfl
 neB5:=by decide
theorem extra156:Builder.Extra Tryz.prog Tryz.lays156_ren where
 sizeBuilder:=by kernel_rfl
 liesBuilder:=by kernel_rfl
 t5:=Tryz.lays155.t5
 a5:=Tryz.lays155.a5
 z5:=Tryz.lays155.z5
 v5:=Tryz.lays155.v5
 infoByte:=by kernel_rfl
 cellsByte:=by kernel_rfl
 sizeByte:=by kernel_rfl
 neB5:=by decide
set_option maxRecDepth 100000 in
open Go.Eng in
theorem libOk {W:World} (hL:laidMetH Tryz.prog laid W) (hS:W.ShapedOpen Tryz.prog):zDe (GOf 8 W) Tryz.prog KFnExactDagText.lib:=
 zAa (f:=70) (zCC Tryz.lays103) (zAa (f:=73) (zCK Tryz.lays174 (err_ErrSyntax hL) (err_ErrRange hL)) (zAa (f:=101) (zEk {Tryz.lays145 with} (zEm (Tryz.lays145.s1_3 W hS) (by decide))) (zAa (f:=145) (zDl Tryz.lays160 (by kernel_rfl)) (zAa (f:=146) (zCB Tryz.lays173 fun w hw=>zIQ (g:=3) (by kernel_rfl) (tabs hL) (zHL hw (by decide))) (zDj (f:=165) (zA0 {Tryz.lays156 with} extra156) (zDj (f:=167) (zBN {Tryz.lays156 with} extra156) (zAa (f:=206) (zCL Tryz.lays161 (by kernel_rfl)) (zAa (f:=263) (zBr {Tryz.lays155 with} extra155 (zEm (Tryz.lays155.s1_3 W hS) (by decide))) (zAa (f:=265) (zDm Tryz.lays156 extra156) (zIO))))))))))
set_option maxRecDepth 100000 in
theorem lifted (os:Os) (started:os.Started) (H:Type) (enc:TypeId×Value→H):
  ReturnsInHanded {} Tryz.checked os 6 .any (fun w args=>(Rows.fnExactDagTextSpec.pre enc Tryz.prog Tryz.f6 [] false w args∧laidMetH Tryz.prog laid w)∧sizedMet enc Tryz.prog Tryz.f6 (OpenSpec.ofChange Rows.fnExactDagTextSpec) false w args) (Rows.fnExactDagTextSpec.post enc Tryz.prog Tryz.f6 false true false false):=by
 refine Go.Eng.returnsInHanded_of_change_both (C:=Tryz.checked) (X:=fun w _=>laidMetH Tryz.prog laid w) (fun _ _ _ hh h=>h.of_heap hh) own started (by kernel_rfl) Tryz.func6
  (ChangeSpec.witness_shaped (enc:=enc) (C:=Tryz.checked) (os:=os) (X:=fun w _=>laidMetH Tryz.prog laid w) false (World.laidAll Tryz.prog os laid) #[.agg #[.int .i64 0,.slice none 0 0,.slice none 0 0]] 8 (World.laidAll_os _ _ _) (World.shaped_of_ZipB (by kernel_rfl) (by kernel_rfl)) (by kernel_rfl) (by kernel_rfl) (by kernel_rfl) (by rw [MakeChecks.laidMetH_plain _ _ _ (by kernel_rfl)];exact laidMet_laidAll _ (by kernel_rfl) (by kernel_rfl))) ?_
 intro W base args ds gs before hval0 hW hcnd hsz0 hL hS _
 have hsz:(DataW.weightsEach Tryz.prog (Tryz.f6.params.toList++Rows.fnExactDagTextSpec.plain.varTypes Tryz.prog) (ds++gs)).all (· ≤reachBytes)=true:=hsz0
 have hval:∀(j:Nat) t v,Tryz.f6.params.toList[j]?=some t→args.toList[j]?=some v→Value.okWide Tryz.prog W .any base t v:=fun j t v ht hv=>hval0 j t v (by simpa using ht) (by simpa using hv)
 have hW':=hW
 obtain ⟨p,q,hA0,hV,rfl,hfz,hnd⟩:=hW
 have hA:DataW.TrodAll enc Tryz.prog W 0 (fun _=>true) true Tryz.f6.params.toList args.toList ds p:=hA0
 obtain ⟨rfl,rfl⟩:=trodVars_none hV
 obtain ⟨xss,ho,hr⟩:=Go.Eng.open_args (shs:=KFnExactDagText.shs) (by kernel_rfl) hA hval hsz
 obtain ⟨n,hn⟩:=KFnExactDagText.pure xss ho
 rw [Tryz.params6] at hA
 refine (Go.Eng.law_calls_at (G:=Go.Eng.GOf 8 W) KFnExactDagText.hK (libOk hL hS) (f:=6) (by kernel_rfl) hn hr Go.Eng.gof_self).mono fun e W' ⟨he,bel⟩=>?_
 subst he
 have hAk:=hA
 obtain ⟨v0,vs0,d0,ds0,p0,q0,hargs,rfl,rfl,h0,r0⟩:=trodAll_cons hA
 obtain ⟨rfl,rfl,rfl⟩:=trodAll_nil r0
 exact ⟨_,rfl,_,_,_,[],_,[],hW',trodAll_mk1 (shut_bool Tryz.underlying4 _),Go.Eng.args_again (by kernel_rfl) (by kernel_rfl) (by kernel_rfl) (by rw [Tryz.params6];decide+kernel) (by rw [Tryz.params6];exact hAk) bel,rfl,bel.frame _,fun h=>by cases h⟩
end Go.Proofs.YtdkoeegcpbaojaaGreatDoor.fnExactDagText

