import Derived.Test.YthhngmnbcmkhpaaGreatDoorRows
import Derived.Test.YthhngmnbcmkhpaaGreatDoorSFnReadFormula
import Derived.Test.YthhngmnbcmkhpaaGreatDoorE32
import Derived.WalkKit
import Derived.ProofKit
import Derived.OpenShut
import Derived.ShutString
import Derived.ChangeOld
import Derived.Below
import Derived.SizedLaws
import Derived.Test.YthhngmnbcmkhpaaGreatDoorE33
import Derived.Test.YthhngmnbcmkhpaaGreatDoorShelf
import Derived.Test.YthhngmnbcmkhpaaGreatDoorCards
import Derived.Test.YthhngmnbcmkhpaaGreatDoorTie
import Derived.SevenTiedAt
import Derived.LaidMore
import Derived.LaidHandle
import Derived.MakeChecks
import Derived.Handed
import Derived.HandedShaped
import Derived.Lay
namespace Go.Proofs.YthhngmnbcmkhpaaGreatDoor.KFnReadFormula
open Go.Eng
set_option linter.unusedVariables false
def shs:List (Bool×List Sh):= [(false,[(.sl 1 [(.i .u8)])])]
theorem pure:∀xss,zEC shs xss→∃n,zBE KP lib n 4 (zCU shs xss) []=some ⟨.c (.p (.b true)),[],[]⟩:=by
 intro xss ho
 obtain ⟨a0,t0,rfl,g0_0,ho0⟩:=zFu ho
 obtain ⟨c0_0,u0_0,rfl,p0,g0_1⟩:=zFM g0_0
 obtain ⟨x0,rfl,w0⟩:=zJM p0
 obtain rfl:=zGM g0_1
 obtain rfl:=zGp ho0
 obtain ⟨n,hn⟩:=law x0 w0
 exact ⟨n,qHh n x0 true (hn n (Nat.le_refl n))⟩
end Go.Proofs.YthhngmnbcmkhpaaGreatDoor.KFnReadFormula
namespace Go.Proofs.YthhngmnbcmkhpaaGreatDoor.fnReadFormula
open Go.ChangeShapes Go.WideShapes Go.ChangeAt Go.RowKit
set_option linter.unusedVariables false
theorem own:ownKnob Tryz.prog.godebug=none:=by kernel_rfl
def laid : List (String × DataW Unit) := [("math/bits.deBruijn32tab", Rows.laid_math_bits_deBruijn32tab), ("math/bits.deBruijn64tab", Rows.laid_math_bits_deBruijn64tab), ("internal/strconv.uint64pow10", Rows.laid_internal_strconv_uint64pow10), ("unicode/utf8.acceptRanges", Rows.laid_unicode_utf8_acceptRanges), ("strconv.ErrRange", Rows.laid_strconv_ErrRange), ("strconv.ErrSyntax", Rows.laid_strconv_ErrSyntax), ("unicode/utf8.first", Rows.laid_unicode_utf8_first)]
theorem plainL {W:World} (h:laidMetH Tryz.prog laid W):laidMet Tryz.prog laid W:=by
 rw [MakeChecks.laidMetH_plain _ _ _ (by kernel_rfl)] at h
 exact h
theorem tabs {W : World} (h0 : laidMetH Tryz.prog laid W) : Lib.TabIs Tryz.prog W "internal/strconv.uint64pow10" .u64 Lib.pow10Tab := by
 have h:=plainL h0
 have e:Rows.laid_internal_strconv_uint64pow10=(Lib.tabData .u64 Lib.pow10Tab:DataW Unit):=by kernel_rfl
 have h2 : laidMet Tryz.prog (("internal/strconv.uint64pow10", Rows.laid_internal_strconv_uint64pow10) :: _) W := h.tail.tail
 rw [e] at h2
 exact Lib.tabIs_of_head (g:=2) (t:=192) (e:=150) (n:=20) (by kernel_rfl) (by kernel_rfl) Tryz.underlying192 Tryz.underlying150 (by kernel_rfl) (by kernel_rfl) h2
theorem err_ErrRange {W:World} (h0:laidMetH Tryz.prog laid W):Go.Eng.ErrCell (Go.Eng.GOf 8 W) 1:=by
 have h:=plainL h0
 exact Go.Eng.errCell_of (n := "strconv.ErrRange") h.tail.tail.tail.tail (by kernel_rfl) (by kernel_rfl) Tryz.underlying83 (by decide)
theorem err_ErrSyntax {W:World} (h0:laidMetH Tryz.prog laid W):Go.Eng.ErrCell (Go.Eng.GOf 8 W) 0:=by
 have h:=plainL h0
 exact Go.Eng.errCell_of (n := "strconv.ErrSyntax") h.tail.tail.tail.tail.tail (by kernel_rfl) (by kernel_rfl) Tryz.underlying83 (by decide)
theorem extra155:Builder.Extra Tryz.prog Tryz.lays155_ren where
 sizeBuilder:=by kernel_rfl
 liesBuilder:=by kernel_rfl
 t5:=Tryz.lays155.t5
 a5:=Tryz.lays155.a5
 z5:=Tryz.lays155.z5
 v5:=Tryz.lays155.v5
 infoByte:=by kernel_rfl
 cellsByte:=by kernel_rfl
 sizeByte:=by kernel_rfl
 neB5:=by decide
theorem extra156:Builder.Extra Tryz.prog Tryz.lays156_ren where
 sizeBuilder:=by kernel_rfl
 liesBuilder:=by kernel_rfl
 t5:=Tryz.lays155.t5
 a5:=Tryz.lays155.a5
 z5:=Tryz.lays155.z5
 v5:=Tryz.lays155.v5
 infoByte:=by kernel_rfl
 cellsByte:=by kernel_rfl
 sizeByte:=by kernel_rfl
 neB5:=by decide
set_option maxRecDepth 100000 in
open Go.Eng in
theorem libOk {W:World} (hL:laidMetH Tryz.prog laid W) (hS:W.ShapedOpen Tryz.prog):zEB (GOf 8 W) Tryz.prog KFnReadFormula.lib:=
 zAK (f:=59) (zBa Tryz.lays103) (zAK (f:=61) (zBi Tryz.lays174 (err_ErrSyntax hL) (err_ErrRange hL)) (zAK (f:=90) (zBj Tryz.lays161 (by kernel_rfl)) (zAK (f:=101) (zBF {Tryz.lays155 with} extra155 (zDg (Tryz.lays155.s1_3 W hS) (by decide))) (zAK (f:=104) (zCs Tryz.lays156 extra156) (zAK (f:=122) (zBZ Tryz.lays173 fun w hw=>zGs (g:=2) (by kernel_rfl) (tabs hL) (zFv hw (by decide))) (zAK (f:=186) (zDe {Tryz.lays145 with} (zDg (Tryz.lays145.s1_3 W hS) (by decide))) (zGq)))))))
set_option maxRecDepth 100000 in
theorem lifted (os:Os) (started:os.Started) (H:Type) (enc:TypeId×Value→H):
  ReturnsInHanded {} Tryz.checked os 4 .any (fun w args=>(Rows.fnReadFormulaSpec.pre enc Tryz.prog Tryz.f4 [] false w args∧laidMetH Tryz.prog laid w)∧sizedMet enc Tryz.prog Tryz.f4 (OpenSpec.ofChange Rows.fnReadFormulaSpec) false w args) (Rows.fnReadFormulaSpec.post enc Tryz.prog Tryz.f4 false true false false):=by
 refine Go.Eng.returnsInHanded_of_change_both (C:=Tryz.checked) (X:=fun w _=>laidMetH Tryz.prog laid w) (fun _ _ _ hh h=>h.of_heap hh) own started (by kernel_rfl) Tryz.func4
  (ChangeSpec.witness_shaped (enc:=enc) (C:=Tryz.checked) (os:=os) (X:=fun w _=>laidMetH Tryz.prog laid w) false (World.laidAll Tryz.prog os laid) #[.slice none 0 0] 8 (World.laidAll_os _ _ _) (World.shaped_of_ZipB (by kernel_rfl) (by kernel_rfl)) (by kernel_rfl) (by kernel_rfl) (by kernel_rfl) (by rw [MakeChecks.laidMetH_plain _ _ _ (by kernel_rfl)];exact laidMet_laidAll _ (by kernel_rfl) (by kernel_rfl))) ?_
 intro W base args ds gs before hval0 hW hcnd hsz0 hL hS _
 have hsz:(DataW.weightsEach Tryz.prog (Tryz.f4.params.toList++Rows.fnReadFormulaSpec.plain.varTypes Tryz.prog) (ds++gs)).all (· ≤reachBytes)=true:=hsz0
 have hval:∀(j:Nat) t v,Tryz.f4.params.toList[j]?=some t→args.toList[j]?=some v→Value.okWide Tryz.prog W .any base t v:=fun j t v ht hv=>hval0 j t v (by simpa using ht) (by simpa using hv)
 have hW':=hW
 obtain ⟨p,q,hA0,hV,rfl,hfz,hnd⟩:=hW
 have hA:DataW.TrodAll enc Tryz.prog W 0 (fun _=>true) true Tryz.f4.params.toList args.toList ds p:=hA0
 obtain ⟨rfl,rfl⟩:=trodVars_none hV
 obtain ⟨xss,ho,hr⟩:=Go.Eng.open_args (shs:=KFnReadFormula.shs) (by kernel_rfl) hA hval hsz
 obtain ⟨n,hn⟩:=KFnReadFormula.pure xss ho
 rw [Tryz.params4] at hA
 refine (Go.Eng.law_calls_at (G:=Go.Eng.GOf 8 W) KFnReadFormula.hK (libOk hL hS) (f:=4) rfl hn hr Go.Eng.gof_self).mono fun e W' ⟨he,bel⟩=>?_
 subst he
 have hAk:=hA
 obtain ⟨v0,vs0,d0,ds0,p0,q0,hargs,rfl,rfl,h0,r0⟩:=trodAll_cons hA
 obtain ⟨rfl,rfl,rfl⟩:=trodAll_nil r0
 exact ⟨_,rfl,_,_,_,[],_,[],hW',trodAll_mk1 (shut_bool Tryz.underlying4 _),Go.Eng.args_again (by kernel_rfl) (by kernel_rfl) (by kernel_rfl) (by rw [Tryz.params4];decide+kernel) (by rw [Tryz.params4];exact hAk) bel,rfl,bel.frame _,fun h=>by cases h⟩
theorem over:Rows.fnReadFormulaRow.holds Tryz.pinned (OpenSpec.ofChange Rows.fnReadFormulaSpec):=
 OpenClaim.holds_of_wide 4 Tryz.f4 rfl rfl rfl rfl rfl rfl rfl ⟨rfl,rfl,rfl,rfl,rfl⟩ rfl rfl rfl rfl rfl (by kernel_rfl) Tryz.func4 (by kernel_rfl)
  (of_decide_eq_true (by kernel_rfl)) (by unfold Func.isWrapper;first|(rw [if_pos (by decide+kernel)];kernel_rfl)|(rw [if_neg (by decide+kernel)];exact ⟨rfl,rfl⟩))
  (fun os started H enc _=>lifted os started H enc)
theorem row_holds:Rows.FnReadFormulaSaid:=over
theorem card_holds:Rows.FnReadFormulaCardSaid:=
 Claim7.holds_tied_plain_at .later [] [.data, .data, .data, .data, .sentinel, .sentinel, .pinned] true (true, "56dc66f1c71abd78c958039848380bf8310ab7f35dc7eb253ce919278551b811") true
  row_holds (fun _ h=>by cases h) (by kernel_rfl) (fun _ h=>by cases h) fnReadFormula_row_tie rfl ⟨rfl,rfl⟩ (by kernel_rfl) rfl
  (fun f fn hf hfn=>by
   obtain rfl : f = 4 := Option.some.inj ((show Tryz.prog.funcNamed "loop.example/g00267/laws.FnReadFormula" = some 4 by kernel_rfl).symm.trans hf) |>.symm
   obtain rfl:fn=Tryz.f4:=(Option.some.inj (Tryz.func4.symm.trans hfn)).symm
   exact ⟨by kernel_rfl,fun j t ht=>by
    have hm:t∈Tryz.f4.params.toList:=by simpa using Array.mem_of_getElem? ht
    have hall:(Tryz.f4.params.toList.all fun u=>!Tryz.prog.wantsStandIn u)=true:=by kernel_rfl
    exact (show Tryz.prog.wantsStandIn t=false by simpa using List.all_eq_true.1 hall t hm)⟩)
  (by kernel_rfl)
#print axioms card_holds
end Go.Proofs.YthhngmnbcmkhpaaGreatDoor.fnReadFormula
namespace Go.Proofs.YthhngmnbcmkhpaaGreatDoor
theorem fnReadFormula_holds:Rows.FnReadFormulaCardSaid:=fnReadFormula.card_holds
end Go.Proofs.YthhngmnbcmkhpaaGreatDoor

