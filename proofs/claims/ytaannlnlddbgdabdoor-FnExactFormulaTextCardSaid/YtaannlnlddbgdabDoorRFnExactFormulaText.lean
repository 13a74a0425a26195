/-
  FnExactFormulaText answers true at every input, and the input reads behind the call as it did. No condition.
-/
import Derived.Test.YtaannlnlddbgdabDoorRows
import Derived.Test.YtaannlnlddbgdabDoorSFnExactFormulaText
import Derived.Test.YtaannlnlddbgdabDoorE32
import Derived.WalkKit
import Derived.ProofKit
import Derived.OpenShut
import Derived.ShutString
import Derived.ChangeOld
import Derived.Below
import Derived.SizedLaws
import Derived.Test.YtaannlnlddbgdabDoorE33
import Derived.Test.YtaannlnlddbgdabDoorShelf
import Derived.Test.YtaannlnlddbgdabDoorCards
import Derived.Test.YtaannlnlddbgdabDoorTie
import Derived.SevenTiedAt
import Derived.LaidMore
import Derived.LaidHandle
import Derived.MakeChecks
import Derived.Handed
import Derived.HandedShaped
import Derived.Lay
namespace Go.Proofs.YtaannlnlddbgdabDoor.KFnExactFormulaText
open Go.Eng
set_option linter.unusedVariables false
def shs : List (Bool × List Sh) := [(false, [(.sl 120 [(.i .i64), (.i .i64), (.i .i64), (.i .i64), .s, (.i .i64), (.i .i64), .b, .b, (.i .i64), (.i .i64), .b, .b, (.sl 8 [(.i .i64)])])])]
theorem pure : ∀ xss, okAll shs xss → ∃ n, runs KP lib n 6 (argsOf shs xss) [] = some ⟨.c (.p (.b true)), [], []⟩ := by
  intro xss ho
  obtain ⟨a0, t0, rfl, g0_0, ho0⟩ := okAll_cons ho
  obtain ⟨c0_0, u0_0, rfl, p0, g0_1⟩ := okR_cons g0_0
  obtain ⟨x0, rfl, w0⟩ := okP_sl p0
  obtain rfl := okR_nil g0_1
  obtain rfl := okAll_nil ho0
  obtain ⟨n, hn⟩ := law x0 w0
  exact ⟨n, th_laws_FnExactFormulaText n x0 true (hn n (Nat.le_refl n))⟩
end Go.Proofs.YtaannlnlddbgdabDoor.KFnExactFormulaText
namespace Go.Proofs.YtaannlnlddbgdabDoor.fnExactFormulaText
open Go.ChangeShapes Go.WideShapes Go.ChangeAt Go.RowKit
set_option linter.unusedVariables false
theorem own : ownKnob Tryd.prog.godebug = none := by kernel_rfl
def laid : List (String × DataW Unit) := [("math/bits.deBruijn32tab", Rows.laid_math_bits_deBruijn32tab), ("math/bits.deBruijn64tab", Rows.laid_math_bits_deBruijn64tab), ("internal/strconv.uint64pow10", Rows.laid_internal_strconv_uint64pow10), ("unicode/utf8.acceptRanges", Rows.laid_unicode_utf8_acceptRanges), ("unicode/utf8.first", Rows.laid_unicode_utf8_first)]
theorem plainL {W : World} (h : laidMetH Tryd.prog laid W) : laidMet Tryd.prog laid W := by
  rw [MakeChecks.laidMetH_plain _ _ _ (by kernel_rfl)] at h
  exact h
theorem tabs {W : World} (h0 : laidMetH Tryd.prog laid W) : Lib.TabIs Tryd.prog W "internal/strconv.uint64pow10" .u64 Lib.pow10Tab := by
  have h := plainL h0
  have e : Rows.laid_internal_strconv_uint64pow10 = (Lib.tabData .u64 Lib.pow10Tab : DataW Unit) := by kernel_rfl
  have h2 : laidMet Tryd.prog (("internal/strconv.uint64pow10", Rows.laid_internal_strconv_uint64pow10) :: _) W := h.tail.tail
  rw [e] at h2
  exact Lib.tabIs_of_head (g := 2) (t := 154) (e := 119) (n := 20) (by kernel_rfl) (by kernel_rfl) Tryd.underlying154 Tryd.underlying119 (by kernel_rfl) (by kernel_rfl) h2
theorem extra155 : Builder.Extra Tryd.prog Tryd.lays155_ren where
  sizeBuilder := by kernel_rfl
  liesBuilder := by kernel_rfl
  t5 := Tryd.lays155.t5
  a5 := Tryd.lays155.a5
  z5 := Tryd.lays155.z5
  v5 := Tryd.lays155.v5
  infoByte := by kernel_rfl
  cellsByte := by kernel_rfl
  sizeByte := by kernel_rfl
  neB5 := by decide
theorem extra156 : Builder.Extra Tryd.prog Tryd.lays156_ren where
  sizeBuilder := by kernel_rfl
  liesBuilder := by kernel_rfl
  t5 := Tryd.lays155.t5
  a5 := Tryd.lays155.a5
  z5 := Tryd.lays155.z5
  v5 := Tryd.lays155.v5
  infoByte := by kernel_rfl
  cellsByte := by kernel_rfl
  sizeByte := by kernel_rfl
  neB5 := by decide
set_option maxRecDepth 100000 in
open Go.Eng in
theorem libOk {W : World} (hL : laidMetH Tryd.prog laid W) (hS : W.ShapedOpen Tryd.prog) : LibOK (GOf 8 W) Tryd.prog KFnExactFormulaText.lib :=
  libOK_cons (f := 52) (ok_strconv_FormatInt Tryd.lays173 fun w hw => tab_again (g := 2) (by kernel_rfl) (tabs hL) (gof_of hw (by decide))) (libOK_cons (f := 77) (ok_strings_ReplaceAll { Tryd.lays155 with } extra155 (intCell_of (Tryd.lays155.s1_3 W hS) (by decide))) (libOK_cons (f := 82) (ok_strings_Join Tryd.lays156 extra156) (libOK_nil)))
set_option maxRecDepth 100000 in
theorem lifted (os : Os) (started : os.Started) (H : Type) (enc : TypeId × Value → H) :
    ReturnsInHanded {} Tryd.checked os 6 .any (fun w args => (Rows.fnExactFormulaTextSpec.pre enc Tryd.prog Tryd.f6 [] false w args ∧ laidMetH Tryd.prog laid w) ∧ sizedMet enc Tryd.prog Tryd.f6 (OpenSpec.ofChange Rows.fnExactFormulaTextSpec) false w args) (Rows.fnExactFormulaTextSpec.post enc Tryd.prog Tryd.f6 false true false false) := by
  refine Go.Eng.returnsInHanded_of_change_both (C := Tryd.checked) (X := fun w _ => laidMetH Tryd.prog laid w) (fun _ _ _ hh h => h.of_heap hh) own started (by kernel_rfl) Tryd.func6
    (ChangeSpec.witness_shaped (enc := enc) (C := Tryd.checked) (os := os) (X := fun w _ => laidMetH Tryd.prog laid w) false (World.laidAll Tryd.prog os laid) #[.slice none 0 0] 8 (World.laidAll_os _ _ _) (World.shaped_of_ZipB (by kernel_rfl) (by kernel_rfl)) (by kernel_rfl) (by kernel_rfl) (by kernel_rfl) (by rw [MakeChecks.laidMetH_plain _ _ _ (by kernel_rfl)]; exact laidMet_laidAll _ (by kernel_rfl) (by kernel_rfl))) ?_
  intro W base args ds gs before hval0 hW hcnd hsz0 hL hS _
  have hsz : (DataW.weightsEach Tryd.prog (Tryd.f6.params.toList ++ Rows.fnExactFormulaTextSpec.plain.varTypes Tryd.prog) (ds ++ gs)).all (· ≤ reachBytes) = true := hsz0
  have hval : ∀ (j : Nat) t v, Tryd.f6.params.toList[j]? = some t → args.toList[j]? = some v → Value.okWide Tryd.prog W .any base t v := fun j t v ht hv => hval0 j t v (by simpa using ht) (by simpa using hv)
  have hW' := hW
  obtain ⟨p, q, hA0, hV, rfl, hfz, hnd⟩ := hW
  have hA : DataW.TrodAll enc Tryd.prog W 0 (fun _ => true) true Tryd.f6.params.toList args.toList ds p := hA0
  obtain ⟨rfl, rfl⟩ := trodVars_none hV
  obtain ⟨xss, ho, hr⟩ := Go.Eng.open_args (shs := KFnExactFormulaText.shs) (by kernel_rfl) hA hval hsz
  obtain ⟨n, hn⟩ := KFnExactFormulaText.pure xss ho
  rw [Tryd.params6] at hA
  refine (Go.Eng.law_calls_at (G := Go.Eng.GOf 8 W) KFnExactFormulaText.hK (libOk hL hS) (f := 6) rfl hn hr Go.Eng.gof_self).mono fun e W' ⟨he, bel⟩ => ?_
  subst he
  have hAk := hA
  obtain ⟨v0, vs0, d0, ds0, p0, q0, hargs, rfl, rfl, h0, r0⟩ := trodAll_cons hA
  obtain ⟨rfl, rfl, rfl⟩ := trodAll_nil r0
  exact ⟨_, rfl, _, _, _, [], _, [], hW', trodAll_mk1 (shut_bool Tryd.underlying4 _), Go.Eng.args_again (by kernel_rfl) (by kernel_rfl) (by kernel_rfl) (by rw [Tryd.params6]; decide +kernel) (by rw [Tryd.params6]; exact hAk) bel, rfl, bel.frame _, fun h => by cases h⟩
theorem over : Rows.fnExactFormulaTextRow.holds Tryd.pinned (OpenSpec.ofChange Rows.fnExactFormulaTextSpec) :=
  OpenClaim.holds_of_wide 6 Tryd.f6 rfl rfl rfl rfl rfl rfl rfl ⟨rfl, rfl, rfl, rfl, rfl⟩ rfl rfl rfl rfl rfl (by kernel_rfl) Tryd.func6 (by kernel_rfl)
    (of_decide_eq_true (by kernel_rfl)) (by unfold Func.isWrapper; first | (rw [if_pos (by decide +kernel)]; kernel_rfl) | (rw [if_neg (by decide +kernel)]; exact ⟨rfl, rfl⟩))
    (fun os started H enc _ => lifted os started H enc)
theorem row_holds : Rows.FnExactFormulaTextSaid := over
/-- the tied card -/
theorem card_holds : Rows.FnExactFormulaTextCardSaid :=
  Claim7.holds_tied_plain_at .later [] [.data, .data, .data, .data, .pinned] true (true, "f8bd673494050e0c93e08e1425d605dc2894716255f41570dc49b65cdb7413b2") true
    row_holds (fun _ h => by cases h) (by kernel_rfl) (fun _ h => by cases h) fnExactFormulaText_row_tie rfl ⟨rfl, rfl⟩ (by kernel_rfl) rfl
    (fun f fn hf hfn => by
      obtain rfl : f = 6 := Option.some.inj ((show Tryd.prog.funcNamed "loop.example/g00267/laws.FnExactFormulaText" = some 6 by kernel_rfl).symm.trans hf) |>.symm
      obtain rfl : fn = Tryd.f6 := (Option.some.inj (Tryd.func6.symm.trans hfn)).symm
      exact ⟨by kernel_rfl, fun j t ht => by
        have hm : t ∈ Tryd.f6.params.toList := by simpa using Array.mem_of_getElem? ht
        have hall : (Tryd.f6.params.toList.all fun u => !Tryd.prog.wantsStandIn u) = true := by kernel_rfl
        exact (show Tryd.prog.wantsStandIn t = false by simpa using List.all_eq_true.1 hall t hm)⟩)
    (by kernel_rfl)
#print axioms card_holds
end Go.Proofs.YtaannlnlddbgdabDoor.fnExactFormulaText
namespace Go.Proofs.YtaannlnlddbgdabDoor
/-- The card, under a short name, for the claim. -/
theorem fnExactFormulaText_holds : Rows.FnExactFormulaTextCardSaid := fnExactFormulaText.card_holds
end Go.Proofs.YtaannlnlddbgdabDoor
