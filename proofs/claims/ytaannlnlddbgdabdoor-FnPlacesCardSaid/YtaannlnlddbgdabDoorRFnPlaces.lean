/-
  FnPlaces answers true at every input, and the input reads behind the call as it did. No condition.
-/
import Derived.Test.YtaannlnlddbgdabDoorRows
import Derived.Test.YtaannlnlddbgdabDoorSFnPlaces
import Derived.Test.YtaannlnlddbgdabDoorE32
import Derived.WalkKit
import Derived.ProofKit
import Derived.OpenShut
import Derived.ShutString
import Derived.ChangeOld
import Derived.Below
import Derived.SizedLaws
import Derived.Test.YtaannlnlddbgdabDoorE33
import Derived.Test.YtaannlnlddbgdabDoorShelf
import Derived.Test.YtaannlnlddbgdabDoorCards
import Derived.Test.YtaannlnlddbgdabDoorTie
import Derived.SevenTiedAt
import Derived.LaidMore
import Derived.LaidHandle
import Derived.MakeChecks
import Derived.Handed
import Derived.HandedShaped
import Derived.Lay
namespace Go.Proofs.YtaannlnlddbgdabDoor.KFnPlaces
open Go.Eng
set_option linter.unusedVariables false
def shs : List (Bool × List Sh) := [(false, [(.sl 1 [(.i .u8)])])]
theorem pure : ∀ xss, okAll shs xss → ∃ n, runs KP lib n 5 (argsOf shs xss) [] = some ⟨.c (.p (.b true)), [], []⟩ := by
  intro xss ho
  obtain ⟨a0, t0, rfl, g0_0, ho0⟩ := okAll_cons ho
  obtain ⟨c0_0, u0_0, rfl, p0, g0_1⟩ := okR_cons g0_0
  obtain ⟨x0, rfl, w0⟩ := okP_sl p0
  obtain rfl := okR_nil g0_1
  obtain rfl := okAll_nil ho0
  obtain ⟨n, hn⟩ := law x0 w0
  exact ⟨n, th_laws_FnPlaces n x0 true (hn n (Nat.le_refl n))⟩
end Go.Proofs.YtaannlnlddbgdabDoor.KFnPlaces
namespace Go.Proofs.YtaannlnlddbgdabDoor.fnPlaces
open Go.ChangeShapes Go.WideShapes Go.ChangeAt Go.RowKit
set_option linter.unusedVariables false
theorem own : ownKnob Tryd.prog.godebug = none := by kernel_rfl
def laid : List (String × DataW Unit) := [("math/bits.deBruijn32tab", Rows.laid_math_bits_deBruijn32tab), ("math/bits.deBruijn64tab", Rows.laid_math_bits_deBruijn64tab), ("internal/strconv.uint64pow10", Rows.laid_internal_strconv_uint64pow10), ("unicode/utf8.acceptRanges", Rows.laid_unicode_utf8_acceptRanges), ("strconv.ErrRange", Rows.laid_strconv_ErrRange), ("strconv.ErrSyntax", Rows.laid_strconv_ErrSyntax), ("unicode/utf8.first", Rows.laid_unicode_utf8_first)]
theorem plainL {W : World} (h : laidMetH Tryd.prog laid W) : laidMet Tryd.prog laid W := by
  rw [MakeChecks.laidMetH_plain _ _ _ (by kernel_rfl)] at h
  exact h
theorem tabs {W : World} (h0 : laidMetH Tryd.prog laid W) : Lib.TabIs Tryd.prog W "internal/strconv.uint64pow10" .u64 Lib.pow10Tab := by
  have h := plainL h0
  have e : Rows.laid_internal_strconv_uint64pow10 = (Lib.tabData .u64 Lib.pow10Tab : DataW Unit) := by kernel_rfl
  have h2 : laidMet Tryd.prog (("internal/strconv.uint64pow10", Rows.laid_internal_strconv_uint64pow10) :: _) W := h.tail.tail
  rw [e] at h2
  exact Lib.tabIs_of_head (g := 2) (t := 154) (e := 119) (n := 20) (by kernel_rfl) (by kernel_rfl) Tryd.underlying154 Tryd.underlying119 (by kernel_rfl) (by kernel_rfl) h2
theorem err_ErrRange {W : World} (h0 : laidMetH Tryd.prog laid W) : Go.Eng.ErrCell (Go.Eng.GOf 8 W) 1 := by
  have h := plainL h0
  exact Go.Eng.errCell_of (n := "strconv.ErrRange") h.tail.tail.tail.tail (by kernel_rfl) (by kernel_rfl) Tryd.underlying58 (by decide)
theorem err_ErrSyntax {W : World} (h0 : laidMetH Tryd.prog laid W) : Go.Eng.ErrCell (Go.Eng.GOf 8 W) 0 := by
  have h := plainL h0
  exact Go.Eng.errCell_of (n := "strconv.ErrSyntax") h.tail.tail.tail.tail.tail (by kernel_rfl) (by kernel_rfl) Tryd.underlying58 (by decide)
set_option maxRecDepth 100000 in
open Go.Eng in
theorem libOk {W : World} (hL : laidMetH Tryd.prog laid W) : LibOK (GOf 8 W) Tryd.prog KFnPlaces.lib :=
  libOK_cons (f := 33) (ok_strings_CutPrefix Tryd.lays103) (libOK_cons (f := 34) (ok_strings_TrimLeft Tryd.lays161 (by kernel_rfl)) (libOK_cons (f := 35) (ok_strconv_ParseInt Tryd.lays174 (err_ErrSyntax hL) (err_ErrRange hL)) (libOK_cons (f := 52) (ok_strconv_FormatInt Tryd.lays173 fun w hw => tab_again (g := 2) (by kernel_rfl) (tabs hL) (gof_of hw (by decide))) (libOK_nil))))
set_option maxRecDepth 100000 in
theorem lifted (os : Os) (started : os.Started) (H : Type) (enc : TypeId × Value → H) :
    ReturnsInHanded {} Tryd.checked os 5 .any (fun w args => (Rows.fnPlacesSpec.pre enc Tryd.prog Tryd.f5 [] false w args ∧ laidMetH Tryd.prog laid w) ∧ sizedMet enc Tryd.prog Tryd.f5 (OpenSpec.ofChange Rows.fnPlacesSpec) false w args) (Rows.fnPlacesSpec.post enc Tryd.prog Tryd.f5 false true false false) := by
  refine returnsInHanded_of_change_and (C := Tryd.checked) (X := fun w _ => laidMetH Tryd.prog laid w) (fun _ _ _ hh h => h.of_heap hh) own started (by kernel_rfl) Tryd.func5
    (ChangeSpec.witness_shaped (enc := enc) (C := Tryd.checked) (os := os) (X := fun w _ => laidMetH Tryd.prog laid w) false (World.laidAll Tryd.prog os laid) #[.slice none 0 0] 8 (World.laidAll_os _ _ _) (World.shaped_of_ZipB (by kernel_rfl) (by kernel_rfl)) (by kernel_rfl) (by kernel_rfl) (by kernel_rfl) (by rw [MakeChecks.laidMetH_plain _ _ _ (by kernel_rfl)]; exact laidMet_laidAll _ (by kernel_rfl) (by kernel_rfl))) ?_
  intro W base args ds gs before hval0 hW hcnd hsz0 hL _
  have hsz : (DataW.weightsEach Tryd.prog (Tryd.f5.params.toList ++ Rows.fnPlacesSpec.plain.varTypes Tryd.prog) (ds ++ gs)).all (· ≤ reachBytes) = true := hsz0
  have hval : ∀ (j : Nat) t v, Tryd.f5.params.toList[j]? = some t → args.toList[j]? = some v → Value.okWide Tryd.prog W .any base t v := fun j t v ht hv => hval0 j t v (by simpa using ht) (by simpa using hv)
  have hW' := hW
  obtain ⟨p, q, hA0, hV, rfl, hfz, hnd⟩ := hW
  have hA : DataW.TrodAll enc Tryd.prog W 0 (fun _ => true) true Tryd.f5.params.toList args.toList ds p := hA0
  obtain ⟨rfl, rfl⟩ := trodVars_none hV
  obtain ⟨xss, ho, hr⟩ := Go.Eng.open_args (shs := KFnPlaces.shs) (by kernel_rfl) hA hval hsz
  obtain ⟨n, hn⟩ := KFnPlaces.pure xss ho
  rw [Tryd.params5] at hA
  refine (Go.Eng.law_calls_at (G := Go.Eng.GOf 8 W) KFnPlaces.hK (libOk hL) (f := 5) rfl hn hr Go.Eng.gof_self).mono fun e W' ⟨he, bel⟩ => ?_
  subst he
  have hAk := hA
  obtain ⟨v0, vs0, d0, ds0, p0, q0, hargs, rfl, rfl, h0, r0⟩ := trodAll_cons hA
  obtain ⟨rfl, rfl, rfl⟩ := trodAll_nil r0
  exact ⟨_, rfl, _, _, _, [], _, [], hW', trodAll_mk1 (shut_bool Tryd.underlying4 _), Go.Eng.args_again (by kernel_rfl) (by kernel_rfl) (by kernel_rfl) (by rw [Tryd.params5]; decide +kernel) (by rw [Tryd.params5]; exact hAk) bel, rfl, bel.frame _, fun h => by cases h⟩
theorem over : Rows.fnPlacesRow.holds Tryd.pinned (OpenSpec.ofChange Rows.fnPlacesSpec) :=
  OpenClaim.holds_of_wide 5 Tryd.f5 rfl rfl rfl rfl rfl rfl rfl ⟨rfl, rfl, rfl, rfl, rfl⟩ rfl rfl rfl rfl rfl (by kernel_rfl) Tryd.func5 (by kernel_rfl)
    (of_decide_eq_true (by kernel_rfl)) (by unfold Func.isWrapper; first | (rw [if_pos (by decide +kernel)]; kernel_rfl) | (rw [if_neg (by decide +kernel)]; exact ⟨rfl, rfl⟩))
    (fun os started H enc _ => lifted os started H enc)
theorem row_holds : Rows.FnPlacesSaid := over
/-- the tied card -/
theorem card_holds : Rows.FnPlacesCardSaid :=
  Claim7.holds_tied_plain_at .later [] [.data, .data, .data, .data, .sentinel, .sentinel, .pinned] true (true, "f8bd673494050e0c93e08e1425d605dc2894716255f41570dc49b65cdb7413b2") true
    row_holds (fun _ h => by cases h) (by kernel_rfl) (fun _ h => by cases h) fnPlaces_row_tie rfl ⟨rfl, rfl⟩ (by kernel_rfl) rfl
    (fun f fn hf hfn => by
      obtain rfl : f = 5 := Option.some.inj ((show Tryd.prog.funcNamed "loop.example/g00267/laws.FnPlaces" = some 5 by kernel_rfl).symm.trans hf) |>.symm
      obtain rfl : fn = Tryd.f5 := (Option.some.inj (Tryd.func5.symm.trans hfn)).symm
      exact ⟨by kernel_rfl, fun j t ht => by
        have hm : t ∈ Tryd.f5.params.toList := by simpa using Array.mem_of_getElem? ht
        have hall : (Tryd.f5.params.toList.all fun u => !Tryd.prog.wantsStandIn u) = true := by kernel_rfl
        exact (show Tryd.prog.wantsStandIn t = false by simpa using List.all_eq_true.1 hall t hm)⟩)
    (by kernel_rfl)
#print axioms card_holds
end Go.Proofs.YtaannlnlddbgdabDoor.fnPlaces
namespace Go.Proofs.YtaannlnlddbgdabDoor
/-- The card, under a short name, for the claim. -/
theorem fnPlaces_holds : Rows.FnPlacesCardSaid := fnPlaces.card_holds
end Go.Proofs.YtaannlnlddbgdabDoor
