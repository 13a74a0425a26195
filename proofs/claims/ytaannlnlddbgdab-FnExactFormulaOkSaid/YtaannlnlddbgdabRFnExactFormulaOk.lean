/-
  FnExactFormulaOk answers true at every input, and the input reads behind the call as it did. No condition.
-/
import Derived.Test.YtaannlnlddbgdabRows
import Derived.Test.YtaannlnlddbgdabSFnExactFormulaOk
import Derived.Test.YtaannlnlddbgdabE32
import Derived.WalkKit
import Derived.ProofKit
import Derived.OpenShut
import Derived.ShutString
import Derived.ChangeOld
import Derived.Below
import Derived.SizedLaws
namespace Go.Proofs.Ytaannlnlddbgdab.KFnExactFormulaOk
open Go.Eng
set_option linter.unusedVariables false
def shs : List (Bool × List Sh) := [(false, [(.sl 120 [(.i .i64), (.i .i64), (.i .i64), (.i .i64), .s, (.i .i64), (.i .i64), .b, .b, (.i .i64), (.i .i64), .b, .b, (.sl 8 [(.i .i64)])])])]
theorem pure : ∀ xss, okAll shs xss → ∃ n, runs KP lib n 7 (argsOf shs xss) [] = some ⟨.c (.p (.b true)), [], []⟩ := by
  intro xss ho
  obtain ⟨a0, t0, rfl, g0_0, ho0⟩ := okAll_cons ho
  obtain ⟨c0_0, u0_0, rfl, p0, g0_1⟩ := okR_cons g0_0
  obtain ⟨x0, rfl, w0⟩ := okP_sl p0
  obtain rfl := okR_nil g0_1
  obtain rfl := okAll_nil ho0
  obtain ⟨n, hn⟩ := law x0 w0
  exact ⟨n, th_laws_FnExactFormulaOk n x0 true (hn n (Nat.le_refl n))⟩
end Go.Proofs.Ytaannlnlddbgdab.KFnExactFormulaOk
namespace Go.Proofs.Ytaannlnlddbgdab.fnExactFormulaOk
open Go.ChangeShapes Go.WideShapes Go.ChangeAt Go.RowKit
set_option linter.unusedVariables false
theorem own : ownKnob Try.prog.godebug = none := by kernel_rfl
set_option maxRecDepth 100000 in
theorem lifted (os : Os) (started : os.Started) (H : Type) (enc : TypeId × Value → H) :
    ReturnsInHanded {} Try.checked os 7 .any (Rows.fnExactFormulaOkSpec.pre6 enc Try.prog Try.f7 Rows.fnExactFormulaOkRow.domain false) (Rows.fnExactFormulaOkSpec.post enc Try.prog Try.f7 false true false false) := by
  refine returnsInHanded_of_change_sized (C := Try.checked) own started (by kernel_rfl) Try.func7
    (ChangeSpec.witness6 (enc := enc) (C := Try.checked) false ⟨#[], #[.slice none 0 0], []⟩ 8 (by kernel_rfl) (by kernel_rfl) (by kernel_rfl) (by kernel_rfl)) ?_
  intro W base args ds gs before hval0 hW hcnd hsz0 _
  have hsz : (DataW.weightsEach Try.prog (Try.f7.params.toList ++ Rows.fnExactFormulaOkSpec.plain.varTypes Try.prog) (ds ++ gs)).all (· ≤ reachBytes) = true := hsz0
  have hval : ∀ (j : Nat) t v, Try.f7.params.toList[j]? = some t → args.toList[j]? = some v → Value.okWide Try.prog W .any base t v := fun j t v ht hv => hval0 j t v (by simpa using ht) (by simpa using hv)
  have hW' := hW
  obtain ⟨p, q, hA0, hV, rfl, hfz, hnd⟩ := hW
  have hA : DataW.TrodAll enc Try.prog W 0 (fun _ => true) true Try.f7.params.toList args.toList ds p := hA0
  obtain ⟨rfl, rfl⟩ := trodVars_none hV
  obtain ⟨xss, ho, hr⟩ := Go.Eng.open_args (shs := KFnExactFormulaOk.shs) (by kernel_rfl) hA hval hsz
  obtain ⟨n, hn⟩ := KFnExactFormulaOk.pure xss ho
  rw [Try.params7] at hA
  refine (Go.Eng.law_calls KFnExactFormulaOk.hK (Go.Eng.lib_none fun _ _ => rfl) (f := 7) rfl hn hr).mono fun e W' ⟨he, bel⟩ => ?_
  subst he
  have hAk := hA
  obtain ⟨v0, vs0, d0, ds0, p0, q0, hargs, rfl, rfl, h0, r0⟩ := trodAll_cons hA
  obtain ⟨rfl, rfl, rfl⟩ := trodAll_nil r0
  exact ⟨_, rfl, _, _, _, [], _, [], hW', trodAll_mk1 (shut_bool Try.underlying4 _), Go.Eng.args_again (by kernel_rfl) (by kernel_rfl) (by kernel_rfl) (by rw [Try.params7]; decide +kernel) (by rw [Try.params7]; exact hAk) bel, rfl, bel.frame _, fun h => by cases h⟩
theorem over : Rows.fnExactFormulaOkRow.holds Try.pinned (OpenSpec.ofChange Rows.fnExactFormulaOkSpec) :=
  OpenClaim.holds_of_wide 7 Try.f7 rfl rfl rfl rfl rfl rfl rfl ⟨rfl, rfl, rfl, rfl, rfl⟩ rfl rfl rfl rfl rfl (by kernel_rfl) Try.func7 (by kernel_rfl)
    (of_decide_eq_true (by kernel_rfl)) (by unfold Func.isWrapper; first | (rw [if_pos (by decide +kernel)]; kernel_rfl) | (rw [if_neg (by decide +kernel)]; exact ⟨rfl, rfl⟩))
    (fun os started H enc _ => lifted os started H enc)
theorem proved : Rows.FnExactFormulaOkSaid := over
#print axioms proved
end Go.Proofs.Ytaannlnlddbgdab.fnExactFormulaOk
namespace Go.Proofs.Ytaannlnlddbgdab
/-- The row, under a short name, for the claim. -/
theorem fnExactFormulaOk_holds : Rows.FnExactFormulaOkSaid := fnExactFormulaOk.proved
end Go.Proofs.Ytaannlnlddbgdab
