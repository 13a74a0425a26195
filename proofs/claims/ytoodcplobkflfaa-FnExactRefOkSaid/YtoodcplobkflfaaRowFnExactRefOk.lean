/-
  The row of FnExactRefOk: it answers true at every input, and the input reads behind the call as it did. No condition.
-/
import Derived.Test.YtoodcplobkflfaaRows
import Derived.Test.YtoodcplobkflfaaPureFnExactRefOk
import Derived.WalkKit
import Derived.ProofKit
import Derived.OpenShut
import Derived.ShutString
import Derived.ChangeOld
import Derived.Below
import Derived.SizedLaws
namespace Go.Proofs.Ytoodcplobkflfaa.fnExactRefOk
open Go.ChangeShapes Go.WideShapes Go.ChangeAt Go.RowKit Go.Proofs.YtoodcplobkflfaaW.PrintWords Go.Proofs.Ytoodcplobkflfaa.RowLib Go.Proofs.Ytoodcplobkflfaa.OpenFnExactRefOk Go.Proofs.Ytoodcplobkflfaa.PFnExactRefOk
open Go.ChangeMaps (open_string shut_string)
set_option linter.unusedVariables false
theorem own : ownKnob Try.prog.godebug = none := by kernel_rfl
set_option maxRecDepth 100000 in
theorem lifted (os : Os) (started : os.Started) (H : Type) (enc : TypeId × Value → H) :
    ReturnsInHanded {} Try.checked os 4 .any (Rows.fnExactRefOkSpec.pre6 enc Try.prog Try.f4 Rows.fnExactRefOkRow.domain false) (Rows.fnExactRefOkSpec.post enc Try.prog Try.f4 false true false false) := by
  refine returnsInHanded_of_change_sized (C := Try.checked) own started (by kernel_rfl) Try.func4
    (ChangeSpec.witness6 (enc := enc) (C := Try.checked) false ⟨#[], #[.agg #[.int .i64 0, .int .i64 0]], []⟩ 8 (by kernel_rfl) (by kernel_rfl) (by kernel_rfl) (by kernel_rfl)) ?_
  intro W base args ds gs before hval0 hW hcnd hsz0 _
  have hsz : (DataW.weightsEach Try.prog (Try.f4.params.toList ++ Rows.fnExactRefOkSpec.plain.varTypes Try.prog) (ds ++ gs)).all (· ≤ reachBytes) = true := hsz0
  have hval : ∀ (j : Nat) t v, Try.f4.params[j]? = some t → args[j]? = some v → Value.okWide Try.prog W .any base t v := hval0
  have hW' := hW
  obtain ⟨p, q, hA0, hV, rfl, hfz, hnd⟩ := hW
  have hA : DataW.TrodAll enc Try.prog W 0 (fun _ => true) true Try.f4.params.toList args.toList ds p := hA0
  rw [Try.params4] at hA hval hsz
  have hAk := hA
  obtain ⟨v0, vs0, d0, ds0, p0, q0, hargs, rfl, rfl, h0, r0⟩ := trodAll_cons hA
  obtain ⟨rfl, rfl, rfl⟩ := trodAll_nil r0
  obtain rfl : args = #[v0] := by cases args; simp_all
  obtain ⟨rfl, rfl⟩ := trodVars_none hV
  obtain ⟨cs0, ⟨a0_0, a0_1⟩, rfl, ⟨_, _, hcs0, rfl, rfl⟩, ok_0⟩ := top_struct Try.underlying24 (hval 0 24 v0 rfl rfl) h0 p24 (sized_arg hsz 0 rfl rfl)
  obtain rfl : cs0 = #[.int .i64 a0_0, .int .i64 a0_1] := by cases cs0; simp_all
  clear hA0 hval0 hsz0 hsz
  refine (laws_FnExactRefOk.calls a0_0 a0_1 true W  (Pure.FnExactRefOk a0_0 a0_1 ok_0.1 ok_0.2)).mono fun e W' ⟨he, bel⟩ => ?_
  subst he
  exact ⟨_, rfl, _, _, _, [], _, [], hW', trodAll_mk1 (shut_bool Try.underlying4 _), args_again (by kernel_rfl) (by kernel_rfl) (by kernel_rfl) (by rw [Try.params4]; decide +kernel) (by rw [Try.params4]; exact hAk) bel, rfl, bel.frame _, fun h => by cases h⟩
theorem over : Rows.fnExactRefOkRow.holds Try.pinned (OpenSpec.ofChange Rows.fnExactRefOkSpec) :=
  OpenClaim.holds_of_wide 4 Try.f4 rfl rfl rfl rfl rfl rfl rfl ⟨rfl, rfl, rfl, rfl, rfl⟩ rfl rfl rfl rfl rfl (by kernel_rfl) Try.func4 (by kernel_rfl)
    (of_decide_eq_true (by kernel_rfl)) (by unfold Func.isWrapper; first | (rw [if_pos (by decide +kernel)]; kernel_rfl) | (rw [if_neg (by decide +kernel)]; exact ⟨rfl, rfl⟩))
    (fun os started H enc _ => lifted os started H enc)
theorem proved : Rows.FnExactRefOkSaid := over
#print axioms proved
end Go.Proofs.Ytoodcplobkflfaa.fnExactRefOk
namespace Go.Proofs.Ytoodcplobkflfaa
/-- The row, under a short name, for the claim. -/
theorem fnExactRefOk_holds : Rows.FnExactRefOkSaid := fnExactRefOk.proved
end Go.Proofs.Ytoodcplobkflfaa
