/-
  FnExactHeld answers true at every input, and the input reads behind the call as it did. No condition.
-/
import Derived.Test.YtaannlnlddbgdaaRows
import Derived.Test.YtaannlnlddbgdaaSFnExactHeld
import Derived.Test.YtaannlnlddbgdaaE32
import Derived.WalkKit
import Derived.ProofKit
import Derived.OpenShut
import Derived.ShutString
import Derived.ChangeOld
import Derived.Below
import Derived.SizedLaws
namespace Go.Proofs.Ytaannlnlddbgdaa.KFnExactHeld
open Go.Eng
set_option linter.unusedVariables false
def shs : List (Bool × List Sh) := [(false, [(.i .i64)]), (true, [(.i .i64), (.i .i64), .s]), (true, [(.i .i64), (.i .i64), .s])]
theorem pure : ∀ xss, okAll shs xss → ∃ n, runs KP lib n 6 (argsOf shs xss) [] = some ⟨.c (.p (.b true)), [], []⟩ := by
  intro xss ho
  obtain ⟨a0, t0, rfl, g0_0, ho0⟩ := okAll_cons ho
  obtain ⟨c0_0, u0_0, rfl, p0, g0_1⟩ := okR_cons g0_0
  obtain ⟨x0, rfl, w0⟩ := okP_i p0
  obtain rfl := okR_nil g0_1
  obtain ⟨a1, t1, rfl, g1_0, ho1⟩ := okAll_cons ho0
  obtain ⟨c1_0, u1_0, rfl, p1, g1_1⟩ := okR_cons g1_0
  obtain ⟨x1, rfl, w1⟩ := okP_i p1
  obtain ⟨c1_1, u1_1, rfl, p2, g1_2⟩ := okR_cons g1_1
  obtain ⟨x2, rfl, w2⟩ := okP_i p2
  obtain ⟨c1_2, u1_2, rfl, p3, g1_3⟩ := okR_cons g1_2
  obtain ⟨x3, rfl, w3⟩ := okP_s p3
  obtain rfl := okR_nil g1_3
  obtain ⟨a2, t2, rfl, g2_0, ho2⟩ := okAll_cons ho1
  obtain ⟨c2_0, u2_0, rfl, p4, g2_1⟩ := okR_cons g2_0
  obtain ⟨x4, rfl, w4⟩ := okP_i p4
  obtain ⟨c2_1, u2_1, rfl, p5, g2_2⟩ := okR_cons g2_1
  obtain ⟨x5, rfl, w5⟩ := okP_i p5
  obtain ⟨c2_2, u2_2, rfl, p6, g2_3⟩ := okR_cons g2_2
  obtain ⟨x6, rfl, w6⟩ := okP_s p6
  obtain rfl := okR_nil g2_3
  obtain rfl := okAll_nil ho2
  obtain ⟨n, hn⟩ := law x0 x1 x2 x3 x4 x5 x6 w0 w1 w2 w3 w4 w5 w6
  exact ⟨n, th_laws_FnExactHeld n x0 x1 x2 x3 x4 x5 x6 true (hn n (Nat.le_refl n))⟩
end Go.Proofs.Ytaannlnlddbgdaa.KFnExactHeld
namespace Go.Proofs.Ytaannlnlddbgdaa.fnExactHeld
open Go.ChangeShapes Go.WideShapes Go.ChangeAt Go.RowKit
set_option linter.unusedVariables false
theorem own : ownKnob Try.prog.godebug = none := by kernel_rfl
set_option maxRecDepth 100000 in
theorem lifted (os : Os) (started : os.Started) (H : Type) (enc : TypeId × Value → H) :
    ReturnsInHanded {} Try.checked os 6 .any (Rows.fnExactHeldSpec.pre6 enc Try.prog Try.f6 Rows.fnExactHeldRow.domain false) (Rows.fnExactHeldSpec.post enc Try.prog Try.f6 false true false false) := by
  refine returnsInHanded_of_change_sized (C := Try.checked) own started (by kernel_rfl) Try.func6
    (ChangeSpec.witness6 (enc := enc) (C := Try.checked) false ⟨#[], #[.int .i64 0, .agg #[.int .i64 0, .int .i64 0, .string ByteArray.empty], .agg #[.int .i64 0, .int .i64 0, .string ByteArray.empty]], []⟩ 8 (by kernel_rfl) (by kernel_rfl) (by kernel_rfl) (by kernel_rfl)) ?_
  intro W base args ds gs before hval0 hW hcnd hsz0 _
  have hsz : (DataW.weightsEach Try.prog (Try.f6.params.toList ++ Rows.fnExactHeldSpec.plain.varTypes Try.prog) (ds ++ gs)).all (· ≤ reachBytes) = true := hsz0
  have hval : ∀ (j : Nat) t v, Try.f6.params.toList[j]? = some t → args.toList[j]? = some v → Value.okWide Try.prog W .any base t v := fun j t v ht hv => hval0 j t v (by simpa using ht) (by simpa using hv)
  have hW' := hW
  obtain ⟨p, q, hA0, hV, rfl, hfz, hnd⟩ := hW
  have hA : DataW.TrodAll enc Try.prog W 0 (fun _ => true) true Try.f6.params.toList args.toList ds p := hA0
  obtain ⟨rfl, rfl⟩ := trodVars_none hV
  obtain ⟨xss, ho, hr⟩ := Go.Eng.open_args (shs := KFnExactHeld.shs) (by kernel_rfl) hA hval hsz
  obtain ⟨n, hn⟩ := KFnExactHeld.pure xss ho
  rw [Try.params6] at hA
  refine (Go.Eng.law_calls KFnExactHeld.hK (Go.Eng.lib_none fun _ _ => rfl) (f := 6) rfl hn hr).mono fun e W' ⟨he, bel⟩ => ?_
  subst he
  have hAk := hA
  obtain ⟨v0, vs0, d0, ds0, p0, q0, hargs, rfl, rfl, h0, r0⟩ := trodAll_cons hA
  obtain ⟨v1, vs1, d1, ds1, p1, q1, rfl, rfl, rfl, h1, r1⟩ := trodAll_cons r0
  obtain ⟨v2, vs2, d2, ds2, p2, q2, rfl, rfl, rfl, h2, r2⟩ := trodAll_cons r1
  obtain ⟨rfl, rfl, rfl⟩ := trodAll_nil r2
  exact ⟨_, rfl, _, _, _, [], _, [], hW', trodAll_mk1 (shut_bool Try.underlying4 _), Go.Eng.args_again (by kernel_rfl) (by kernel_rfl) (by kernel_rfl) (by rw [Try.params6]; decide +kernel) (by rw [Try.params6]; exact hAk) bel, rfl, bel.frame _, fun h => by cases h⟩
theorem over : Rows.fnExactHeldRow.holds Try.pinned (OpenSpec.ofChange Rows.fnExactHeldSpec) :=
  OpenClaim.holds_of_wide 6 Try.f6 rfl rfl rfl rfl rfl rfl rfl ⟨rfl, rfl, rfl, rfl, rfl⟩ rfl rfl rfl rfl rfl (by kernel_rfl) Try.func6 (by kernel_rfl)
    (of_decide_eq_true (by kernel_rfl)) (by unfold Func.isWrapper; first | (rw [if_pos (by decide +kernel)]; kernel_rfl) | (rw [if_neg (by decide +kernel)]; exact ⟨rfl, rfl⟩))
    (fun os started H enc _ => lifted os started H enc)
theorem proved : Rows.FnExactHeldSaid := over
#print axioms proved
end Go.Proofs.Ytaannlnlddbgdaa.fnExactHeld
namespace Go.Proofs.Ytaannlnlddbgdaa
/-- The row, under a short name, for the claim. -/
theorem fnExactHeld_holds : Rows.FnExactHeldSaid := fnExactHeld.proved
end Go.Proofs.Ytaannlnlddbgdaa
