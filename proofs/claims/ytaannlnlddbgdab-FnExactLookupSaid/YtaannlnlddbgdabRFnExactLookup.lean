/-
  FnExactLookup answers true at every input, and the input reads behind the call as it did. No condition.
-/
import Derived.Test.YtaannlnlddbgdabRows
import Derived.Test.YtaannlnlddbgdabSFnExactLookup
import Derived.Test.YtaannlnlddbgdabE32
import Derived.WalkKit
import Derived.ProofKit
import Derived.OpenShut
import Derived.ShutString
import Derived.ChangeOld
import Derived.Below
import Derived.SizedLaws
namespace Go.Proofs.Ytaannlnlddbgdab.KFnExactLookup
open Go.Eng
set_option linter.unusedVariables false
def shs : List (Bool × List Sh) := [(false, [(.sl 48 [(.i .i64), (.i .i64), (.i .i64), (.i .i64), .s])]), (true, [(.i .i64), (.i .i64)])]
theorem pure : ∀ xss, okAll shs xss → ∃ n, runs KP lib n 4 (argsOf shs xss) [] = some ⟨.c (.p (.b true)), [], []⟩ := by
  intro xss ho
  obtain ⟨a0, t0, rfl, g0_0, ho0⟩ := okAll_cons ho
  obtain ⟨c0_0, u0_0, rfl, p0, g0_1⟩ := okR_cons g0_0
  obtain ⟨x0, rfl, w0⟩ := okP_sl p0
  obtain rfl := okR_nil g0_1
  obtain ⟨a1, t1, rfl, g1_0, ho1⟩ := okAll_cons ho0
  obtain ⟨c1_0, u1_0, rfl, p1, g1_1⟩ := okR_cons g1_0
  obtain ⟨x1, rfl, w1⟩ := okP_i p1
  obtain ⟨c1_1, u1_1, rfl, p2, g1_2⟩ := okR_cons g1_1
  obtain ⟨x2, rfl, w2⟩ := okP_i p2
  obtain rfl := okR_nil g1_2
  obtain rfl := okAll_nil ho1
  obtain ⟨n, hn⟩ := law x0 x1 x2 w0 w1 w2
  exact ⟨n, th_laws_FnExactLookup n x0 x1 x2 true (hn n (Nat.le_refl n))⟩
end Go.Proofs.Ytaannlnlddbgdab.KFnExactLookup
namespace Go.Proofs.Ytaannlnlddbgdab.fnExactLookup
open Go.ChangeShapes Go.WideShapes Go.ChangeAt Go.RowKit
set_option linter.unusedVariables false
theorem own : ownKnob Try.prog.godebug = none := by kernel_rfl
set_option maxRecDepth 100000 in
theorem lifted (os : Os) (started : os.Started) (H : Type) (enc : TypeId × Value → H) :
    ReturnsInHanded {} Try.checked os 4 .any (Rows.fnExactLookupSpec.pre6 enc Try.prog Try.f4 Rows.fnExactLookupRow.domain false) (Rows.fnExactLookupSpec.post enc Try.prog Try.f4 false true false false) := by
  refine returnsInHanded_of_change_sized (C := Try.checked) own started (by kernel_rfl) Try.func4
    (ChangeSpec.witness6 (enc := enc) (C := Try.checked) false ⟨#[], #[.slice none 0 0, .agg #[.int .i64 0, .int .i64 0]], []⟩ 8 (by kernel_rfl) (by kernel_rfl) (by kernel_rfl) (by kernel_rfl)) ?_
  intro W base args ds gs before hval0 hW hcnd hsz0 _
  have hsz : (DataW.weightsEach Try.prog (Try.f4.params.toList ++ Rows.fnExactLookupSpec.plain.varTypes Try.prog) (ds ++ gs)).all (· ≤ reachBytes) = true := hsz0
  have hval : ∀ (j : Nat) t v, Try.f4.params.toList[j]? = some t → args.toList[j]? = some v → Value.okWide Try.prog W .any base t v := fun j t v ht hv => hval0 j t v (by simpa using ht) (by simpa using hv)
  have hW' := hW
  obtain ⟨p, q, hA0, hV, rfl, hfz, hnd⟩ := hW
  have hA : DataW.TrodAll enc Try.prog W 0 (fun _ => true) true Try.f4.params.toList args.toList ds p := hA0
  obtain ⟨rfl, rfl⟩ := trodVars_none hV
  obtain ⟨xss, ho, hr⟩ := Go.Eng.open_args (shs := KFnExactLookup.shs) (by kernel_rfl) hA hval hsz
  obtain ⟨n, hn⟩ := KFnExactLookup.pure xss ho
  rw [Try.params4] at hA
  refine (Go.Eng.law_calls KFnExactLookup.hK (Go.Eng.lib_none fun _ _ => rfl) (f := 4) rfl hn hr).mono fun e W' ⟨he, bel⟩ => ?_
  subst he
  have hAk := hA
  obtain ⟨v0, vs0, d0, ds0, p0, q0, hargs, rfl, rfl, h0, r0⟩ := trodAll_cons hA
  obtain ⟨v1, vs1, d1, ds1, p1, q1, rfl, rfl, rfl, h1, r1⟩ := trodAll_cons r0
  obtain ⟨rfl, rfl, rfl⟩ := trodAll_nil r1
  exact ⟨_, rfl, _, _, _, [], _, [], hW', trodAll_mk1 (shut_bool Try.underlying4 _), Go.Eng.args_again (by kernel_rfl) (by kernel_rfl) (by kernel_rfl) (by rw [Try.params4]; decide +kernel) (by rw [Try.params4]; exact hAk) bel, rfl, bel.frame _, fun h => by cases h⟩
theorem over : Rows.fnExactLookupRow.holds Try.pinned (OpenSpec.ofChange Rows.fnExactLookupSpec) :=
  OpenClaim.holds_of_wide 4 Try.f4 rfl rfl rfl rfl rfl rfl rfl ⟨rfl, rfl, rfl, rfl, rfl⟩ rfl rfl rfl rfl rfl (by kernel_rfl) Try.func4 (by kernel_rfl)
    (of_decide_eq_true (by kernel_rfl)) (by unfold Func.isWrapper; first | (rw [if_pos (by decide +kernel)]; kernel_rfl) | (rw [if_neg (by decide +kernel)]; exact ⟨rfl, rfl⟩))
    (fun os started H enc _ => lifted os started H enc)
theorem proved : Rows.FnExactLookupSaid := over
#print axioms proved
end Go.Proofs.Ytaannlnlddbgdab.fnExactLookup
namespace Go.Proofs.Ytaannlnlddbgdab
/-- The row, under a short name, for the claim. -/
theorem fnExactLookup_holds : Rows.FnExactLookupSaid := fnExactLookup.proved
end Go.Proofs.Ytaannlnlddbgdab
