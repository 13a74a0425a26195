/-
  FnExactRefOk answers true at every place of a cell: the program's RefOk and the reference's say the same.
-/
import Derived.Test.YtoodcplobkflfaaOpenFnExactRefOk
set_option linter.unusedVariables false
set_option linter.unusedSimpArgs false
namespace Go.Proofs.Ytoodcplobkflfaa.Pure
open Go.RowKit Go.Proofs.YtoodcplobkflfaaW.PrintWords Go.Proofs.YtoodcplobkflfaaW.PrintLast Go.Proofs.Ytoodcplobkflfaa.PFnExactRefOk Go.Proofs.Ytoodcplobkflfaa.RowLib Go.Proofs.Ytoodcplobkflfaa.OpenFnExactRefOk

theorem refOk_some (a b : Int) : ∃ r, spec_RefOk.f a b = some r ∧ impl_RefOk.f a b = some r := by
  unfold spec_RefOk.f impl_RefOk.f spec_l1In.f impl_within.f
  by_cases h1 : a ≥ 1 <;> by_cases h2 : b ≥ 1 <;> by_cases h3 : a ≤ 52 <;> simp [h1, h2, h3]

theorem FnExactRefOk : ∀ (a0_0 : Int) (a0_1 : Int), (Lit.int .i64 a0_0).wf = true → (Lit.int .i64 a0_1).wf = true → laws_FnExactRefOk.f a0_0 a0_1 = some true := by
  intro a b _ _
  obtain ⟨r, h1, h2⟩ := refOk_some a b
  unfold laws_FnExactRefOk.f laws_toRef.f
  simp [h1, h2]

end Go.Proofs.Ytoodcplobkflfaa.Pure
