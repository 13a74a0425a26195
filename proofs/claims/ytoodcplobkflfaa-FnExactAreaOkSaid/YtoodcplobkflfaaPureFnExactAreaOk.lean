/-
  FnExactAreaOk answers true at every area: the program's AreaOk and the reference's say the same.
-/
import Derived.Test.YtoodcplobkflfaaOpenFnExactAreaOk
set_option linter.unusedVariables false
set_option linter.unusedSimpArgs false
namespace Go.Proofs.Ytoodcplobkflfaa.Pure
open Go.RowKit Go.Proofs.YtoodcplobkflfaaW.PrintWords Go.Proofs.YtoodcplobkflfaaW.PrintLast Go.Proofs.Ytoodcplobkflfaa.PFnExactAreaOk Go.Proofs.Ytoodcplobkflfaa.RowLib Go.Proofs.Ytoodcplobkflfaa.OpenFnExactAreaOk

theorem refOk_some (a b : Int) : ∃ r, spec_RefOk.f a b = some r ∧ impl_RefOk.f a b = some r := by
  unfold spec_RefOk.f impl_RefOk.f spec_l1In.f impl_within.f
  by_cases h1 : a ≥ 1 <;> by_cases h2 : b ≥ 1 <;> by_cases h3 : a ≤ 52 <;> simp [h1, h2, h3]

theorem areaOk_some (a b c d : Int) : ∃ r, spec_AreaOk.f a b c d = some r ∧ impl_AreaOk.f a b c d = some r := by
  obtain ⟨r, h1, h2⟩ := refOk_some a b
  obtain ⟨q, h3, h4⟩ := refOk_some c d
  unfold spec_AreaOk.f impl_AreaOk.f
  cases r <;> cases q <;> by_cases h5 : a ≤ c <;> simp [h1, h2, h3, h4, h5]

theorem FnExactAreaOk : ∀ (a0_0 : Int) (a0_1 : Int) (a0_2 : Int) (a0_3 : Int), (Lit.int .i64 a0_0).wf = true → (Lit.int .i64 a0_1).wf = true → (Lit.int .i64 a0_2).wf = true → (Lit.int .i64 a0_3).wf = true → laws_FnExactAreaOk.f a0_0 a0_1 a0_2 a0_3 = some true := by
  intro a b c d _ _ _ _
  obtain ⟨r, h1, h2⟩ := areaOk_some a b c d
  unfold laws_FnExactAreaOk.f laws_toArea.f laws_toRef.f
  simp [h1, h2]

end Go.Proofs.Ytoodcplobkflfaa.Pure
