/-
  FnExactColText answers true at every whole number: the program's ColText and the reference's give one text.
-/
import Derived.Test.YtoodcplobkflfaaPFnExactColTextx1
set_option linter.unusedVariables false
set_option linter.unusedSimpArgs false
namespace Go.Proofs.Ytoodcplobkflfaa.Pure
open Go.RowKit Go.Proofs.Ytoodcplobkflfaa.PFnExactColText Go.Proofs.YtoodcplobkflfaaW.PrintWords Go.Proofs.YtoodcplobkflfaaW.PrintLast

theorem colText_in : ∀ n : Fin 53, n.val ≠ 0 → (spec_ColText.f 4 (n.val : Int) = impl_ColText.f (n.val : Int)) ∧ (impl_ColText.f (n.val : Int)).isSome = true := by
  decide +kernel

theorem colText_eq (n : Int) : ∃ s, spec_ColText.f 4 n = some s ∧ impl_ColText.f n = some s := by
  by_cases h : 1 ≤ n ∧ n ≤ 52
  · obtain ⟨m, rfl⟩ := Int.eq_ofNat_of_zero_le (show 0 ≤ n by omega)
    obtain ⟨h1, h2⟩ := colText_in ⟨m, by omega⟩ (by simp; omega)
    obtain ⟨s, hs⟩ := Option.isSome_iff_exists.1 h2
    exact ⟨s, h1.trans hs, hs⟩
  · refine ⟨⟨#[]⟩, ?_, ?_⟩
    · unfold spec_ColText.f spec_l1In.f
      by_cases h1 : n ≥ 1
      · rw [if_pos h1]; simp only [Option.bind_some]; rw [if_neg (by simp; omega)]
      · rw [if_neg h1]; rfl
    · unfold impl_ColText.f impl_within.f
      by_cases h1 : n ≥ 1
      · rw [if_pos h1]; simp only [Option.bind_some]; rw [if_neg (by simp; omega)]
      · rw [if_neg h1]; rfl

theorem FnExactColText : laws_FnExactColText.Pure := by
  intro n _
  obtain ⟨s, h1, h2⟩ := colText_eq n
  refine ⟨4, ?_⟩
  unfold laws_FnExactColText.f
  rw [h1, h2]
  simp

end Go.Proofs.Ytoodcplobkflfaa.Pure
