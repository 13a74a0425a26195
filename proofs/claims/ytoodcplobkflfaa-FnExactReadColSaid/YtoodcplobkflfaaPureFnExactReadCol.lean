/-
  FnExactReadCol answers true at every text: the program's ReadCol and the reference's give one number.
-/
import Derived.Test.YtoodcplobkflfaaPFnExactReadColx1
set_option linter.unusedVariables false
set_option linter.unusedSimpArgs false
namespace Go.Proofs.Ytoodcplobkflfaa.Pure
open Go.RowKit Go.Proofs.Ytoodcplobkflfaa.PFnExactReadCol Go.Proofs.YtoodcplobkflfaaW.PrintWords Go.Proofs.YtoodcplobkflfaaW.PrintLast

theorem colText_in : ∀ n : Fin 53, n.val ≠ 0 → (spec_ColText.f 4 (n.val : Int) = impl_ColText.f (n.val : Int)) ∧ (impl_ColText.f (n.val : Int)).isSome = true := by
  decide +kernel

theorem colText_more (n : Int) (s : ByteArray) (h : spec_ColText.f 4 n = some s) : ∀ d, spec_ColText.f (4 + d) n = some s
  | 0 => h
  | d + 1 => spec_ColText.mono n (4 + d) s (colText_more n s h d)

theorem readCol_loop (s : ByteArray) : ∀ (d : Nat) (k : Nat) (n : Int), 1 ≤ n → n ≤ 53 → 53 - n = d → d + 4 < k →
    ∃ r, spec_ReadCol.l0 k s n = some r ∧ impl_ReadCol.l0 k s n = some r := by
  intro d
  induction d with
  | zero =>
    intro k n h1 h2 hd hk
    obtain ⟨k, rfl⟩ : ∃ m, k = m + 1 := ⟨k - 1, by omega⟩
    refine ⟨0, ?_, ?_⟩
    · simp only [spec_ReadCol.l0]; rw [if_neg (by omega)]
    · simp only [impl_ReadCol.l0]; rw [if_neg (by omega)]
  | succ d ih =>
    intro k n h1 h2 hd hk
    obtain ⟨k, rfl⟩ : ∃ m, k = m + 1 := ⟨k - 1, by omega⟩
    obtain ⟨m, rfl⟩ := Int.eq_ofNat_of_zero_le (show 0 ≤ n by omega)
    obtain ⟨e1, e2⟩ := colText_in ⟨m, by omega⟩ (by simp; omega)
    obtain ⟨t, ht⟩ := Option.isSome_iff_exists.1 e2
    have hs : spec_ColText.f k (m : Int) = some t := by
      obtain ⟨c, rfl⟩ : ∃ c, k = 4 + c := ⟨k - 4, by omega⟩
      exact colText_more _ _ (e1.trans ht) c
    obtain ⟨r, r1, r2⟩ := ih k ((m : Int) + 1) (by omega) (by omega) (by omega) (by omega)
    have hw : wrap64 ((m : Int) + 1) = (m : Int) + 1 := by unfold wrap64; omega
    by_cases c : t.toList = s.toList
    · refine ⟨m, ?_, ?_⟩
      · simp only [spec_ReadCol.l0]; rw [if_pos (by omega), hs]; simp only [Option.bind_some]; rw [if_pos c]
      · simp only [impl_ReadCol.l0]; rw [if_pos (by omega), ht]; simp only [Option.bind_some]; rw [if_pos c]
    · refine ⟨r, ?_, ?_⟩
      · simp only [spec_ReadCol.l0]; rw [if_pos (by omega), hs]; simp only [Option.bind_some]; rw [if_neg c, hw]; exact r1
      · simp only [impl_ReadCol.l0]; rw [if_pos (by omega), ht]; simp only [Option.bind_some]; rw [if_neg c, hw]; exact r2

theorem FnExactReadCol : laws_FnExactReadCol.Pure := by
  intro s _
  obtain ⟨r, h1, h2⟩ := readCol_loop s 52 60 1 (by omega) (by omega) (by omega) (by omega)
  refine ⟨60, ?_⟩
  unfold laws_FnExactReadCol.f
  split
  · rfl
  · unfold spec_ReadCol.f impl_ReadCol.f
    rw [h1, h2]
    simp

end Go.Proofs.Ytoodcplobkflfaa.Pure
