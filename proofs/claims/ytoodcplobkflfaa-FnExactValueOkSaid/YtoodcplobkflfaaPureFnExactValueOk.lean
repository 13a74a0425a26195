/-
  FnExactValueOk answers true at every value: the program's ValueOk and the reference's say the same.
-/
import Derived.Test.YtoodcplobkflfaaOpenFnExactValueOk
set_option linter.unusedVariables false
set_option linter.unusedSimpArgs false
namespace Go.Proofs.Ytoodcplobkflfaa.Pure
open Go.RowKit Go.Proofs.YtoodcplobkflfaaW.PrintWords Go.Proofs.YtoodcplobkflfaaW.PrintLast Go.Proofs.Ytoodcplobkflfaa.PFnExactValueOk Go.Proofs.Ytoodcplobkflfaa.RowLib Go.Proofs.Ytoodcplobkflfaa.OpenFnExactValueOk

theorem text_loop (s : ByteArray) (hs : s.size ≤ 140737488351232) : ∀ (d k : Nat) (i : Int), 0 ≤ i → i ≤ s.size → (s.size : Int) - i = d → d < k →
    ∃ r, spec_l2Plain.l0 k s i = some r ∧ impl_isText.l0 k s 200 (s.size : Int) i = some r := by
  intro d
  induction d with
  | zero =>
    intro k i h0 h1 hd hk
    obtain ⟨k, rfl⟩ : ∃ m, k = m + 1 := ⟨k - 1, by omega⟩
    refine ⟨decide ((s.size : Int) ≤ 200), ?_, ?_⟩
    · simp only [spec_l2Plain.l0]; rw [if_neg (by omega)]
    · simp only [impl_isText.l0]; rw [if_neg (by omega)]
  | succ d ih =>
    intro k i h0 h1 hd hk
    obtain ⟨k, rfl⟩ : ∃ m, k = m + 1 := ⟨k - 1, by omega⟩
    have hlt : i < (s.size : Int) := by omega
    have hw : wrap64 (i + 1) = i + 1 := by unfold wrap64; omega
    obtain ⟨r, r1, r2⟩ := ih k (i + 1) (by omega) (by omega) (by omega) (by omega)
    by_cases c1 : bt s i < 32
    · exact ⟨false, by simp only [spec_l2Plain.l0]; rw [if_pos hlt, if_pos h0, if_pos c1], by simp only [impl_isText.l0]; rw [if_pos hlt, if_pos h0, if_pos hlt, if_pos c1]⟩
    · by_cases c2 : bt s i > 126
      · exact ⟨false, by simp only [spec_l2Plain.l0]; rw [if_pos hlt, if_pos h0, if_neg c1, if_pos c2], by simp only [impl_isText.l0]; rw [if_pos hlt, if_pos h0, if_pos hlt, if_neg c1, if_pos c2]⟩
      · exact ⟨r, by simp only [spec_l2Plain.l0]; rw [if_pos hlt, if_pos h0, if_neg c1, if_neg c2, hw]; exact r1, by simp only [impl_isText.l0]; rw [if_pos hlt, if_pos h0, if_pos hlt, if_neg c1, if_neg c2, hw]; exact r2⟩

theorem text_some (s : ByteArray) (hs : s.size ≤ 140737488351232) (k : Nat) (hk : s.size < k) : ∃ r, spec_l2Plain.f k s = some r ∧ impl_isText.f k s 200 = some r := by
  unfold spec_l2Plain.f impl_isText.f
  exact text_loop s hs s.size k 0 (by omega) (by omega) (by omega) hk

theorem in_some (a b c : Int) : ∃ r, spec_l1In.f a b c = some r ∧ impl_within.f a b c = some r := by
  unfold spec_l1In.f impl_within.f
  by_cases h : a ≥ b <;> simp [h]

theorem valueOk_some (a b : Int) (s : ByteArray) (hs : s.size ≤ 140737488351232) (k : Nat) (hk : s.size < k) : ∃ r, spec_ValueOk.f k a b s = some r ∧ impl_ValueOk.f k a b s = some r := by
  obtain ⟨r, r1, r2⟩ := text_some s hs k hk
  obtain ⟨x, x1, x2⟩ := in_some b (-1000000000000000) 1000000000000000
  obtain ⟨y, y1, y2⟩ := in_some b 0 1
  obtain ⟨z, z1, z2⟩ := in_some b 1 5
  unfold spec_ValueOk.f impl_ValueOk.f
  rw [r1, r2, x1, x2, y1, y2, z1, z2]
  by_cases h2 : a = 2
  · subst h2
    by_cases hb : b = 0 <;> simp [hb]
  · by_cases he : s.toList = [] <;> by_cases h0 : a = 0 <;> by_cases h1 : a = 1 <;> by_cases h3 : a = 3 <;> by_cases h4 : a = 4 <;> by_cases hb : b = 0 <;> cases x <;> cases y <;> cases z <;> simp_all

theorem FnExactValueOk : ∀ (a0_0 : Int) (a0_1 : Int) (a0_2 : ByteArray), (Lit.int .i64 a0_0).wf = true → (Lit.int .i64 a0_1).wf = true → a0_2.size ≤ 140737488351232 → ∃ k, laws_FnExactValueOk.f k a0_0 a0_1 a0_2 = some true := by
  intro a b s _ _ hs
  obtain ⟨r, r1, r2⟩ := valueOk_some a b s hs (s.size + 1) (by omega)
  refine ⟨s.size + 1, ?_⟩
  unfold laws_FnExactValueOk.f laws_szValue.f laws_toValue.f
  by_cases h : wrap64 (1048576 - (s.size : Int)) < 0
  · rw [if_pos h]; rfl
  · rw [if_neg h]; simp [h, r1, r2]

end Go.Proofs.Ytoodcplobkflfaa.Pure
