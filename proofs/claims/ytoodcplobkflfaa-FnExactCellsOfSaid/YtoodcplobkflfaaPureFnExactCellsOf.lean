/-
  FnExactCellsOf answers true at every area: the program's CellsOf and the reference's give the same cells, in memory of their own.
-/
import Derived.Test.YtoodcplobkflfaaOpenFnExactCellsOf
set_option linter.unusedVariables false
set_option linter.unusedSimpArgs false
namespace Go.Proofs.Ytoodcplobkflfaa.Pure
open Go.RowKit Go.Proofs.YtoodcplobkflfaaW.PrintWords Go.Proofs.YtoodcplobkflfaaW.PrintLast Go.Proofs.Ytoodcplobkflfaa.PFnExactCellsOf Go.Proofs.Ytoodcplobkflfaa.RowLib Go.Proofs.Ytoodcplobkflfaa.OpenFnExactCellsOf

theorem refOk_some (a b : Int) : ∃ r, spec_RefOk.f a b = some r ∧ impl_RefOk.f a b = some r ∧ (r = true → 1 ≤ a ∧ a ≤ 52 ∧ 1 ≤ b ∧ b ≤ 99) := by
  unfold spec_RefOk.f impl_RefOk.f spec_l1In.f impl_within.f
  by_cases h1 : a ≥ 1 <;> by_cases h2 : b ≥ 1 <;> by_cases h3 : a ≤ 52 <;> simp [h1, h2, h3]

theorem areaOk_some (a b c d : Int) : ∃ r, spec_AreaOk.f a b c d = some r ∧ impl_AreaOk.f a b c d = some r ∧ (r = true → 1 ≤ a ∧ a ≤ c ∧ c ≤ 52 ∧ 1 ≤ b ∧ b ≤ d ∧ d ≤ 99) := by
  obtain ⟨r, h1, h2, h3⟩ := refOk_some a b
  obtain ⟨q, h4, h5, h6⟩ := refOk_some c d
  unfold spec_AreaOk.f impl_AreaOk.f
  rw [h1, h2, h4, h5]
  cases r with
  | false => exact ⟨false, by simp, by simp, by simp⟩
  | true =>
    cases q with
    | false => exact ⟨false, by simp, by simp, by simp⟩
    | true =>
      have g1 := h3 rfl
      have g2 := h6 rfl
      by_cases h7 : a ≤ c
      · by_cases h8 : b ≤ d
        · exact ⟨true, by simp [h7, h8], by simp [h7, h8], fun _ => by omega⟩
        · exact ⟨false, by simp [h7, h8], by simp [h7, h8], by simp⟩
      · exact ⟨false, by simp [h7], by simp [h7], by simp⟩

def rowOf (y : Int) : Nat → Int → List S26
  | 0, _ => []
  | n + 1, x => ⟨x, y⟩ :: rowOf y n (x + 1)
theorem rowOf_length (y : Int) : ∀ n x, (rowOf y n x).length = n
  | 0, _ => rfl
  | n + 1, x => by simp [rowOf, rowOf_length y n]
def gridOf (x : Int) (n : Nat) : Nat → Int → List S26
  | 0, _ => []
  | m + 1, y => rowOf y n x ++ gridOf x n m (y + 1)

theorem wr (a : Int) (h : -1000 ≤ a) (h' : a ≤ 1000) : wrap64 (a + 1) = a + 1 := by unfold wrap64; omega

theorem spec_row (x0 b c d : Int) (y : Int) : ∀ (n : Nat) (k : Nat) (x : Int) (l : List S26) (r : List S26), 1 ≤ x → c ≤ 52 → c + 1 - x = n → l.length + n < 100000 →
    spec_CellsOf.l0 k (l ++ rowOf y n x) (wrap64 (y + 1)) x0 b c d = some r → spec_CellsOf.l1 (k + n + 1) l y x x0 b c d = some r
  | 0, k, x, l, r, h1, h2, h3, h4, h => by
    rw [rowOf, List.append_nil] at h
    simp only [spec_CellsOf.l1]; rw [if_neg (by omega)]; exact h
  | n + 1, k, x, l, r, h1, h2, h3, h4, h => by
    have := spec_row x0 b c d y n k (x + 1) (l ++ [⟨x, y⟩]) r (by omega) h2 (by omega) (by simp; omega) (by simpa [rowOf] using h)
    rw [show k + (n + 1) + 1 = (k + n + 1) + 1 by omega]
    simp only [spec_CellsOf.l1]; rw [if_pos (by omega), if_pos (by omega), wr x (by omega) (by omega)]; exact this

theorem impl_row (x0 b c d : Int) (y : Int) : ∀ (n : Nat) (k : Nat) (x : Int) (l : List S26) (r : List S26), 1 ≤ x → c ≤ 52 → c + 1 - x = n → l.length + n < 100000 →
    impl_CellsOf.l0 k (l ++ rowOf y n x) (wrap64 (y + 1)) x0 b c d = some r → impl_CellsOf.l1 (k + n + 1) l y x x0 b c d = some r
  | 0, k, x, l, r, h1, h2, h3, h4, h => by
    rw [rowOf, List.append_nil] at h
    simp only [impl_CellsOf.l1]; rw [if_neg (by omega)]; exact h
  | n + 1, k, x, l, r, h1, h2, h3, h4, h => by
    have := impl_row x0 b c d y n k (x + 1) (l ++ [⟨x, y⟩]) r (by omega) h2 (by omega) (by simp; omega) (by simpa [rowOf] using h)
    rw [show k + (n + 1) + 1 = (k + n + 1) + 1 by omega]
    simp only [impl_CellsOf.l1]; rw [if_pos (by omega), if_pos (by omega), wr x (by omega) (by omega)]; exact this

theorem spec_grid (x b c d : Int) (n : Nat) (h1 : 1 ≤ x) (h2 : c ≤ 52) (h3 : c + 1 - x = n) (hd : d ≤ 99) : ∀ (m : Nat) (y : Int) (l : List S26), 1 ≤ y → d + 1 - y = m → l.length + m * 60 < 90000 →
    spec_CellsOf.l0 (m * (n + 2) + 1) l y x b c d = some (l ++ gridOf x n m y)
  | 0, y, l, hy, hm, hl => by
    simp only [Nat.zero_mul, spec_CellsOf.l0, gridOf, List.append_nil]; rw [if_neg (by omega)]
  | m + 1, y, l, hy, hm, hl => by
    have hr := spec_grid x b c d n h1 h2 h3 hd m (y + 1) (l ++ rowOf y n x) (by omega) (by omega) (by rw [List.length_append, rowOf_length]; omega)
    rw [← wr y (by omega) (by omega)] at hr
    have := spec_row x b c d y n _ x l _ h1 h2 h3 (by omega) hr
    rw [wr y (by omega) (by omega)] at this
    rw [show (m + 1) * (n + 2) + 1 = (m * (n + 2) + 1 + n + 1) + 1 by rw [Nat.add_mul]; omega]
    simp only [spec_CellsOf.l0]; rw [if_pos (by omega), this]; simp [gridOf]

theorem impl_grid (x b c d : Int) (n : Nat) (h1 : 1 ≤ x) (h2 : c ≤ 52) (h3 : c + 1 - x = n) (hd : d ≤ 99) : ∀ (m : Nat) (y : Int) (l : List S26), 1 ≤ y → d + 1 - y = m → l.length + m * 60 < 90000 →
    impl_CellsOf.l0 (m * (n + 2) + 1) l y x b c d = some (l ++ gridOf x n m y)
  | 0, y, l, hy, hm, hl => by
    simp only [Nat.zero_mul, impl_CellsOf.l0, gridOf, List.append_nil]; rw [if_neg (by omega)]
  | m + 1, y, l, hy, hm, hl => by
    have hr := impl_grid x b c d n h1 h2 h3 hd m (y + 1) (l ++ rowOf y n x) (by omega) (by omega) (by rw [List.length_append, rowOf_length]; omega)
    rw [← wr y (by omega) (by omega)] at hr
    have := impl_row x b c d y n _ x l _ h1 h2 h3 (by omega) hr
    rw [wr y (by omega) (by omega)] at this
    rw [show (m + 1) * (n + 2) + 1 = (m * (n + 2) + 1 + n + 1) + 1 by rw [Nat.add_mul]; omega]
    simp only [impl_CellsOf.l0]; rw [if_pos (by omega), this]; simp [gridOf]

theorem cells_some (a b c d : Int) : ∃ r : List S26, r.length ≤ 100000 ∧ ∃ k, spec_CellsOf.f k a b c d = some r ∧ impl_CellsOf.f k a b c d = some r := by
  obtain ⟨q, h1, h2, h3⟩ := areaOk_some a b c d
  cases q with
  | false => exact ⟨[], by simp, 0, by unfold spec_CellsOf.f; simp [h1], by unfold impl_CellsOf.f; simp [h2]⟩
  | true =>
    obtain ⟨g1, g2, g3, g4, g5, g6⟩ := h3 rfl
    obtain ⟨n, hn⟩ := Int.eq_ofNat_of_zero_le (show 0 ≤ c + 1 - a by omega)
    obtain ⟨m, hm⟩ := Int.eq_ofNat_of_zero_le (show 0 ≤ d + 1 - b by omega)
    have gl : ∀ (m : Nat) (y : Int), (gridOf a n m y).length = m * n := by
      intro m
      induction m with
      | zero => intro y; simp [gridOf]
      | succ m ih => intro y; simp [gridOf, rowOf_length, ih, Nat.add_mul]; omega
    refine ⟨gridOf a n m b, ?_, m * (n + 2) + 1, ?_, ?_⟩
    · rw [gl]
      have := Nat.mul_le_mul (show m ≤ 99 by omega) (show n ≤ 52 by omega)
      omega
    · unfold spec_CellsOf.f
      rw [h1]
      simp only [Option.bind_some, if_true]
      have := spec_grid a b c d n g1 g3 hn g6 m b [] g4 hm (by simp; omega)
      simpa using this
    · unfold impl_CellsOf.f
      rw [h2]
      simp only [Option.bind_some, if_true]
      have := impl_grid a b c d n g1 g3 hn g6 m b [] g4 hm (by simp; omega)
      simpa using this

theorem eq_same (l : List S26) (hl : l.length ≤ 100000) : ∀ (d k : Nat) (i : Int), 0 ≤ i → (l.length : Int) - i = d → d < k → laws_eqRefS.l0 k l l i = some true
  | 0, k, i, h0, h1, hk => by
    obtain ⟨k, rfl⟩ : ∃ m, k = m + 1 := ⟨k - 1, by omega⟩
    simp only [laws_eqRefS.l0]; rw [if_neg (by omega)]
  | d + 1, k, i, h0, h1, hk => by
    obtain ⟨k, rfl⟩ : ∃ m, k = m + 1 := ⟨k - 1, by omega⟩
    have := eq_same l hl d k (i + 1) (by omega) (by omega) (by omega)
    have hw : wrap64 (i + 1) = i + 1 := by unfold wrap64; omega
    simp only [laws_eqRefS.l0]; rw [if_pos (by omega), if_pos h0, if_pos (by omega), hw, this]
    simp [laws_eqRef.f]

/-- What marking writes from place i on, number j being the next. -/
def marked : List S26 → Int → List S26
  | [], _ => []
  | _ :: l, j => ⟨j, j + 1⟩ :: marked l (j + 2)
theorem marked_length : ∀ (l : List S26) j, (marked l j).length = l.length
  | [], _ => rfl
  | _ :: l, j => by simp [marked, marked_length l]

theorem rd_mid (p : List S26) (x : S26) (q : List S26) (i : Int) (hi : i = (p.length : Int)) : rd_T26 (p ++ x :: q) i = x := by
  subst hi
  simp [rd_T26]
theorem set_mid (p : List S26) (x y : S26) (q : List S26) (i : Int) (hi : i = (p.length : Int)) : (p ++ x :: q).set i.toNat y = p ++ y :: q := by
  subst hi
  simp

theorem mark_loop : ∀ (q p : List S26) (k : Nat) (i j : Int), i = (p.length : Int) → 0 ≤ j → j + 2 * q.length ≤ 1000000 → (p ++ q).length ≤ 100000 → q.length < k →
    laws_markRefS.l0 k (p ++ q) j i = some (j + 2 * (q.length : Int), p ++ marked q j)
  | [], p, k, i, j, hi, hj, hj2, hl, hk => by
    obtain ⟨k, rfl⟩ : ∃ m, k = m + 1 := ⟨k - 1, by omega⟩
    simp only [laws_markRefS.l0, List.append_nil, marked]; rw [if_neg (by omega)]; simp
  | x :: q, p, k, i, j, hi, hj, hj2, hl, hk => by
    obtain ⟨k, rfl⟩ : ∃ m, k = m + 1 := ⟨k - 1, by omega⟩
    simp only [List.length_cons, List.length_append] at hj2 hl hk
    have ih := mark_loop q (p ++ [⟨j, j + 1⟩]) k (i + 1) (j + 2) (by simp [hi]) (by omega) (by omega) (by simp; omega) (by omega)
    have hw : wrap64 (i + 1) = i + 1 := by unfold wrap64; omega
    have w1 : wrap64 (j + 1) = j + 1 := by unfold wrap64; omega
    have w2 : wrap64 (j + 1 + 1) = j + 2 := by unfold wrap64; omega
    simp only [laws_markRefS.l0]
    rw [if_pos (by simp; omega), if_pos (by omega), rd_mid p x q i hi, set_mid p x _ q i hi]
    simp only [Option.bind_some]
    rw [rd_mid p _ q i hi, set_mid p _ _ q i hi, hw, w1, w2]
    simp only [List.append_assoc, List.singleton_append] at ih
    rw [ih]
    simp [marked]
    omega

theorem held_loop : ∀ (q p : List S26) (k : Nat) (i j : Int), i = (p.length : Int) → 0 ≤ j → j + 2 * q.length ≤ 1000000 → (p ++ q).length ≤ 100000 → q.length < k →
    laws_heldRefS.l0 k (p ++ marked q j) j i = some (j + 2 * (q.length : Int))
  | [], p, k, i, j, hi, hj, hj2, hl, hk => by
    obtain ⟨k, rfl⟩ : ∃ m, k = m + 1 := ⟨k - 1, by omega⟩
    simp only [laws_heldRefS.l0, List.append_nil, marked]; rw [if_neg (by omega)]; simp
  | x :: q, p, k, i, j, hi, hj, hj2, hl, hk => by
    obtain ⟨k, rfl⟩ : ∃ m, k = m + 1 := ⟨k - 1, by omega⟩
    simp only [List.length_cons, List.length_append] at hj2 hl hk
    have ih := held_loop q (p ++ [⟨j, j + 1⟩]) k (i + 1) (j + 2) (by simp [hi]) (by omega) (by omega) (by simp; omega) (by omega)
    have hw : wrap64 (i + 1) = i + 1 := by unfold wrap64; omega
    have w1 : wrap64 (j + 1) = j + 1 := by unfold wrap64; omega
    have w2 : wrap64 (j + 1 + 1) = j + 2 := by unfold wrap64; omega
    have hlt : i < ((p ++ (⟨j, j + 1⟩ : S26) :: marked q (j + 2)).length : Int) := by simp; omega
    rw [marked]
    simp only [laws_heldRefS.l0]
    rw [if_pos hlt, if_pos (show 0 ≤ i by omega), rd_mid p _ _ i hi, if_pos rfl, w1, if_pos rfl, hw, w2]
    simp only [List.append_assoc, List.singleton_append] at ih
    rw [ih]
    simp
    omega

theorem FnExactCellsOf : ∀ (a0_0 : Int) (a0_1 : Int) (a0_2 : Int) (a0_3 : Int), (Lit.int .i64 a0_0).wf = true → (Lit.int .i64 a0_1).wf = true → (Lit.int .i64 a0_2).wf = true → (Lit.int .i64 a0_3).wf = true → ∃ k, laws_FnExactCellsOf.f k a0_0 a0_1 a0_2 a0_3 = some true := by
  intro a b c d _ _ _ _
  obtain ⟨r, hr, k, k1, k2⟩ := cells_some a b c d
  obtain ⟨K, K1, K2⟩ : ∃ K, k ≤ K ∧ r.length < K := ⟨k + r.length + 1, by omega, by omega⟩
  have s1 : spec_CellsOf.f K a b c d = some r := at_rounds (spec_CellsOf.mono a b c d) K1 k1
  have s2 : impl_CellsOf.f K a b c d = some r := at_rounds (impl_CellsOf.mono a b c d) K1 k2
  have e1 : laws_eqRefS.f K r r = some true := by
    unfold laws_eqRefS.f
    rw [if_pos rfl]
    exact eq_same r hr r.length K 0 (by omega) (by omega) K2
  have m1 : laws_markRefS.f K r 1 = some (1 + 2 * (r.length : Int), marked r 1) := by
    unfold laws_markRefS.f
    have := mark_loop r [] K 0 1 rfl (by omega) (by omega) (by simpa using hr) K2
    simpa using this
  have h1 : laws_heldRefS.f K (marked r 1) 1 = some (1 + 2 * (r.length : Int)) := by
    unfold laws_heldRefS.f
    have := held_loop r [] K 0 1 rfl (by omega) (by omega) (by simpa using hr) K2
    simpa using this
  refine ⟨K, ?_⟩
  unfold laws_FnExactCellsOf.f laws_toArea.f laws_toRef.f
  simp only [Option.bind_some]
  rw [s1, s2]
  simp only [Option.bind_some]
  rw [e1, m1]
  simp only [Option.bind_some, if_true]
  rw [h1]
  simp only [Option.bind_some]
  rw [if_neg (by omega)]
  simp [e1, h1]
  omega

end Go.Proofs.Ytoodcplobkflfaa.Pure
