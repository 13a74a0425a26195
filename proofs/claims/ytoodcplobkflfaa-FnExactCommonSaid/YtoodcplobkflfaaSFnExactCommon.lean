/-
  What the functions that FnExactCommon calls answer, said of their trees. No condition beside those that stand in the statements.
-/
import Derived.Test.YtoodcplobkflfaaTFnExactCommon
import Derived.Lib.Strings
namespace Go.Proofs.Ytoodcplobkflfaa.KFnExactCommon
open Go.Eng
set_option linter.unusedVariables false
set_option linter.unusedSimpArgs false
def Ev {R : Type} (F : Nat → Option R) (r : R) : Prop := ∃ n0, ∀ n, n0 ≤ n → F n = some r
theorem tl_len (s : ByteArray) : s.toList.length = s.size := by rw [Go.Lib.toList_data]; rfl
theorem toList_nil : (ByteArray.mk #[]).toList = [] := by decide +kernel
theorem wf64 {x : Int} (h : (Lit.int .i64 x).wf = true) : -9223372036854775808 ≤ x ∧ x ≤ 9223372036854775807 := by
  simp only [Lit.wf, Bool.and_eq_true, decide_eq_true_eq] at h
  have h1 : IntKind.i64.min = -9223372036854775808 := by decide
  have h2 : IntKind.i64.max = 9223372036854775807 := by decide
  omega
theorem wrap64 {x : Int} (h : -9223372036854775808 ≤ x ∧ x ≤ 9223372036854775807) : IntKind.i64.wrap x = x := by
  unfold IntKind.wrap
  have e1 : (2 : Int) ^ (64 - 1) = 9223372036854775808 := by decide
  have e2 : (2 : Int) ^ 64 = 18446744073709551616 := by decide
  simp only [IntKind.signed, IntKind.bits, Bool.true_and, decide_eq_true_eq, e1, e2]
  split <;> omega
theorem wrap64_in (x : Int) : -9223372036854775808 ≤ IntKind.i64.wrap x ∧ IntKind.i64.wrap x ≤ 9223372036854775807 := by
  unfold IntKind.wrap
  have e1 : (2 : Int) ^ (64 - 1) = 9223372036854775808 := by decide
  have e2 : (2 : Int) ^ 64 = 18446744073709551616 := by decide
  simp only [IntKind.signed, IntKind.bits, Bool.true_and, decide_eq_true_eq, e1, e2]
  split <;> omega
theorem get_of_lt {s : ByteArray} {i : Nat} (h : i < s.size) : ∃ c, s.toList[i]? = some c := ⟨_, List.getElem?_eq_getElem (by rw [tl_len]; exact h)⟩
theorem drop_cons {α : Type} {s : List α} {i : Nat} {c : α} (h : s[i]? = some c) : s.drop i = c :: s.drop (i + 1) := by
  obtain ⟨h1, rfl⟩ := List.getElem?_eq_some_iff.1 h
  exact List.drop_eq_getElem_cons h1
theorem loopF_inl {V R : Type} {B : V → Tr (V ⊕ R)} {m : Nat} {v v' : V} (h : (B v).run = some (.inl v')) : loopF B (m + 1) v = loopF B m v' := by simp only [loopF, h]
theorem loopF_inr {V R : Type} {B : V → Tr (V ⊕ R)} {m : Nat} {v : V} {r : R} (h : (B v).run = some (.inr r)) : loopF B (m + 1) v = some r := by simp only [loopF, h]
theorem up1 {n n0 : Nat} (h : n0 + 1 ≤ n) : ∃ m, n = m + 1 ∧ n0 ≤ m := ⟨n - 1, by omega, by omega⟩
theorem run_done {α : Type} (x : α) : (Tr.done x).run = some x := rfl
theorem run_fail {α : Type} : (Tr.fail : Tr α).run = none := rfl
theorem run_ask {α : Type} (b : Bool) (t f : Tr α) : (Tr.ask b t f).run = if b = true then t.run else f.run := by cases b <;> rfl
theorem run_opt {α β : Type} (o : Option β) (k : β → Tr α) : (Tr.opt o k).run = o.bind fun x => (k x).run := by cases o <;> rfl
theorem run_inl {α β γ : Type} (x : β) (k : β → Tr α) (l : γ → Tr α) : (Tr.alt (.inl x) k l).run = (k x).run := rfl
theorem run_inr {α β γ : Type} (x : γ) (k : β → Tr α) (l : γ → Tr α) : (Tr.alt (.inr x) k l).run = (l x).run := rfl
theorem ev_spec_l1In (x lo hi : Int) : Ev (F_spec_l1In · x lo hi) (decide (lo ≤ x ∧ x ≤ hi)) := by
  refine ⟨1, fun n hn => ?_⟩
  obtain ⟨m, rfl, hm⟩ := up1 hn
  simp only [F_spec_l1In, T_spec_l1In, run_done, run_fail, run_ask, run_opt, run_inl, run_inr, Option.bind_some]
  by_cases h : x ≥ lo <;> simp [h]
theorem ev_impl_within (x lo hi : Int) : Ev (F_impl_within · x lo hi) (decide (lo ≤ x ∧ x ≤ hi)) := by
  refine ⟨1, fun n hn => ?_⟩
  obtain ⟨m, rfl, hm⟩ := up1 hn
  simp only [F_impl_within, T_impl_within, run_done, run_fail, run_ask, run_opt, run_inl, run_inr, Option.bind_some]
  by_cases h : x ≥ lo <;> simp [h]
/-- the bytes from 32 to 126 -/
def okc (c : UInt8) : Bool := decide (32 ≤ c.toNat ∧ c.toNat ≤ 126)
def plainN (s : ByteArray) (most : Int) : Bool := s.toList.all okc && decide ((s.size : Int) ≤ most)
def okV (k n : Int) (s : ByteArray) : Bool :=
  if k = 2 then decide (n = 0) && plainN s 200 else (s.toList == []) && (if k = 0 then decide (n = 0) else if k = 1 then decide (-1000000000000000 ≤ n ∧ n ≤ 1000000000000000) else if k = 3 then decide (0 ≤ n ∧ n ≤ 1) else if k = 4 then decide (1 ≤ n ∧ n ≤ 5) else false)
abbrev V3 := Int × Int × ByteArray
def em : ByteArray := ⟨#[]⟩
/-- a value as a number; else what is answered -/
def num (k x : Int) (s : ByteArray) : Int ⊕ V3 := if okV k x s = true then (if k = 0 ∨ k = 1 then .inl x else if k = 4 then .inr (k, x, s) else .inr (4, 2, em)) else .inr (4, 2, em)
def fin64 (z : Int) : V3 := if -1000000000000000 ≤ z ∧ z ≤ 1000000000000000 then (1, z, em) else (4, 4, em)
def arith (op : Int → Int → V3) (k x : Int) (s : ByteArray) (k' x' : Int) (s' : ByteArray) : V3 := match num k x s with
  | .inr e => e
  | .inl a => match num k' x' s' with
    | .inr e => e
    | .inl b => op a b
theorem num_inr {k x : Int} {s : ByteArray} {e : V3} (h : num k x s = .inr e) : e.1 = 4 := by
  unfold num at h
  split at h
  · split at h
    · cases h
    · split at h
      · cases h; assumption
      · cases h; rfl
  · cases h; rfl
theorem num_ne {k x : Int} {s : ByteArray} {e : V3} (h : num k x s = .inr e) : ¬ e.1 = 0 := by rw [num_inr h]; decide
theorem num_inl {k x : Int} {s : ByteArray} {a : Int} (h : num k x s = .inl a) : -1000000000000000 ≤ a ∧ a ≤ 1000000000000000 := by
  unfold num at h
  split at h
  · rename_i ho
    split at h
    · rename_i hk
      cases h
      unfold okV at ho
      rcases hk with rfl | rfl
      · simp at ho; omega
      · simp at ho; exact ho.2
    · split at h <;> cases h
  · cases h
def absI (x : Int) : Int := if x < 0 then -x else x
def timesV (a b : Int) : V3 := if a = 0 ∨ b = 0 then fin64 0 else if absI a > Int.tdiv 1000000000000000 (absI b) then (4, 4, em) else fin64 (IntKind.i64.wrap (a * b))
theorem tdiv_in {b : Int} (h : 1 ≤ b) : 0 ≤ Int.tdiv 1000000000000000 b ∧ Int.tdiv 1000000000000000 b ≤ 1000000000000000 := by
  rw [Int.tdiv_eq_ediv_of_nonneg (by decide)]
  exact ⟨Int.ediv_nonneg (by decide) (by omega), Int.ediv_le_self _ (by decide)⟩
theorem ev_laws_toRef (x y : Int) : Ev (F_laws_toRef · x y) (x, y) := by
  refine ⟨1, fun n hn => ?_⟩
  obtain ⟨m, rfl, hm⟩ := up1 hn
  simp only [F_laws_toRef, T_laws_toRef, run_done, run_fail, run_ask, run_opt, run_inl, run_inr, Option.bind_some]
theorem ev_laws_toArea (x y z w : Int) : Ev (F_laws_toArea · x y z w) (x, y, z, w) := by
  obtain ⟨n1, h1⟩ := ev_laws_toRef x y
  obtain ⟨n2, h2⟩ := ev_laws_toRef z w
  refine ⟨n1 + n2 + 1, fun n hn => ?_⟩
  obtain ⟨m, rfl, hm⟩ := up1 hn
  have h1 := h1 m (by omega)
  dsimp only at h1
  have h2 := h2 m (by omega)
  dsimp only at h2
  simp only [F_laws_toArea, T_laws_toArea, run_done, run_fail, run_ask, run_opt, run_inl, run_inr, Option.bind_some, h1, h2]
theorem ev_laws_eqRef (x y z w : Int) : Ev (F_laws_eqRef · x y z w) (decide (x = z ∧ y = w)) := by
  refine ⟨1, fun n hn => ?_⟩
  obtain ⟨m, rfl, hm⟩ := up1 hn
  simp only [F_laws_eqRef, T_laws_eqRef, run_done, run_fail, run_ask, run_opt, run_inl, run_inr, Option.bind_some]
  by_cases h : x = z <;> by_cases h' : y = w <;> simp [h, h']
theorem ev_laws_eqArea (x y z w : Int) : Ev (F_laws_eqArea · x y z w x y z w) true := by
  obtain ⟨n1, h1⟩ := ev_laws_eqRef x y x y
  obtain ⟨n2, h2⟩ := ev_laws_eqRef z w z w
  refine ⟨n1 + n2 + 1, fun n hn => ?_⟩
  obtain ⟨m, rfl, hm⟩ := up1 hn
  have h1 := h1 m (by omega)
  dsimp only at h1
  have h2 := h2 m (by omega)
  dsimp only at h2
  simp only [F_laws_eqArea, T_laws_eqArea, run_done, run_fail, run_ask, run_opt, run_inl, run_inr, Option.bind_some, h1, h2]
  simp
def okRef (c r : Int) : Bool := decide (1 ≤ c ∧ c ≤ 52) && decide (1 ≤ r ∧ r ≤ 99)
def okArea (a b c d : Int) : Bool := okRef a b && okRef c d && decide (a ≤ c) && decide (b ≤ d)
theorem ev_spec_RefOk (c r : Int) : Ev (F_spec_RefOk · c r) (okRef c r) := by
  obtain ⟨n1, h1⟩ := ev_spec_l1In c 1 52
  obtain ⟨n2, h2⟩ := ev_spec_l1In r 1 99
  refine ⟨n1 + n2 + 1, fun n hn => ?_⟩
  obtain ⟨m, rfl, hm⟩ := up1 hn
  have h1 := h1 m (by omega)
  dsimp only at h1
  have h2 := h2 m (by omega)
  dsimp only at h2
  simp only [F_spec_RefOk, T_spec_RefOk, run_done, run_fail, run_ask, run_opt, run_inl, run_inr, Option.bind_some, h1, h2]
  unfold okRef
  cases decide (1 ≤ c ∧ c ≤ 52) <;> simp
theorem ev_impl_RefOk (c r : Int) : Ev (F_impl_RefOk · c r) (okRef c r) := by
  obtain ⟨n1, h1⟩ := ev_impl_within c 1 52
  obtain ⟨n2, h2⟩ := ev_impl_within r 1 99
  refine ⟨n1 + n2 + 1, fun n hn => ?_⟩
  obtain ⟨m, rfl, hm⟩ := up1 hn
  have h1 := h1 m (by omega)
  dsimp only at h1
  have h2 := h2 m (by omega)
  dsimp only at h2
  simp only [F_impl_RefOk, T_impl_RefOk, run_done, run_fail, run_ask, run_opt, run_inl, run_inr, Option.bind_some, h1, h2]
  unfold okRef
  cases decide (1 ≤ c ∧ c ≤ 52) <;> simp
theorem ev_spec_AreaOk (a b c d : Int) : Ev (F_spec_AreaOk · a b c d) (okArea a b c d) := by
  obtain ⟨n1, h1⟩ := ev_spec_RefOk a b
  obtain ⟨n2, h2⟩ := ev_spec_RefOk c d
  refine ⟨n1 + n2 + 1, fun n hn => ?_⟩
  obtain ⟨m, rfl, hm⟩ := up1 hn
  have h1 := h1 m (by omega)
  dsimp only at h1
  have h2 := h2 m (by omega)
  dsimp only at h2
  simp only [F_spec_AreaOk, T_spec_AreaOk, run_done, run_fail, run_ask, run_opt, run_inl, run_inr, Option.bind_some, h1, h2]
  unfold okArea
  cases okRef a b <;> cases okRef c d <;> by_cases h : a ≤ c <;> simp [h]
theorem ev_impl_AreaOk (a b c d : Int) : Ev (F_impl_AreaOk · a b c d) (okArea a b c d) := by
  obtain ⟨n1, h1⟩ := ev_impl_RefOk a b
  obtain ⟨n2, h2⟩ := ev_impl_RefOk c d
  refine ⟨n1 + n2 + 1, fun n hn => ?_⟩
  obtain ⟨m, rfl, hm⟩ := up1 hn
  have h1 := h1 m (by omega)
  dsimp only at h1
  have h2 := h2 m (by omega)
  dsimp only at h2
  simp only [F_impl_AreaOk, T_impl_AreaOk, run_done, run_fail, run_ask, run_opt, run_inl, run_inr, Option.bind_some, h1, h2]
  unfold okArea
  cases okRef a b <;> cases okRef c d <;> by_cases h : a ≤ c <;> simp [h]
abbrev A5 := Int × Int × Int × Int × Bool
def common (x0 x1 x2 x3 x4 x5 x6 x7 : Int) : A5 :=
  if okArea x0 x1 x2 x3 = true ∧ okArea x4 x5 x6 x7 = true ∧ okArea (if x4 > x0 then x4 else x0) (if x5 > x1 then x5 else x1) (if x6 < x2 then x6 else x2) (if x7 < x3 then x7 else x3) = true then
    ((if x4 > x0 then x4 else x0), (if x5 > x1 then x5 else x1), (if x6 < x2 then x6 else x2), (if x7 < x3 then x7 else x3), true) else (0, 0, 0, 0, false)
theorem ev_spec_Common (x0 x1 x2 x3 x4 x5 x6 x7 : Int) : Ev (F_spec_Common · x0 x1 x2 x3 x4 x5 x6 x7) (common x0 x1 x2 x3 x4 x5 x6 x7) := by
  obtain ⟨n1, h1⟩ := ev_spec_AreaOk x0 x1 x2 x3
  obtain ⟨n2, h2⟩ := ev_spec_AreaOk x4 x5 x6 x7
  obtain ⟨n3, h3⟩ := ev_spec_AreaOk (if x4 > x0 then x4 else x0) (if x5 > x1 then x5 else x1) (if x6 < x2 then x6 else x2) (if x7 < x3 then x7 else x3)
  refine ⟨n1 + n2 + n3 + 1, fun n hn => ?_⟩
  obtain ⟨m, rfl, hm⟩ := up1 hn
  have h1 := h1 m (by omega)
  dsimp only at h1
  have h2 := h2 m (by omega)
  dsimp only at h2
  have h3 := h3 m (by omega)
  dsimp only at h3
  simp only [F_spec_Common, T_spec_Common, run_done, run_fail, run_ask, run_opt, run_inl, run_inr, Option.bind_some, h1, h2, h3]
  unfold common
  cases okArea x0 x1 x2 x3 <;> cases okArea x4 x5 x6 x7 <;> simp
  cases okArea (if x0 < x4 then x4 else x0) (if x1 < x5 then x5 else x1) (if x6 < x2 then x6 else x2) (if x7 < x3 then x7 else x3) <;> simp
theorem ev_impl_Common (x0 x1 x2 x3 x4 x5 x6 x7 : Int) : Ev (F_impl_Common · x0 x1 x2 x3 x4 x5 x6 x7) (common x0 x1 x2 x3 x4 x5 x6 x7) := by
  obtain ⟨n1, h1⟩ := ev_impl_AreaOk x0 x1 x2 x3
  obtain ⟨n2, h2⟩ := ev_impl_AreaOk x4 x5 x6 x7
  obtain ⟨n3, h3⟩ := ev_impl_AreaOk (if x4 > x0 then x4 else x0) (if x5 > x1 then x5 else x1) (if x6 < x2 then x6 else x2) (if x7 < x3 then x7 else x3)
  refine ⟨n1 + n2 + n3 + 1, fun n hn => ?_⟩
  obtain ⟨m, rfl, hm⟩ := up1 hn
  have h1 := h1 m (by omega)
  dsimp only at h1
  have h2 := h2 m (by omega)
  dsimp only at h2
  have h3 := h3 m (by omega)
  dsimp only at h3
  simp only [F_impl_Common, T_impl_Common, run_done, run_fail, run_ask, run_opt, run_inl, run_inr, Option.bind_some, h1, h2, h3]
  unfold common
  cases okArea x0 x1 x2 x3 <;> cases okArea x4 x5 x6 x7 <;> simp
  cases okArea (if x0 < x4 then x4 else x0) (if x1 < x5 then x5 else x1) (if x6 < x2 then x6 else x2) (if x7 < x3 then x7 else x3) <;> simp
theorem law (x0 x1 x2 x3 x4 x5 x6 x7 : Int) (w0 : (Lit.int .i64 x0).wf = true) (w1 : (Lit.int .i64 x1).wf = true) (w2 : (Lit.int .i64 x2).wf = true) (w3 : (Lit.int .i64 x3).wf = true) (w4 : (Lit.int .i64 x4).wf = true) (w5 : (Lit.int .i64 x5).wf = true) (w6 : (Lit.int .i64 x6).wf = true) (w7 : (Lit.int .i64 x7).wf = true) :
    Ev (F_laws_FnExactCommon · x0 x1 x2 x3 x4 x5 x6 x7) true := by
  obtain ⟨n1, h1⟩ := ev_laws_toArea x0 x1 x2 x3
  obtain ⟨n2, h2⟩ := ev_laws_toArea x4 x5 x6 x7
  obtain ⟨n3, h3⟩ := ev_spec_Common x0 x1 x2 x3 x4 x5 x6 x7
  obtain ⟨n4, h4⟩ := ev_impl_Common x0 x1 x2 x3 x4 x5 x6 x7
  obtain ⟨n5, h5⟩ := ev_laws_eqArea (common x0 x1 x2 x3 x4 x5 x6 x7).1 (common x0 x1 x2 x3 x4 x5 x6 x7).2.1 (common x0 x1 x2 x3 x4 x5 x6 x7).2.2.1 (common x0 x1 x2 x3 x4 x5 x6 x7).2.2.2.1
  refine ⟨n1 + n2 + n3 + n4 + n5 + 1, fun n hn => ?_⟩
  obtain ⟨m, rfl, hm⟩ := up1 hn
  have h1 := h1 m (by omega)
  dsimp only at h1
  have h2 := h2 m (by omega)
  dsimp only at h2
  have h3 := h3 m (by omega)
  dsimp only at h3
  have h4 := h4 m (by omega)
  dsimp only at h4
  have h5 := h5 m (by omega)
  dsimp only at h5
  simp only [F_laws_FnExactCommon, T_laws_FnExactCommon, run_done, run_fail, run_ask, run_opt, run_inl, run_inr, Option.bind_some, h1, h2, h3, h4, h5]
  simp
end Go.Proofs.Ytoodcplobkflfaa.KFnExactCommon
