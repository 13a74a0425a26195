/-
  What the functions that FnExactLess calls answer, said of their trees. No condition beside those that stand in the statements.
-/
import Derived.Test.YtaannlnlddbgdaaTFnExactLess
import Derived.Lib.Strings
namespace Go.Proofs.Ytaannlnlddbgdaa.KFnExactLess
open Go.Eng
set_option linter.unusedVariables false
set_option linter.unusedSimpArgs false
def Ev {R : Type} (F : Nat → Option R) (r : R) : Prop := ∃ n0, ∀ n, n0 ≤ n → F n = some r
theorem tl_len (s : ByteArray) : s.toList.length = s.size := by rw [Go.Lib.toList_data]; rfl
theorem toList_nil : (ByteArray.mk #[]).toList = [] := by decide +kernel
theorem wf64 {x : Int} (h : (Lit.int .i64 x).wf = true) : -9223372036854775808 ≤ x ∧ x ≤ 9223372036854775807 := by
  simp only [Lit.wf, Bool.and_eq_true, decide_eq_true_eq] at h
  have h1 : IntKind.i64.min = -9223372036854775808 := by decide
  have h2 : IntKind.i64.max = 9223372036854775807 := by decide
  omega
theorem wrap64 {x : Int} (h : -9223372036854775808 ≤ x ∧ x ≤ 9223372036854775807) : IntKind.i64.wrap x = x := by
  unfold IntKind.wrap
  have e1 : (2 : Int) ^ (64 - 1) = 9223372036854775808 := by decide
  have e2 : (2 : Int) ^ 64 = 18446744073709551616 := by decide
  simp only [IntKind.signed, IntKind.bits, Bool.true_and, decide_eq_true_eq, e1, e2]
  split <;> omega
theorem wrap64_in (x : Int) : -9223372036854775808 ≤ IntKind.i64.wrap x ∧ IntKind.i64.wrap x ≤ 9223372036854775807 := by
  unfold IntKind.wrap
  have e1 : (2 : Int) ^ (64 - 1) = 9223372036854775808 := by decide
  have e2 : (2 : Int) ^ 64 = 18446744073709551616 := by decide
  simp only [IntKind.signed, IntKind.bits, Bool.true_and, decide_eq_true_eq, e1, e2]
  split <;> omega
theorem get_of_lt {s : ByteArray} {i : Nat} (h : i < s.size) : ∃ c, s.toList[i]? = some c := ⟨_, List.getElem?_eq_getElem (by rw [tl_len]; exact h)⟩
theorem drop_cons {α : Type} {s : List α} {i : Nat} {c : α} (h : s[i]? = some c) : s.drop i = c :: s.drop (i + 1) := by
  obtain ⟨h1, rfl⟩ := List.getElem?_eq_some_iff.1 h
  exact List.drop_eq_getElem_cons h1
theorem loopF_inl {V R : Type} {B : V → Tr (V ⊕ R)} {m : Nat} {v v' : V} (h : (B v).run = some (.inl v')) : loopF B (m + 1) v = loopF B m v' := by simp only [loopF, h]
theorem loopF_inr {V R : Type} {B : V → Tr (V ⊕ R)} {m : Nat} {v : V} {r : R} (h : (B v).run = some (.inr r)) : loopF B (m + 1) v = some r := by simp only [loopF, h]
theorem up1 {n n0 : Nat} (h : n0 + 1 ≤ n) : ∃ m, n = m + 1 ∧ n0 ≤ m := ⟨n - 1, by omega, by omega⟩
theorem run_done {α : Type} (x : α) : (Tr.done x).run = some x := rfl
theorem run_fail {α : Type} : (Tr.fail : Tr α).run = none := rfl
theorem run_ask {α : Type} (b : Bool) (t f : Tr α) : (Tr.ask b t f).run = if b = true then t.run else f.run := by cases b <;> rfl
theorem run_opt {α β : Type} (o : Option β) (k : β → Tr α) : (Tr.opt o k).run = o.bind fun x => (k x).run := by cases o <;> rfl
theorem run_inl {α β γ : Type} (x : β) (k : β → Tr α) (l : γ → Tr α) : (Tr.alt (.inl x) k l).run = (k x).run := rfl
theorem run_inr {α β γ : Type} (x : γ) (k : β → Tr α) (l : γ → Tr α) : (Tr.alt (.inr x) k l).run = (l x).run := rfl
theorem ev_spec_l1In (x lo hi : Int) : Ev (F_spec_l1In · x lo hi) (decide (lo ≤ x ∧ x ≤ hi)) := by
  refine ⟨1, fun n hn => ?_⟩
  obtain ⟨m, rfl, hm⟩ := up1 hn
  simp only [F_spec_l1In, T_spec_l1In, run_done, run_fail, run_ask, run_opt, run_inl, run_inr, Option.bind_some]
  by_cases h : x ≥ lo <;> simp [h]
theorem ev_impl_within (x lo hi : Int) : Ev (F_impl_within · x lo hi) (decide (lo ≤ x ∧ x ≤ hi)) := by
  refine ⟨1, fun n hn => ?_⟩
  obtain ⟨m, rfl, hm⟩ := up1 hn
  simp only [F_impl_within, T_impl_within, run_done, run_fail, run_ask, run_opt, run_inl, run_inr, Option.bind_some]
  by_cases h : x ≥ lo <;> simp [h]
/-- the bytes from 32 to 126 -/
def okc (c : UInt8) : Bool := decide (32 ≤ c.toNat ∧ c.toNat ≤ 126)
def plainN (s : ByteArray) (most : Int) : Bool := s.toList.all okc && decide ((s.size : Int) ≤ most)
def okV (k n : Int) (s : ByteArray) : Bool :=
  if k = 2 then decide (n = 0) && plainN s 200 else (s.toList == []) && (if k = 0 then decide (n = 0) else if k = 1 then decide (-1000000000000000 ≤ n ∧ n ≤ 1000000000000000) else if k = 3 then decide (0 ≤ n ∧ n ≤ 1) else if k = 4 then decide (1 ≤ n ∧ n ≤ 5) else false)
theorem l2Plain_loop (n : Nat) (s : ByteArray) (hb : s.size ≤ 140737488351232) : ∀ (m i M : Nat), s.size = i + m → m + 1 ≤ M →
    loopF (B_spec_l2Plain_13 n) M (s, (i : Int)) = some (if (s.toList.drop i).all okc then .inr s else .inl false)
  | m, i, 0, h1, h2 => by omega
  | 0, i, M + 1, h1, h2 => by
    rw [loopF_inr (r := .inr s) (by simp [B_spec_l2Plain_13, run_done, run_fail, run_ask, run_opt, run_inl, run_inr, Option.bind_some, show ¬ ((i : Int) < s.size) by omega])]
    rw [List.drop_eq_nil_of_le (by rw [tl_len]; omega)]
    rfl
  | m + 1, i, M + 1, h1, h2 => by
    obtain ⟨c, hc⟩ := get_of_lt (s := s) (i := i) (by omega)
    have hi : (i : Int) < s.size := by omega
    rw [drop_cons hc]
    by_cases c1 : (c.toNat : Int) < 32
    · rw [loopF_inr (r := .inl false) (by simp [B_spec_l2Plain_13, run_done, run_fail, run_ask, run_opt, run_inl, run_inr, Option.bind_some, hi, hc, c1])]
      have : okc c = false := by simp [okc]; omega
      simp [this]
    · by_cases c2 : (c.toNat : Int) > 126
      · rw [loopF_inr (r := .inl false) (by simp [B_spec_l2Plain_13, run_done, run_fail, run_ask, run_opt, run_inl, run_inr, Option.bind_some, hi, hc, c1, c2])]
        have : okc c = false := by simp [okc]; omega
        simp [this]
      · have hw : IntKind.i64.wrap ((i : Int) + 1) = ((i + 1 : Nat) : Int) := by rw [wrap64 (by omega)]; omega
        rw [loopF_inl (v' := (s, ((i + 1 : Nat) : Int))) (by simp [B_spec_l2Plain_13, run_done, run_fail, run_ask, run_opt, run_inl, run_inr, Option.bind_some, hi, hc, c1, c2, hw])]
        rw [l2Plain_loop n s hb m (i + 1) M (by omega) (by omega)]
        have : okc c = true := by simp [okc]; omega
        simp [this]
theorem ev_spec_l2Plain (s : ByteArray) (hb : s.size ≤ 140737488351232) : Ev (F_spec_l2Plain · s) (plainN s 200) := by
  refine ⟨s.size + 2, fun n hn => ?_⟩
  obtain ⟨m, rfl, hm⟩ := up1 hn
  have h := l2Plain_loop m s hb s.size 0 m (by omega) (by omega)
  simp only [F_spec_l2Plain, T_spec_l2Plain, run_done, run_fail, run_ask, run_opt, run_inl, run_inr, Option.bind_some]
  simp only [Int.natCast_zero, List.drop_zero] at h
  rw [h]
  cases hc : s.toList.all okc <;> simp [run_done, run_fail, run_ask, run_opt, run_inl, run_inr, Option.bind_some, plainN, hc]
theorem isText_loop (n : Nat) (s : ByteArray) (y : Int) (hb : s.size ≤ 140737488351232) : ∀ (m i M : Nat), s.size = i + m → m + 1 ≤ M →
    loopF (B_impl_isText_13 n) M (s, y, (s.size : Int), (i : Int)) = some (if (s.toList.drop i).all okc then .inr (s, y) else .inl false)
  | m, i, 0, h1, h2 => by omega
  | 0, i, M + 1, h1, h2 => by
    rw [loopF_inr (r := .inr (s, y)) (by simp [B_impl_isText_13, run_done, run_fail, run_ask, run_opt, run_inl, run_inr, Option.bind_some, show ¬ ((i : Int) < s.size) by omega])]
    rw [List.drop_eq_nil_of_le (by rw [tl_len]; omega)]
    rfl
  | m + 1, i, M + 1, h1, h2 => by
    obtain ⟨c, hc⟩ := get_of_lt (s := s) (i := i) (by omega)
    have hi : (i : Int) < s.size := by omega
    rw [drop_cons hc]
    by_cases c1 : (c.toNat : Int) < 32
    · rw [loopF_inr (r := .inl false) (by simp [B_impl_isText_13, run_done, run_fail, run_ask, run_opt, run_inl, run_inr, Option.bind_some, hi, hc, c1])]
      have : okc c = false := by simp [okc]; omega
      simp [this]
    · by_cases c2 : (c.toNat : Int) > 126
      · rw [loopF_inr (r := .inl false) (by simp [B_impl_isText_13, run_done, run_fail, run_ask, run_opt, run_inl, run_inr, Option.bind_some, hi, hc, c1, c2])]
        have : okc c = false := by simp [okc]; omega
        simp [this]
      · have hw : IntKind.i64.wrap ((i : Int) + 1) = ((i + 1 : Nat) : Int) := by rw [wrap64 (by omega)]; omega
        rw [loopF_inl (v' := (s, y, (s.size : Int), ((i + 1 : Nat) : Int))) (by simp [B_impl_isText_13, run_done, run_fail, run_ask, run_opt, run_inl, run_inr, Option.bind_some, hi, hc, c1, c2, hw])]
        rw [isText_loop n s y hb m (i + 1) M (by omega) (by omega)]
        have : okc c = true := by simp [okc]; omega
        simp [this]
theorem ev_impl_isText (s : ByteArray) (y : Int) (hb : s.size ≤ 140737488351232) : Ev (F_impl_isText · s y) (plainN s y) := by
  refine ⟨s.size + 2, fun n hn => ?_⟩
  obtain ⟨m, rfl, hm⟩ := up1 hn
  have h := isText_loop m s y hb s.size 0 m (by omega) (by omega)
  simp only [F_impl_isText, T_impl_isText, run_done, run_fail, run_ask, run_opt, run_inl, run_inr, Option.bind_some]
  simp only [Int.natCast_zero, List.drop_zero] at h
  rw [h]
  cases hc : s.toList.all okc <;> simp [run_done, run_fail, run_ask, run_opt, run_inl, run_inr, Option.bind_some, plainN, hc]
theorem ev_spec_ValueOk (k x : Int) (s : ByteArray) (hb : s.size ≤ 140737488351232) : Ev (F_spec_ValueOk · k x s) (okV k x s) := by
  obtain ⟨n1, h1⟩ := ev_spec_l1In x (-1000000000000000) 1000000000000000
  obtain ⟨n2, h2⟩ := ev_spec_l1In x 0 1
  obtain ⟨n3, h3⟩ := ev_spec_l1In x 1 5
  obtain ⟨n4, h4⟩ := ev_spec_l2Plain s hb
  refine ⟨n1 + n2 + n3 + n4 + 1, fun n hn => ?_⟩
  obtain ⟨m, rfl, hm⟩ := up1 hn
  have h1 := h1 m (by omega)
  dsimp only at h1
  have h2 := h2 m (by omega)
  dsimp only at h2
  have h3 := h3 m (by omega)
  dsimp only at h3
  have h4 := h4 m (by omega)
  dsimp only at h4
  simp only [F_spec_ValueOk, T_spec_ValueOk, run_done, run_fail, run_ask, run_opt, run_inl, run_inr, Option.bind_some, h1, h2, h3, h4]
  simp only [okV, toList_nil]
  by_cases k2 : k = 2
  · subst k2
    by_cases x0 : x = 0 <;> simp [x0]
  · by_cases k0 : k = 0
    · subst k0
      by_cases x0 : x = 0 <;> simp [x0]
    · by_cases k1 : k = 1
      · subst k1
        by_cases hx : -1000000000000000 ≤ x ∧ x ≤ 1000000000000000 <;> simp [hx]
      · by_cases k3 : k = 3
        · subst k3
          by_cases hx : 0 ≤ x ∧ x ≤ 1 <;> simp [hx]
        · by_cases k4 : k = 4
          · subst k4
            by_cases hx : 1 ≤ x ∧ x ≤ 5 <;> simp [hx]
          · simp [k0, k1, k2, k3, k4]
theorem ev_impl_ValueOk (k x : Int) (s : ByteArray) (hb : s.size ≤ 140737488351232) : Ev (F_impl_ValueOk · k x s) (okV k x s) := by
  obtain ⟨n1, h1⟩ := ev_impl_within x (-1000000000000000) 1000000000000000
  obtain ⟨n2, h2⟩ := ev_impl_within x 0 1
  obtain ⟨n3, h3⟩ := ev_impl_within x 1 5
  obtain ⟨n4, h4⟩ := ev_impl_isText s 200 hb
  refine ⟨n1 + n2 + n3 + n4 + 1, fun n hn => ?_⟩
  obtain ⟨m, rfl, hm⟩ := up1 hn
  have h1 := h1 m (by omega)
  dsimp only at h1
  have h2 := h2 m (by omega)
  dsimp only at h2
  have h3 := h3 m (by omega)
  dsimp only at h3
  have h4 := h4 m (by omega)
  dsimp only at h4
  simp only [F_impl_ValueOk, T_impl_ValueOk, run_done, run_fail, run_ask, run_opt, run_inl, run_inr, Option.bind_some, h1, h2, h3, h4]
  simp only [okV, toList_nil]
  by_cases k2 : k = 2
  · subst k2
    by_cases x0 : x = 0 <;> simp [x0]
  · by_cases he : s.toList = []
    · by_cases k0 : k = 0
      · subst k0
        by_cases x0 : x = 0 <;> simp [x0, he]
      · by_cases k1 : k = 1
        · subst k1; simp [he]
        · by_cases k3 : k = 3
          · subst k3; simp [he]
          · by_cases k4 : k = 4
            · subst k4; simp [he]
            · simp [k0, k1, k2, k3, k4, he]
    · simp [k2, he]
abbrev V3 := Int × Int × ByteArray
def em : ByteArray := ⟨#[]⟩
/-- a value as a number; else what is answered -/
def num (k x : Int) (s : ByteArray) : Int ⊕ V3 := if okV k x s = true then (if k = 0 ∨ k = 1 then .inl x else if k = 4 then .inr (k, x, s) else .inr (4, 2, em)) else .inr (4, 2, em)
def fin64 (z : Int) : V3 := if -1000000000000000 ≤ z ∧ z ≤ 1000000000000000 then (1, z, em) else (4, 4, em)
def arith (op : Int → Int → V3) (k x : Int) (s : ByteArray) (k' x' : Int) (s' : ByteArray) : V3 := match num k x s with
  | .inr e => e
  | .inl a => match num k' x' s' with
    | .inr e => e
    | .inl b => op a b
theorem num_inr {k x : Int} {s : ByteArray} {e : V3} (h : num k x s = .inr e) : e.1 = 4 := by
  unfold num at h
  split at h
  · split at h
    · cases h
    · split at h
      · cases h; assumption
      · cases h; rfl
  · cases h; rfl
theorem num_ne {k x : Int} {s : ByteArray} {e : V3} (h : num k x s = .inr e) : ¬ e.1 = 0 := by rw [num_inr h]; decide
theorem num_inl {k x : Int} {s : ByteArray} {a : Int} (h : num k x s = .inl a) : -1000000000000000 ≤ a ∧ a ≤ 1000000000000000 := by
  unfold num at h
  split at h
  · rename_i ho
    split at h
    · rename_i hk
      cases h
      unfold okV at ho
      rcases hk with rfl | rfl
      · simp at ho; omega
      · simp at ho; exact ho.2
    · split at h <;> cases h
  · cases h
theorem ev_spec_l2Error (x : Int) : Ev (F_spec_l2Error · x) (4, x, em) := by
  refine ⟨1, fun n hn => ?_⟩
  obtain ⟨m, rfl, hm⟩ := up1 hn
  simp only [F_spec_l2Error, T_spec_l2Error, run_done, run_fail, run_ask, run_opt, run_inl, run_inr, Option.bind_some]
  rfl
theorem ev_impl_fault (x : Int) : Ev (F_impl_fault · x) (4, x, em) := by
  refine ⟨1, fun n hn => ?_⟩
  obtain ⟨m, rfl, hm⟩ := up1 hn
  simp only [F_impl_fault, T_impl_fault, run_done, run_fail, run_ask, run_opt, run_inl, run_inr, Option.bind_some]
  rfl
theorem ev_impl_number (x : Int) : Ev (F_impl_number · x) (1, x, em) := by
  refine ⟨1, fun n hn => ?_⟩
  obtain ⟨m, rfl, hm⟩ := up1 hn
  simp only [F_impl_number, T_impl_number, run_done, run_fail, run_ask, run_opt, run_inl, run_inr, Option.bind_some]
  rfl
theorem ev_spec_l2Num (k x : Int) (s : ByteArray) (hb : s.size ≤ 140737488351232) : Ev (F_spec_l2Num · k x s) (match num k x s with | .inl a => (a, 0, 0, em) | .inr e => (0, e)) := by
  obtain ⟨n1, h1⟩ := ev_spec_ValueOk k x s hb
  obtain ⟨n2, h2⟩ := ev_spec_l2Error 2
  refine ⟨n1 + n2 + 1, fun n hn => ?_⟩
  obtain ⟨m, rfl, hm⟩ := up1 hn
  have h1 := h1 m (by omega)
  dsimp only at h1
  have h2 := h2 m (by omega)
  dsimp only at h2
  simp only [F_spec_l2Num, T_spec_l2Num, run_done, run_fail, run_ask, run_opt, run_inl, run_inr, Option.bind_some, h1, h2]
  unfold num
  cases okV k x s
  · simp
  · by_cases k0 : k = 0
    · subst k0; simp [em]
    · by_cases k1 : k = 1
      · subst k1; simp [em]
      · by_cases k4 : k = 4 <;> simp [k0, k1, k4]
theorem ev_spec_l2Two (k x : Int) (s : ByteArray) (hb : s.size ≤ 140737488351232) (k' x' : Int) (s' : ByteArray) (hb' : s'.size ≤ 140737488351232) :
    Ev (F_spec_l2Two · k x s k' x' s') (match num k x s with | .inr e => (0, 0, e) | .inl a => match num k' x' s' with | .inr e => (a, 0, e) | .inl b => (a, b, 0, 0, em)) := by
  obtain ⟨n1, h1⟩ := ev_spec_l2Num k x s hb
  obtain ⟨n2, h2⟩ := ev_spec_l2Num k' x' s' hb'
  refine ⟨n1 + n2 + 1, fun n hn => ?_⟩
  obtain ⟨m, rfl, hm⟩ := up1 hn
  have h1 := h1 m (by omega)
  dsimp only at h1
  have h2 := h2 m (by omega)
  dsimp only at h2
  simp only [F_spec_l2Two, T_spec_l2Two, run_done, run_fail, run_ask, run_opt, run_inl, run_inr, Option.bind_some, h1, h2]
  cases h3 : num k x s with
  | inr e => simp [num_ne h3]
  | inl a =>
    cases h4 : num k' x' s' with
    | inr e => simp [h3, h4]
    | inl b => simp [h3, h4]
theorem ev_spec_l2Int (x : Int) : Ev (F_spec_l2Int · x) (fin64 x) := by
  obtain ⟨n1, h1⟩ := ev_spec_l1In x (-1000000000000000) 1000000000000000
  obtain ⟨n2, h2⟩ := ev_spec_l2Error 4
  refine ⟨n1 + n2 + 1, fun n hn => ?_⟩
  obtain ⟨m, rfl, hm⟩ := up1 hn
  have h1 := h1 m (by omega)
  dsimp only at h1
  have h2 := h2 m (by omega)
  dsimp only at h2
  simp only [F_spec_l2Int, T_spec_l2Int, run_done, run_fail, run_ask, run_opt, run_inl, run_inr, Option.bind_some, h1, h2]
  unfold fin64
  by_cases h : -1000000000000000 ≤ x ∧ x ≤ 1000000000000000 <;> simp [h, em]
theorem ev_impl_bounded (x : Int) : Ev (F_impl_bounded · x) (fin64 x) := by
  obtain ⟨n1, h1⟩ := ev_impl_within x (-1000000000000000) 1000000000000000
  obtain ⟨n2, h2⟩ := ev_impl_fault 4
  obtain ⟨n3, h3⟩ := ev_impl_number x
  refine ⟨n1 + n2 + n3 + 1, fun n hn => ?_⟩
  obtain ⟨m, rfl, hm⟩ := up1 hn
  have h1 := h1 m (by omega)
  dsimp only at h1
  have h2 := h2 m (by omega)
  dsimp only at h2
  have h3 := h3 m (by omega)
  dsimp only at h3
  simp only [F_impl_bounded, T_impl_bounded, run_done, run_fail, run_ask, run_opt, run_inl, run_inr, Option.bind_some, h1, h2, h3]
  unfold fin64
  by_cases h : -1000000000000000 ≤ x ∧ x ≤ 1000000000000000 <;> simp [h, em]
theorem ev_impl_asNumber (k x : Int) (s : ByteArray) (hb : s.size ≤ 140737488351232) : Ev (F_impl_asNumber · k x s) (x, match num k x s with | .inl _ => true | .inr _ => false) := by
  obtain ⟨n1, h1⟩ := ev_impl_ValueOk k x s hb
  refine ⟨n1 + 1, fun n hn => ?_⟩
  obtain ⟨m, rfl, hm⟩ := up1 hn
  have h1 := h1 m (by omega)
  dsimp only at h1
  simp only [F_impl_asNumber, T_impl_asNumber, run_done, run_fail, run_ask, run_opt, run_inl, run_inr, Option.bind_some, h1]
  unfold num
  cases okV k x s
  · simp
  · by_cases k0 : k = 0
    · subst k0; simp
    · by_cases k1 : k = 1
      · subst k1; simp
      · by_cases k4 : k = 4 <;> simp [k0, k1, k4]
theorem num_inl_eq {k x : Int} {s : ByteArray} {a : Int} (h : num k x s = .inl a) : a = x := by
  unfold num at h
  split at h
  · split at h
    · cases h; rfl
    · split at h <;> cases h
  · cases h
theorem ev_impl_none (k x : Int) (s : ByteArray) (hb : s.size ≤ 140737488351232) {e : V3} (h : num k x s = .inr e) : Ev (F_impl_none · k x s) e := by
  obtain ⟨n1, h1⟩ := ev_impl_ValueOk k x s hb
  obtain ⟨n2, h2⟩ := ev_impl_fault 2
  refine ⟨n1 + n2 + 1, fun n hn => ?_⟩
  obtain ⟨m, rfl, hm⟩ := up1 hn
  have h1 := h1 m (by omega)
  dsimp only at h1
  have h2 := h2 m (by omega)
  dsimp only at h2
  simp only [F_impl_none, T_impl_none, run_done, run_fail, run_ask, run_opt, run_inl, run_inr, Option.bind_some, h1, h2]
  unfold num at h
  cases ho : okV k x s with
  | false => rw [ho] at h; cases h; simp
  | true =>
    rw [ho] at h
    by_cases k4 : k = 4
    · subst k4; simp at h; simp [h]
    · by_cases k0 : k = 0 ∨ k = 1
      · simp [k0] at h
      · simp [k0, k4] at h; simp [k4, h]
theorem ev_laws_szValue (k x : Int) (s : ByteArray) (left : Int) : ∃ r, Ev (F_laws_szValue · k x s left) r := by
  by_cases h : IntKind.i64.wrap (left - s.size) < 0
  · refine ⟨-1, ?_⟩
    refine ⟨1, fun n hn => ?_⟩
    obtain ⟨m, rfl, hm⟩ := up1 hn
    simp only [F_laws_szValue, T_laws_szValue, run_done, run_fail, run_ask, run_opt, run_inl, run_inr, Option.bind_some]
    simp [h]
  · refine ⟨IntKind.i64.wrap (left - s.size), ?_⟩
    refine ⟨1, fun n hn => ?_⟩
    obtain ⟨m, rfl, hm⟩ := up1 hn
    simp only [F_laws_szValue, T_laws_szValue, run_done, run_fail, run_ask, run_opt, run_inl, run_inr, Option.bind_some]
    simp [h]
theorem ev_laws_toValue (k x : Int) (s : ByteArray) : Ev (F_laws_toValue · k x s) (k, x, s) := by
  refine ⟨1, fun n hn => ?_⟩
  obtain ⟨m, rfl, hm⟩ := up1 hn
  simp only [F_laws_toValue, T_laws_toValue, run_done, run_fail, run_ask, run_opt, run_inl, run_inr, Option.bind_some]
theorem ev_laws_eqValue (k x : Int) (s : ByteArray) : Ev (F_laws_eqValue · k x s k x s) true := by
  refine ⟨1, fun n hn => ?_⟩
  obtain ⟨m, rfl, hm⟩ := up1 hn
  simp only [F_laws_eqValue, T_laws_eqValue, run_done, run_fail, run_ask, run_opt, run_inl, run_inr, Option.bind_some]
  simp
theorem ev_spec_Less (k x : Int) (s : ByteArray) (hb : s.size ≤ 140737488351232) (k' x' : Int) (s' : ByteArray) (hb' : s'.size ≤ 140737488351232) :
    Ev (F_spec_Less · k x s k' x' s') (arith (fun a b => fin64 (IntKind.i64.wrap (a - b))) k x s k' x' s') := by
  cases h3 : num k x s with
  | inr e =>
    obtain ⟨n1, h1⟩ := ev_spec_l2Two k x s hb k' x' s' hb'
    refine ⟨n1 + 1, fun n hn => ?_⟩
    obtain ⟨m, rfl, hm⟩ := up1 hn
    have h1 := h1 m (by omega)
    dsimp only at h1
    simp only [F_spec_Less, T_spec_Less, run_done, run_fail, run_ask, run_opt, run_inl, run_inr, Option.bind_some, h1]
    simp [arith, h3, num_ne h3]
  | inl a =>
    cases h4 : num k' x' s' with
    | inr e =>
      obtain ⟨n1, h1⟩ := ev_spec_l2Two k x s hb k' x' s' hb'
      refine ⟨n1 + 1, fun n hn => ?_⟩
      obtain ⟨m, rfl, hm⟩ := up1 hn
      have h1 := h1 m (by omega)
      dsimp only at h1
      simp only [F_spec_Less, T_spec_Less, run_done, run_fail, run_ask, run_opt, run_inl, run_inr, Option.bind_some, h1]
      simp [arith, h3, h4, num_ne h4]
    | inl b =>
      obtain ⟨n1, h1⟩ := ev_spec_l2Two k x s hb k' x' s' hb'
      obtain ⟨n2, h2⟩ := ev_spec_l2Int (IntKind.i64.wrap (a - b))
      refine ⟨n1 + n2 + 1, fun n hn => ?_⟩
      obtain ⟨m, rfl, hm⟩ := up1 hn
      have h1 := h1 m (by omega)
      dsimp only at h1
      have h2 := h2 m (by omega)
      dsimp only at h2
      simp only [F_spec_Less, T_spec_Less, run_done, run_fail, run_ask, run_opt, run_inl, run_inr, Option.bind_some, h1, h2]
      simp [arith, h3, h4, h2]
theorem ev_impl_Less_1 (x y : Int) : Ev (F_impl_Less_1 · x y) (fin64 (IntKind.i64.wrap (x - y))) := by
  obtain ⟨n1, h1⟩ := ev_impl_bounded (IntKind.i64.wrap (x - y))
  refine ⟨n1 + 1, fun n hn => ?_⟩
  obtain ⟨m, rfl, hm⟩ := up1 hn
  have h1 := h1 m (by omega)
  dsimp only at h1
  simp only [F_impl_Less_1, T_impl_Less_1, run_done, run_fail, run_ask, run_opt, run_inl, run_inr, Option.bind_some, h1]
theorem ev_impl_reckoned_Less (k x : Int) (s : ByteArray) (hb : s.size ≤ 140737488351232) (k' x' : Int) (s' : ByteArray) (hb' : s'.size ≤ 140737488351232) :
    Ev (F_impl_reckoned_of_impl_Less_1 · k x s k' x' s') (arith (fun a b => fin64 (IntKind.i64.wrap (a - b))) k x s k' x' s') := by
  cases hA : num k x s with
  | inr e =>
    obtain ⟨n1, h1⟩ := ev_impl_asNumber k x s hb
    obtain ⟨n2, h2⟩ := ev_impl_asNumber k' x' s' hb'
    obtain ⟨n3, h3⟩ := ev_impl_none k x s hb hA
    refine ⟨n1 + n2 + n3 + 1, fun n hn => ?_⟩
    obtain ⟨m, rfl, hm⟩ := up1 hn
    have h1 := h1 m (by omega)
    dsimp only at h1
    have h2 := h2 m (by omega)
    dsimp only at h2
    have h3 := h3 m (by omega)
    dsimp only at h3
    simp only [F_impl_reckoned_of_impl_Less_1, T_impl_reckoned_of_impl_Less_1, run_done, run_fail, run_ask, run_opt, run_inl, run_inr, Option.bind_some, h1, h2, h3]
    simp [arith, hA]
  | inl a =>
    cases hB : num k' x' s' with
    | inr e =>
      obtain ⟨n1, h1⟩ := ev_impl_asNumber k x s hb
      obtain ⟨n2, h2⟩ := ev_impl_asNumber k' x' s' hb'
      obtain ⟨n3, h3⟩ := ev_impl_none k' x' s' hb' hB
      refine ⟨n1 + n2 + n3 + 1, fun n hn => ?_⟩
      obtain ⟨m, rfl, hm⟩ := up1 hn
      have h1 := h1 m (by omega)
      dsimp only at h1
      have h2 := h2 m (by omega)
      dsimp only at h2
      have h3 := h3 m (by omega)
      dsimp only at h3
      simp only [F_impl_reckoned_of_impl_Less_1, T_impl_reckoned_of_impl_Less_1, run_done, run_fail, run_ask, run_opt, run_inl, run_inr, Option.bind_some, h1, h2, h3]
      simp [arith, hA, hB]
    | inl b =>
      have e1 := num_inl_eq hA
      have e2 := num_inl_eq hB
      subst e1; subst e2
      have b1 := num_inl hA
      have b2 := num_inl hB
      obtain ⟨n1, h1⟩ := ev_impl_asNumber k a s hb
      obtain ⟨n2, h2⟩ := ev_impl_asNumber k' b s' hb'
      obtain ⟨n3, h3⟩ := ev_impl_Less_1 a b
      refine ⟨n1 + n2 + n3 + 1, fun n hn => ?_⟩
      obtain ⟨m, rfl, hm⟩ := up1 hn
      have h1 := h1 m (by omega)
      dsimp only at h1
      have h2 := h2 m (by omega)
      dsimp only at h2
      have h3 := h3 m (by omega)
      dsimp only at h3
      simp only [F_impl_reckoned_of_impl_Less_1, T_impl_reckoned_of_impl_Less_1, run_done, run_fail, run_ask, run_opt, run_inl, run_inr, Option.bind_some, h1, h2, h3]
      simp [arith, hA, hB]
theorem ev_impl_Less (k x : Int) (s : ByteArray) (hb : s.size ≤ 140737488351232) (k' x' : Int) (s' : ByteArray) (hb' : s'.size ≤ 140737488351232) :
    Ev (F_impl_Less · k x s k' x' s') (arith (fun a b => fin64 (IntKind.i64.wrap (a - b))) k x s k' x' s') := by
  obtain ⟨n1, h1⟩ := ev_impl_reckoned_Less k x s hb k' x' s' hb'
  refine ⟨n1 + 1, fun n hn => ?_⟩
  obtain ⟨m, rfl, hm⟩ := up1 hn
  have h1 := h1 m (by omega)
  dsimp only at h1
  simp only [F_impl_Less, T_impl_Less, run_done, run_fail, run_ask, run_opt, run_inl, run_inr, Option.bind_some, h1]
theorem law (k x : Int) (s : ByteArray) (k' x' : Int) (s' : ByteArray) (w0 : (Lit.int .i64 k).wf = true) (w1 : (Lit.int .i64 x).wf = true) (hb : s.size ≤ 140737488351232) (w3 : (Lit.int .i64 k').wf = true) (w4 : (Lit.int .i64 x').wf = true) (hb' : s'.size ≤ 140737488351232) : Ev (F_laws_FnExactLess · k x s k' x' s') true := by
  obtain ⟨r1, g1⟩ := ev_laws_szValue k x s 1048576
  obtain ⟨r2, g2⟩ := ev_laws_szValue k' x' s' r1
  obtain ⟨n1, h1⟩ := g1
  obtain ⟨n2, h2⟩ := g2
  obtain ⟨n3, h3⟩ := ev_laws_toValue k x s
  obtain ⟨n4, h4⟩ := ev_laws_toValue k' x' s'
  obtain ⟨n5, h5⟩ := ev_spec_Less k x s hb k' x' s' hb'
  obtain ⟨n6, h6⟩ := ev_impl_Less k x s hb k' x' s' hb'
  obtain ⟨n7, h7⟩ := ev_laws_eqValue (arith (fun a b => fin64 (IntKind.i64.wrap (a - b))) k x s k' x' s').1 (arith (fun a b => fin64 (IntKind.i64.wrap (a - b))) k x s k' x' s').2.1 (arith (fun a b => fin64 (IntKind.i64.wrap (a - b))) k x s k' x' s').2.2
  refine ⟨n1 + n2 + n3 + n4 + n5 + n6 + n7 + 1, fun n hn => ?_⟩
  obtain ⟨m, rfl, hm⟩ := up1 hn
  have h1 := h1 m (by omega)
  dsimp only at h1
  have h2 := h2 m (by omega)
  dsimp only at h2
  have h3 := h3 m (by omega)
  dsimp only at h3
  have h4 := h4 m (by omega)
  dsimp only at h4
  have h5 := h5 m (by omega)
  dsimp only at h5
  have h6 := h6 m (by omega)
  dsimp only at h6
  have h7 := h7 m (by omega)
  dsimp only at h7
  simp only [F_laws_FnExactLess, T_laws_FnExactLess, run_done, run_fail, run_ask, run_opt, run_inl, run_inr, Option.bind_some, h1, h2, h3, h4, h5, h6, h7]
  split
  · rfl
  · split <;> simp
def absI (x : Int) : Int := if x < 0 then -x else x
def timesV (a b : Int) : V3 := if a = 0 ∨ b = 0 then fin64 0 else if absI a > Int.tdiv 1000000000000000 (absI b) then (4, 4, em) else fin64 (IntKind.i64.wrap (a * b))
theorem tdiv_in {b : Int} (h : 1 ≤ b) : 0 ≤ Int.tdiv 1000000000000000 b ∧ Int.tdiv 1000000000000000 b ≤ 1000000000000000 := by
  rw [Int.tdiv_eq_ediv_of_nonneg (by decide)]
  exact ⟨Int.ediv_nonneg (by decide) (by omega), Int.ediv_le_self _ (by decide)⟩
def okRef (c r : Int) : Bool := decide (1 ≤ c ∧ c ≤ 52) && decide (1 ≤ r ∧ r ≤ 99)
def okArea (a b c d : Int) : Bool := okRef a b && okRef c d && decide (a ≤ c) && decide (b ≤ d)
abbrev A5 := Int × Int × Int × Int × Bool
def common (x0 x1 x2 x3 x4 x5 x6 x7 : Int) : A5 :=
  if okArea x0 x1 x2 x3 = true ∧ okArea x4 x5 x6 x7 = true ∧ okArea (if x4 > x0 then x4 else x0) (if x5 > x1 then x5 else x1) (if x6 < x2 then x6 else x2) (if x7 < x3 then x7 else x3) = true then
    ((if x4 > x0 then x4 else x0), (if x5 > x1 then x5 else x1), (if x6 < x2 then x6 else x2), (if x7 < x3 then x7 else x3), true) else (0, 0, 0, 0, false)
end Go.Proofs.Ytaannlnlddbgdaa.KFnExactLess
