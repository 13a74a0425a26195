/-
  What the functions that FnExactOrder calls answer, said of their trees. No condition beside those that stand in the statements.
-/
import Derived.Test.YtoodcplobkflfaaTFnExactOrder
import Derived.Lib.Strings
namespace Go.Proofs.Ytoodcplobkflfaa.KFnExactOrder
open Go.Eng
set_option linter.unusedVariables false
set_option linter.unusedSimpArgs false
def Ev {R : Type} (F : Nat → Option R) (r : R) : Prop := ∃ n0, ∀ n, n0 ≤ n → F n = some r
theorem tl_len (s : ByteArray) : s.toList.length = s.size := by rw [Go.Lib.toList_data]; rfl
theorem toList_nil : (ByteArray.mk #[]).toList = [] := by decide +kernel
theorem wf64 {x : Int} (h : (Lit.int .i64 x).wf = true) : -9223372036854775808 ≤ x ∧ x ≤ 9223372036854775807 := by
  simp only [Lit.wf, Bool.and_eq_true, decide_eq_true_eq] at h
  have h1 : IntKind.i64.min = -9223372036854775808 := by decide
  have h2 : IntKind.i64.max = 9223372036854775807 := by decide
  omega
theorem wrap64 {x : Int} (h : -9223372036854775808 ≤ x ∧ x ≤ 9223372036854775807) : IntKind.i64.wrap x = x := by
  unfold IntKind.wrap
  have e1 : (2 : Int) ^ (64 - 1) = 9223372036854775808 := by decide
  have e2 : (2 : Int) ^ 64 = 18446744073709551616 := by decide
  simp only [IntKind.signed, IntKind.bits, Bool.true_and, decide_eq_true_eq, e1, e2]
  split <;> omega
theorem wrap64_in (x : Int) : -9223372036854775808 ≤ IntKind.i64.wrap x ∧ IntKind.i64.wrap x ≤ 9223372036854775807 := by
  unfold IntKind.wrap
  have e1 : (2 : Int) ^ (64 - 1) = 9223372036854775808 := by decide
  have e2 : (2 : Int) ^ 64 = 18446744073709551616 := by decide
  simp only [IntKind.signed, IntKind.bits, Bool.true_and, decide_eq_true_eq, e1, e2]
  split <;> omega
theorem get_of_lt {s : ByteArray} {i : Nat} (h : i < s.size) : ∃ c, s.toList[i]? = some c := ⟨_, List.getElem?_eq_getElem (by rw [tl_len]; exact h)⟩
theorem drop_cons {α : Type} {s : List α} {i : Nat} {c : α} (h : s[i]? = some c) : s.drop i = c :: s.drop (i + 1) := by
  obtain ⟨h1, rfl⟩ := List.getElem?_eq_some_iff.1 h
  exact List.drop_eq_getElem_cons h1
theorem loopF_inl {V R : Type} {B : V → Tr (V ⊕ R)} {m : Nat} {v v' : V} (h : (B v).run = some (.inl v')) : loopF B (m + 1) v = loopF B m v' := by simp only [loopF, h]
theorem loopF_inr {V R : Type} {B : V → Tr (V ⊕ R)} {m : Nat} {v : V} {r : R} (h : (B v).run = some (.inr r)) : loopF B (m + 1) v = some r := by simp only [loopF, h]
theorem up1 {n n0 : Nat} (h : n0 + 1 ≤ n) : ∃ m, n = m + 1 ∧ n0 ≤ m := ⟨n - 1, by omega, by omega⟩
theorem run_done {α : Type} (x : α) : (Tr.done x).run = some x := rfl
theorem run_fail {α : Type} : (Tr.fail : Tr α).run = none := rfl
theorem run_ask {α : Type} (b : Bool) (t f : Tr α) : (Tr.ask b t f).run = if b = true then t.run else f.run := by cases b <;> rfl
theorem run_opt {α β : Type} (o : Option β) (k : β → Tr α) : (Tr.opt o k).run = o.bind fun x => (k x).run := by cases o <;> rfl
theorem run_inl {α β γ : Type} (x : β) (k : β → Tr α) (l : γ → Tr α) : (Tr.alt (.inl x) k l).run = (k x).run := rfl
theorem run_inr {α β γ : Type} (x : γ) (k : β → Tr α) (l : γ → Tr α) : (Tr.alt (.inr x) k l).run = (l x).run := rfl
/-- the bytes from 32 to 126 -/
def okc (c : UInt8) : Bool := decide (32 ≤ c.toNat ∧ c.toNat ≤ 126)
def plainN (s : ByteArray) (most : Int) : Bool := s.toList.all okc && decide ((s.size : Int) ≤ most)
def okV (k n : Int) (s : ByteArray) : Bool :=
  if k = 2 then decide (n = 0) && plainN s 200 else (s.toList == []) && (if k = 0 then decide (n = 0) else if k = 1 then decide (-1000000000000000 ≤ n ∧ n ≤ 1000000000000000) else if k = 3 then decide (0 ≤ n ∧ n ≤ 1) else if k = 4 then decide (1 ≤ n ∧ n ≤ 5) else false)
abbrev V3 := Int × Int × ByteArray
def em : ByteArray := ⟨#[]⟩
/-- a value as a number; else what is answered -/
def num (k x : Int) (s : ByteArray) : Int ⊕ V3 := if okV k x s = true then (if k = 0 ∨ k = 1 then .inl x else if k = 4 then .inr (k, x, s) else .inr (4, 2, em)) else .inr (4, 2, em)
def fin64 (z : Int) : V3 := if -1000000000000000 ≤ z ∧ z ≤ 1000000000000000 then (1, z, em) else (4, 4, em)
def arith (op : Int → Int → V3) (k x : Int) (s : ByteArray) (k' x' : Int) (s' : ByteArray) : V3 := match num k x s with
  | .inr e => e
  | .inl a => match num k' x' s' with
    | .inr e => e
    | .inl b => op a b
theorem num_inr {k x : Int} {s : ByteArray} {e : V3} (h : num k x s = .inr e) : e.1 = 4 := by
  unfold num at h
  split at h
  · split at h
    · cases h
    · split at h
      · cases h; assumption
      · cases h; rfl
  · cases h; rfl
theorem num_ne {k x : Int} {s : ByteArray} {e : V3} (h : num k x s = .inr e) : ¬ e.1 = 0 := by rw [num_inr h]; decide
theorem num_inl {k x : Int} {s : ByteArray} {a : Int} (h : num k x s = .inl a) : -1000000000000000 ≤ a ∧ a ≤ 1000000000000000 := by
  unfold num at h
  split at h
  · rename_i ho
    split at h
    · rename_i hk
      cases h
      unfold okV at ho
      rcases hk with rfl | rfl
      · simp at ho; omega
      · simp at ho; exact ho.2
    · split at h <;> cases h
  · cases h
theorem ev_laws_szValue (k x : Int) (s : ByteArray) (left : Int) : ∃ r, Ev (F_laws_szValue · k x s left) r := by
  by_cases h : IntKind.i64.wrap (left - s.size) < 0
  · refine ⟨-1, ?_⟩
    refine ⟨1, fun n hn => ?_⟩
    obtain ⟨m, rfl, hm⟩ := up1 hn
    simp only [F_laws_szValue, T_laws_szValue, run_done, run_fail, run_ask, run_opt, run_inl, run_inr, Option.bind_some]
    simp [h]
  · refine ⟨IntKind.i64.wrap (left - s.size), ?_⟩
    refine ⟨1, fun n hn => ?_⟩
    obtain ⟨m, rfl, hm⟩ := up1 hn
    simp only [F_laws_szValue, T_laws_szValue, run_done, run_fail, run_ask, run_opt, run_inl, run_inr, Option.bind_some]
    simp [h]
theorem ev_laws_toValue (k x : Int) (s : ByteArray) : Ev (F_laws_toValue · k x s) (k, x, s) := by
  refine ⟨1, fun n hn => ?_⟩
  obtain ⟨m, rfl, hm⟩ := up1 hn
  simp only [F_laws_toValue, T_laws_toValue, run_done, run_fail, run_ask, run_opt, run_inl, run_inr, Option.bind_some]
def absI (x : Int) : Int := if x < 0 then -x else x
def timesV (a b : Int) : V3 := if a = 0 ∨ b = 0 then fin64 0 else if absI a > Int.tdiv 1000000000000000 (absI b) then (4, 4, em) else fin64 (IntKind.i64.wrap (a * b))
theorem tdiv_in {b : Int} (h : 1 ≤ b) : 0 ≤ Int.tdiv 1000000000000000 b ∧ Int.tdiv 1000000000000000 b ≤ 1000000000000000 := by
  rw [Int.tdiv_eq_ediv_of_nonneg (by decide)]
  exact ⟨Int.ediv_nonneg (by decide) (by omega), Int.ediv_le_self _ (by decide)⟩
def okRef (c r : Int) : Bool := decide (1 ≤ c ∧ c ≤ 52) && decide (1 ≤ r ∧ r ≤ 99)
def okArea (a b c d : Int) : Bool := okRef a b && okRef c d && decide (a ≤ c) && decide (b ≤ d)
abbrev A5 := Int × Int × Int × Int × Bool
def common (x0 x1 x2 x3 x4 x5 x6 x7 : Int) : A5 :=
  if okArea x0 x1 x2 x3 = true ∧ okArea x4 x5 x6 x7 = true ∧ okArea (if x4 > x0 then x4 else x0) (if x5 > x1 then x5 else x1) (if x6 < x2 then x6 else x2) (if x7 < x3 then x7 else x3) = true then
    ((if x4 > x0 then x4 else x0), (if x5 > x1 then x5 else x1), (if x6 < x2 then x6 else x2), (if x7 < x3 then x7 else x3), true) else (0, 0, 0, 0, false)
def cmpI (x y : Int) : Int := if x < y then -1 else if x > y then 1 else 0
def cmpS (x y : ByteArray) : Int := if Op.bytesLess x.toList y.toList = true then -1 else if x.toList = y.toList then 0 else 1
def firstNZ : List Int → Int
  | [] => 0
  | x :: r => if x ≠ 0 then x else firstNZ r
theorem ev_isNaN_i (x : Int) : Ev (F_cmp_isNaN_int64 · x) false := by
  refine ⟨1, fun n hn => ?_⟩
  obtain ⟨m, rfl, hm⟩ := up1 hn
  simp only [F_cmp_isNaN_int64, T_cmp_isNaN_int64, run_done, run_fail, run_ask, run_opt, run_inl, run_inr, Option.bind_some]
  simp
theorem ev_isNaN_s (x : ByteArray) : Ev (F_cmp_isNaN_string · x) false := by
  refine ⟨1, fun n hn => ?_⟩
  obtain ⟨m, rfl, hm⟩ := up1 hn
  simp only [F_cmp_isNaN_string, T_cmp_isNaN_string, run_done, run_fail, run_ask, run_opt, run_inl, run_inr, Option.bind_some]
  simp
theorem ev_cmp_i (x y : Int) : Ev (F_cmp_Compare_int64 · x y) (cmpI x y) := by
  obtain ⟨n1, h1⟩ := ev_isNaN_i x
  obtain ⟨n2, h2⟩ := ev_isNaN_i y
  refine ⟨n1 + n2 + 1, fun n hn => ?_⟩
  obtain ⟨m, rfl, hm⟩ := up1 hn
  have h1 := h1 m (by omega)
  dsimp only at h1
  have h2 := h2 m (by omega)
  dsimp only at h2
  simp only [F_cmp_Compare_int64, T_cmp_Compare_int64, run_done, run_fail, run_ask, run_opt, run_inl, run_inr, Option.bind_some, h1, h2]
  unfold cmpI
  by_cases h : x < y
  · simp [h]
  · by_cases h' : x > y
    · have h'' : y < x := h'
      simp [h, h'']
    · have h'' : ¬ y < x := h'
      simp [h, h'']
theorem ev_cmp_s (x y : ByteArray) : Ev (F_cmp_Compare_string · x y) (cmpS x y) := by
  obtain ⟨n1, h1⟩ := ev_isNaN_s x
  obtain ⟨n2, h2⟩ := ev_isNaN_s y
  refine ⟨n1 + n2 + 1, fun n hn => ?_⟩
  obtain ⟨m, rfl, hm⟩ := up1 hn
  have h1 := h1 m (by omega)
  dsimp only at h1
  have h2 := h2 m (by omega)
  dsimp only at h2
  simp only [F_cmp_Compare_string, T_cmp_Compare_string, run_done, run_fail, run_ask, run_opt, run_inl, run_inr, Option.bind_some, h1, h2]
  unfold cmpS
  cases h : Op.bytesLess x.toList y.toList
  · by_cases h' : x.toList = y.toList <;> simp [h']
  · simp
theorem or_loop (n : Nat) (l : List Int) (hb : l.length ≤ 1000) : ∀ (m i M : Nat), l.length = i + m → m + 1 ≤ M →
    loopF (B_cmp_Or_int_29 n) M (0, l.map (fun x => [PV.i .i64 x]), (l.length : Int), (i : Int)) = some (if firstNZ (l.drop i) ≠ 0 then .inl (firstNZ (l.drop i)) else .inr 0)
  | m, i, 0, h1, h2 => by omega
  | 0, i, M + 1, h1, h2 => by
    rw [loopF_inr (r := .inr 0) (by simp [B_cmp_Or_int_29, run_done, run_fail, run_ask, run_opt, run_inl, run_inr, Option.bind_some, show ¬ ((i : Int) < l.length) by omega])]
    rw [List.drop_eq_nil_of_le (by omega)]
    rfl
  | m + 1, i, M + 1, h1, h2 => by
    have hl : i < l.length := by omega
    have hg := List.getElem?_eq_getElem hl
    have hi : (i : Int) < l.length := by omega
    rw [drop_cons hg]
    generalize l[i] = c at hg
    by_cases hc : c = 0
    · subst hc
      have hw : IntKind.i64.wrap ((i : Int) + 1) = ((i + 1 : Nat) : Int) := by rw [wrap64 (by omega)]; omega
      rw [loopF_inl (v' := (0, l.map (fun x => [PV.i .i64 x]), (l.length : Int), ((i + 1 : Nat) : Int))) (by simp [B_cmp_Or_int_29, run_done, run_fail, run_ask, run_opt, run_inl, run_inr, Option.bind_some, hi, hg, cellI, hw])]
      rw [or_loop n l hb m (i + 1) M (by omega) (by omega)]
      simp [firstNZ]
    · rw [loopF_inr (r := .inl c) (by simp [B_cmp_Or_int_29, run_done, run_fail, run_ask, run_opt, run_inl, run_inr, Option.bind_some, hi, hg, cellI, hc])]
      simp [firstNZ, hc]
theorem ev_cmp_Or (l : List Int) (hb : l.length ≤ 1000) : Ev (F_cmp_Or_int · (l.map (fun x => [PV.i .i64 x]))) (firstNZ l) := by
  refine ⟨l.length + 2, fun n hn => ?_⟩
  obtain ⟨m, rfl, hm⟩ := up1 hn
  have h := or_loop m l hb l.length 0 m (by omega) (by omega)
  simp only [F_cmp_Or_int, T_cmp_Or_int, run_done, run_fail, run_ask, run_opt, run_inl, run_inr, Option.bind_some]
  simp only [Int.natCast_zero, List.drop_zero] at h
  simp only [List.length_map]
  rw [h]
  by_cases hc : firstNZ l = 0 <;> simp [run_done, run_fail, run_ask, run_opt, run_inl, run_inr, Option.bind_some, hc]
def ordV (k x : Int) (s : ByteArray) (k' x' : Int) (s' : ByteArray) : Int := firstNZ [cmpI k k', cmpI x x', cmpS s s']
theorem ev_impl_Order (k x : Int) (s : ByteArray) (k' x' : Int) (s' : ByteArray) : Ev (F_impl_Order · k x s k' x' s') (ordV k x s k' x' s') := by
  obtain ⟨n1, h1⟩ := ev_cmp_i k k'
  obtain ⟨n2, h2⟩ := ev_cmp_i x x'
  obtain ⟨n3, h3⟩ := ev_cmp_s s s'
  obtain ⟨n4, h4⟩ := ev_cmp_Or [cmpI k k', cmpI x x', cmpS s s'] (by simp)
  refine ⟨n1 + n2 + n3 + n4 + 1, fun n hn => ?_⟩
  obtain ⟨m, rfl, hm⟩ := up1 hn
  have h1 := h1 m (by omega)
  dsimp only at h1
  have h2 := h2 m (by omega)
  dsimp only at h2
  have h3 := h3 m (by omega)
  dsimp only at h3
  have h4 := h4 m (by omega)
  dsimp only at h4
  simp only [F_impl_Order, T_impl_Order, run_done, run_fail, run_ask, run_opt, run_inl, run_inr, Option.bind_some, h1, h2, h3, h4]
  simp only [List.map_cons, List.map_nil] at h4
  simp [h4, ordV]
theorem ev_spec_l2Sign (a b : Bool) : Ev (F_spec_l2Sign · a b) (if a = true then -1 else if b = true then 1 else 0) := by
  refine ⟨1, fun n hn => ?_⟩
  obtain ⟨m, rfl, hm⟩ := up1 hn
  simp only [F_spec_l2Sign, T_spec_l2Sign, run_done, run_fail, run_ask, run_opt, run_inl, run_inr, Option.bind_some]
  cases a <;> cases b <;> rfl
theorem ev_spec_Order (k x : Int) (s : ByteArray) (k' x' : Int) (s' : ByteArray) : Ev (F_spec_Order · k x s k' x' s') (ordV k x s k' x' s') := by
  obtain ⟨n1, h1⟩ := ev_spec_l2Sign (decide (k < k')) true
  obtain ⟨n2, h2⟩ := ev_spec_l2Sign (decide (x < x')) true
  obtain ⟨n3, h3⟩ := ev_spec_l2Sign (Op.bytesLess s.toList s'.toList) (!(Op.bytesLess s.toList s'.toList || s.toList == s'.toList))
  refine ⟨n1 + n2 + n3 + 1, fun n hn => ?_⟩
  obtain ⟨m, rfl, hm⟩ := up1 hn
  have h1 := h1 m (by omega)
  dsimp only at h1
  have h2 := h2 m (by omega)
  dsimp only at h2
  have h3 := h3 m (by omega)
  dsimp only at h3
  simp only [F_spec_Order, T_spec_Order, run_done, run_fail, run_ask, run_opt, run_inl, run_inr, Option.bind_some, h1, h2, h3]
  unfold ordV
  by_cases hk : k = k'
  · subst hk
    by_cases hx : x = x'
    · subst hx
      have e1 : cmpI k k = 0 := by simp [cmpI]
      have e2 : cmpI x x = 0 := by simp [cmpI]
      simp only [bne_self_eq_false, Bool.false_eq_true, if_false, e1, e2, firstNZ, ne_eq, not_true_eq_false]
      unfold cmpS
      cases h : Op.bytesLess s.toList s'.toList
      · by_cases h' : s.toList = s'.toList <;> simp [h']
      · simp
    · have e1 : cmpI k k = 0 := by simp [cmpI]
      have e2 : ¬ cmpI x x' = 0 := by unfold cmpI; split; decide; split; decide; omega
      simp only [bne_self_eq_false, Bool.false_eq_true, if_false, e1, firstNZ, ne_eq, not_true_eq_false, e2, not_false_eq_true, if_true]
      have hx' : (x != x') = true := by simpa using hx
      simp only [hx', if_true, Option.some.injEq]
      unfold cmpI
      by_cases h : x < x'
      · simp [h]
      · have : x > x' := by omega
        simp [h, this]
  · have e2 : ¬ cmpI k k' = 0 := by unfold cmpI; split; decide; split; decide; omega
    have hk' : (k != k') = true := by simpa using hk
    simp only [hk', if_true, firstNZ, ne_eq, e2, not_false_eq_true, Option.some.injEq]
    unfold cmpI
    by_cases h : k < k'
    · simp [h]
    · have : k > k' := by omega
      simp [h, this]
theorem law (k x : Int) (s : ByteArray) (k' x' : Int) (s' : ByteArray) (w0 : (Lit.int .i64 k).wf = true) (w1 : (Lit.int .i64 x).wf = true) (hb : s.size ≤ 140737488351232) (w3 : (Lit.int .i64 k').wf = true) (w4 : (Lit.int .i64 x').wf = true) (hb' : s'.size ≤ 140737488351232) : Ev (F_laws_FnExactOrder · k x s k' x' s') true := by
  obtain ⟨r1, g1⟩ := ev_laws_szValue k x s 1048576
  obtain ⟨r2, g2⟩ := ev_laws_szValue k' x' s' r1
  obtain ⟨n1, h1⟩ := g1
  obtain ⟨n2, h2⟩ := g2
  obtain ⟨n3, h3⟩ := ev_laws_toValue k x s
  obtain ⟨n4, h4⟩ := ev_laws_toValue k' x' s'
  obtain ⟨n5, h5⟩ := ev_spec_Order k x s k' x' s'
  obtain ⟨n6, h6⟩ := ev_impl_Order k x s k' x' s'
  refine ⟨n1 + n2 + n3 + n4 + n5 + n6 + 1, fun n hn => ?_⟩
  obtain ⟨m, rfl, hm⟩ := up1 hn
  have h1 := h1 m (by omega)
  dsimp only at h1
  have h2 := h2 m (by omega)
  dsimp only at h2
  have h3 := h3 m (by omega)
  dsimp only at h3
  have h4 := h4 m (by omega)
  dsimp only at h4
  have h5 := h5 m (by omega)
  dsimp only at h5
  have h6 := h6 m (by omega)
  dsimp only at h6
  simp only [F_laws_FnExactOrder, T_laws_FnExactOrder, run_done, run_fail, run_ask, run_opt, run_inl, run_inr, Option.bind_some, h1, h2, h3, h4, h5, h6]
  split
  · rfl
  · split <;> simp
def heldB (op o : Int) : Bool := if op = 6 then o == 0 else if op = 7 then o != 0 else if op = 8 then decide (o < 0) else if op = 9 then decide (o ≤ 0) else if op = 10 then decide (o > 0) else decide (o ≥ 0)
def held (op k x : Int) (s : ByteArray) (k' x' : Int) (s' : ByteArray) : Int × Int × ByteArray :=
  if okV k x s = true ∧ okV k' x' s' = true ∧ 6 ≤ op ∧ op ≤ 11 then
    (if k = 4 then (k, x, s) else if k' = 4 then (k', x', s') else (3, if heldB op (ordV (if k = 0 then k' else k) x s (if k' = 0 then k else k') x' s') = true then 1 else 0, em))
  else (4, 2, em)
end Go.Proofs.Ytoodcplobkflfaa.KFnExactOrder
