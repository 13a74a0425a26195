/-
  What the functions that FnExactLookup calls answer, said of their trees. No condition beside those that stand in the statements.
-/
import Derived.Test.YtaannlnlddbgdabTFnExactLookup
import Derived.Test.YtaannlnlddbgdabE32
import Derived.Lib.Strings
namespace Go.Proofs.Ytaannlnlddbgdab.KFnExactLookup
open Go.Eng
set_option linter.unusedVariables false
set_option linter.unusedSimpArgs false
def Ev {R : Type} (F : Nat → Option R) (r : R) : Prop := ∃ n0, ∀ n, n0 ≤ n → F n = some r
theorem tl_len (s : ByteArray) : s.toList.length = s.size := by rw [Go.Lib.toList_data]; rfl
theorem toList_nil : (ByteArray.mk #[]).toList = [] := by decide +kernel
theorem wf64 {x : Int} (h : (Lit.int .i64 x).wf = true) : -9223372036854775808 ≤ x ∧ x ≤ 9223372036854775807 := by
  simp only [Lit.wf, Bool.and_eq_true, decide_eq_true_eq] at h
  have h1 : IntKind.i64.min = -9223372036854775808 := by decide
  have h2 : IntKind.i64.max = 9223372036854775807 := by decide
  omega
theorem wrap64 {x : Int} (h : -9223372036854775808 ≤ x ∧ x ≤ 9223372036854775807) : IntKind.i64.wrap x = x := by
  unfold IntKind.wrap
  have e1 : (2 : Int) ^ (64 - 1) = 9223372036854775808 := by decide
  have e2 : (2 : Int) ^ 64 = 18446744073709551616 := by decide
  simp only [IntKind.signed, IntKind.bits, Bool.true_and, decide_eq_true_eq, e1, e2]
  split <;> omega
theorem wrap64_in (x : Int) : -9223372036854775808 ≤ IntKind.i64.wrap x ∧ IntKind.i64.wrap x ≤ 9223372036854775807 := by
  unfold IntKind.wrap
  have e1 : (2 : Int) ^ (64 - 1) = 9223372036854775808 := by decide
  have e2 : (2 : Int) ^ 64 = 18446744073709551616 := by decide
  simp only [IntKind.signed, IntKind.bits, Bool.true_and, decide_eq_true_eq, e1, e2]
  split <;> omega
theorem get_of_lt {s : ByteArray} {i : Nat} (h : i < s.size) : ∃ c, s.toList[i]? = some c := ⟨_, List.getElem?_eq_getElem (by rw [tl_len]; exact h)⟩
theorem drop_cons {α : Type} {s : List α} {i : Nat} {c : α} (h : s[i]? = some c) : s.drop i = c :: s.drop (i + 1) := by
  obtain ⟨h1, rfl⟩ := List.getElem?_eq_some_iff.1 h
  exact List.drop_eq_getElem_cons h1
theorem loopF_inl {V R : Type} {B : V → Tr (V ⊕ R)} {m : Nat} {v v' : V} (h : (B v).run = some (.inl v')) : loopF B (m + 1) v = loopF B m v' := by simp only [loopF, h]
theorem loopF_inr {V R : Type} {B : V → Tr (V ⊕ R)} {m : Nat} {v : V} {r : R} (h : (B v).run = some (.inr r)) : loopF B (m + 1) v = some r := by simp only [loopF, h]
theorem up1 {n n0 : Nat} (h : n0 + 1 ≤ n) : ∃ m, n = m + 1 ∧ n0 ≤ m := ⟨n - 1, by omega, by omega⟩
theorem run_done {α : Type} (x : α) : (Tr.done x).run = some x := rfl
theorem run_fail {α : Type} : (Tr.fail : Tr α).run = none := rfl
theorem run_ask {α : Type} (b : Bool) (t f : Tr α) : (Tr.ask b t f).run = if b = true then t.run else f.run := by cases b <;> rfl
theorem run_opt {α β : Type} (o : Option β) (k : β → Tr α) : (Tr.opt o k).run = o.bind fun x => (k x).run := by cases o <;> rfl
theorem run_inl {α β γ : Type} (x : β) (k : β → Tr α) (l : γ → Tr α) : (Tr.alt (.inl x) k l).run = (k x).run := rfl
theorem run_inr {α β γ : Type} (x : γ) (k : β → Tr α) (l : γ → Tr α) : (Tr.alt (.inr x) k l).run = (l x).run := rfl
theorem ev_list {α R : Type} {F : α → Nat → Option R} {f : α → R} : ∀ (l : List α), (∀ c ∈ l, Ev (F c) (f c)) → ∃ n0, ∀ n, n0 ≤ n → ∀ c ∈ l, F c n = some (f c)
  | [], _ => ⟨0, fun n _ c hc => by cases hc⟩
  | a :: l, h => by
    obtain ⟨n1, h1⟩ := h a (List.mem_cons_self ..)
    obtain ⟨n2, h2⟩ := ev_list l fun c hc => h c (List.mem_cons_of_mem _ hc)
    exact ⟨n1 + n2, fun n hn c hc => by
      rcases List.mem_cons.1 hc with rfl | hc
      · exact h1 n (by omega)
      · exact h2 n (by omega) c hc⟩
/-- a list that is written anew, place by place -/
theorem conv_loop {R : Type} {B : List (List PV) × Nat × Int × List (List PV) → Tr ((List (List PV) × Nat × Int × List (List PV)) ⊕ R)} {rows : List (List PV)} {z : List PV} {r : List (List PV) → R}
    (hs : ∀ (i : Nat) (acc : List (List PV)) (e : List PV), rows[i]? = some e → acc.length = rows.length → acc[i]? = some z → (B (rows, rows.length, (i : Int), acc)).run = some (.inl (rows, rows.length, ((i + 1 : Nat) : Int), acc.set i e)))
    (he : ∀ acc : List (List PV), acc.length = rows.length → (B (rows, rows.length, (rows.length : Int), acc)).run = some (.inr (r acc))) :
    ∀ (m i M : Nat), rows.length = i + m → m + 1 ≤ M → loopF B M (rows, rows.length, (i : Int), rows.take i ++ zrows z m) = some (r rows)
  | m, i, 0, h1, h2 => by omega
  | 0, i, M + 1, h1, h2 => by
    have hi : i = rows.length := by omega
    subst hi
    have e : rows.take rows.length ++ zrows z 0 = rows := by simp [zrows]
    rw [e, loopF_inr (he rows rfl)]
  | m + 1, i, M + 1, h1, h2 => by
    have hl : i < rows.length := by omega
    have hg := List.getElem?_eq_getElem hl
    have hlen : (rows.take i ++ zrows z (m + 1)).length = rows.length := by simp [zrows]; omega
    have hz : (rows.take i ++ zrows z (m + 1))[i]? = some z := by
      rw [List.getElem?_append_right (by simp; omega)]
      simp [zrows, Nat.min_eq_left (Nat.le_of_lt hl)]
    rw [loopF_inl (hs i _ _ hg hlen hz)]
    have e : (rows.take i ++ zrows z (m + 1)).set i rows[i] = rows.take (i + 1) ++ zrows z m := by
      have hx : zrows z (m + 1) = z :: zrows z m := by simp [zrows, List.replicate_succ]
      rw [hx, List.set_append_right (h := by simp; omega)]
      have : i - (rows.take i).length = 0 := by simp; omega
      rw [this, List.set_cons_zero, show rows.take (i + 1) = rows.take i ++ [rows[i]] from by rw [List.take_add_one, hg]; rfl, List.append_assoc]
      rfl
    rw [e]
    exact conv_loop hs he m (i + 1) M (by omega) (by omega)
theorem conv_all {R : Type} {B : List (List PV) × Nat × Int × List (List PV) → Tr ((List (List PV) × Nat × Int × List (List PV)) ⊕ R)} {rows : List (List PV)} {z : List PV} {r : List (List PV) → R} {M : Nat}
    (hs : ∀ (i : Nat) (acc : List (List PV)) (e : List PV), rows[i]? = some e → acc.length = rows.length → acc[i]? = some z → (B (rows, rows.length, (i : Int), acc)).run = some (.inl (rows, rows.length, ((i + 1 : Nat) : Int), acc.set i e)))
    (he : ∀ acc : List (List PV), acc.length = rows.length → (B (rows, rows.length, (rows.length : Int), acc)).run = some (.inr (r acc))) (hM : rows.length + 1 ≤ M) :
    loopF B M (rows, rows.length, 0, zrows z rows.length) = some (r rows) := by
  have := conv_loop (B := B) hs he rows.length 0 M (by omega) hM
  simpa using this
/-- a list held against itself -/
theorem eq_loop {R : Type} {B : List (List PV) × List (List PV) × Int → Tr ((List (List PV) × List (List PV) × Int) ⊕ R)} {rows : List (List PV)} {r : R}
    (hs : ∀ (i : Nat) (e : List PV), rows[i]? = some e → (B (rows, rows, (i : Int))).run = some (.inl (rows, rows, ((i + 1 : Nat) : Int)))) (he : (B (rows, rows, (rows.length : Int))).run = some (.inr r)) :
    ∀ (m i M : Nat), rows.length = i + m → m + 1 ≤ M → loopF B M (rows, rows, (i : Int)) = some r
  | m, i, 0, h1, h2 => by omega
  | 0, i, M + 1, h1, h2 => by
    have hi : i = rows.length := by omega
    subst hi
    rw [loopF_inr he]
  | m + 1, i, M + 1, h1, h2 => by
    have hg := List.getElem?_eq_getElem (l := rows) (i := i) (by omega)
    rw [loopF_inl (hs i _ hg)]
    exact eq_loop hs he m (i + 1) M (by omega) (by omega)
/-- a list's size, as far as it is not too great -/
theorem sz_loop {R : Type} {B : List (List PV) × Int × Int → Tr ((List (List PV) × Int × Int) ⊕ R)} {rows : List (List PV)}
    (hs : ∀ (i : Nat) (e : List PV) (x : Int), rows[i]? = some e → (∃ y, (B (rows, x, (i : Int))).run = some (.inl (rows, y, ((i + 1 : Nat) : Int)))) ∨ ∃ r, (B (rows, x, (i : Int))).run = some (.inr r)) (he : ∀ x, ∃ r, (B (rows, x, (rows.length : Int))).run = some (.inr r)) :
    ∀ (m i M : Nat) (x : Int), rows.length = i + m → m + 1 ≤ M → ∃ r, loopF B M (rows, x, (i : Int)) = some r
  | m, i, 0, x, h1, h2 => by omega
  | 0, i, M + 1, x, h1, h2 => by
    have hi : i = rows.length := by omega
    subst hi
    obtain ⟨r, hr⟩ := he x
    exact ⟨r, loopF_inr hr⟩
  | m + 1, i, M + 1, x, h1, h2 => by
    have hg := List.getElem?_eq_getElem (l := rows) (i := i) (by omega)
    rcases hs i _ x hg with ⟨y, hy⟩ | ⟨r, hr⟩
    · rw [loopF_inl hy]
      exact sz_loop hs he m (i + 1) M y (by omega) (by omega)
    · exact ⟨r, loopF_inr hr⟩
/-- rows of a shape, as a list of what stands in them -/
theorem rows_map {α : Type} {enc : α → List PV} {P : α → Prop} {sh : List Sh} (hd : ∀ e, okR sh e → ∃ a, e = enc a ∧ P a) : ∀ {rows : List (List PV)}, (∀ e ∈ rows, okR sh e) → ∃ l : List α, rows = l.map enc ∧ ∀ a ∈ l, P a
  | [], _ => ⟨[], rfl, fun a h => by cases h⟩
  | e :: rows, h => by
    obtain ⟨a, rfl, ha⟩ := hd e (h e (List.mem_cons_self ..))
    obtain ⟨l, rfl, hl⟩ := rows_map hd fun e he => h e (List.mem_cons_of_mem _ he)
    exact ⟨a :: l, rfl, fun b hb => by
      rcases List.mem_cons.1 hb with rfl | hb
      · exact ha
      · exact hl b hb⟩
theorem ev_spec_l1In (x lo hi : Int) : Ev (F_spec_l1In · x lo hi) (decide (lo ≤ x ∧ x ≤ hi)) := by
  refine ⟨1, fun n hn => ?_⟩
  obtain ⟨m, rfl, hm⟩ := up1 hn
  simp only [F_spec_l1In, T_spec_l1In, run_done, run_fail, run_ask, run_opt, run_inl, run_inr, Option.bind_some]
  by_cases h : x ≥ lo <;> simp [h]
theorem ev_impl_within (x lo hi : Int) : Ev (F_impl_within · x lo hi) (decide (lo ≤ x ∧ x ≤ hi)) := by
  refine ⟨1, fun n hn => ?_⟩
  obtain ⟨m, rfl, hm⟩ := up1 hn
  simp only [F_impl_within, T_impl_within, run_done, run_fail, run_ask, run_opt, run_inl, run_inr, Option.bind_some]
  by_cases h : x ≥ lo <;> simp [h]
/-- the bytes from 32 to 126 -/
def okc (c : UInt8) : Bool := decide (32 ≤ c.toNat ∧ c.toNat ≤ 126)
def plainN (s : ByteArray) (most : Int) : Bool := s.toList.all okc && decide ((s.size : Int) ≤ most)
def okV (k n : Int) (s : ByteArray) : Bool :=
  if k = 2 then decide (n = 0) && plainN s 200 else (s.toList == []) && (if k = 0 then decide (n = 0) else if k = 1 then decide (-1000000000000000 ≤ n ∧ n ≤ 1000000000000000) else if k = 3 then decide (0 ≤ n ∧ n ≤ 1) else if k = 4 then decide (1 ≤ n ∧ n ≤ 5) else false)
theorem l2Plain_loop (n : Nat) (s : ByteArray) (hb : s.size ≤ 140737488351232) : ∀ (m i M : Nat), s.size = i + m → m + 1 ≤ M →
    loopF (B_spec_l2Plain_13 n) M (s, (i : Int)) = some (if (s.toList.drop i).all okc then .inr s else .inl false)
  | m, i, 0, h1, h2 => by omega
  | 0, i, M + 1, h1, h2 => by
    rw [loopF_inr (r := .inr s) (by simp [B_spec_l2Plain_13, run_done, run_fail, run_ask, run_opt, run_inl, run_inr, Option.bind_some, show ¬ ((i : Int) < s.size) by omega])]
    rw [List.drop_eq_nil_of_le (by rw [tl_len]; omega)]
    rfl
  | m + 1, i, M + 1, h1, h2 => by
    obtain ⟨c, hc⟩ := get_of_lt (s := s) (i := i) (by omega)
    have hi : (i : Int) < s.size := by omega
    rw [drop_cons hc]
    by_cases c1 : (c.toNat : Int) < 32
    · rw [loopF_inr (r := .inl false) (by simp [B_spec_l2Plain_13, run_done, run_fail, run_ask, run_opt, run_inl, run_inr, Option.bind_some, hi, hc, c1])]
      have : okc c = false := by simp [okc]; omega
      simp [this]
    · by_cases c2 : (c.toNat : Int) > 126
      · rw [loopF_inr (r := .inl false) (by simp [B_spec_l2Plain_13, run_done, run_fail, run_ask, run_opt, run_inl, run_inr, Option.bind_some, hi, hc, c1, c2])]
        have : okc c = false := by simp [okc]; omega
        simp [this]
      · have hw : IntKind.i64.wrap ((i : Int) + 1) = ((i + 1 : Nat) : Int) := by rw [wrap64 (by omega)]; omega
        rw [loopF_inl (v' := (s, ((i + 1 : Nat) : Int))) (by simp [B_spec_l2Plain_13, run_done, run_fail, run_ask, run_opt, run_inl, run_inr, Option.bind_some, hi, hc, c1, c2, hw])]
        rw [l2Plain_loop n s hb m (i + 1) M (by omega) (by omega)]
        have : okc c = true := by simp [okc]; omega
        simp [this]
theorem ev_spec_l2Plain (s : ByteArray) (hb : s.size ≤ 140737488351232) : Ev (F_spec_l2Plain · s) (plainN s 200) := by
  refine ⟨s.size + 2, fun n hn => ?_⟩
  obtain ⟨m, rfl, hm⟩ := up1 hn
  have h := l2Plain_loop m s hb s.size 0 m (by omega) (by omega)
  simp only [F_spec_l2Plain, T_spec_l2Plain, run_done, run_fail, run_ask, run_opt, run_inl, run_inr, Option.bind_some]
  simp only [Int.natCast_zero, List.drop_zero] at h
  rw [h]
  cases hc : s.toList.all okc <;> simp [run_done, run_fail, run_ask, run_opt, run_inl, run_inr, Option.bind_some, plainN, hc]
theorem isText_loop (n : Nat) (s : ByteArray) (y : Int) (hb : s.size ≤ 140737488351232) : ∀ (m i M : Nat), s.size = i + m → m + 1 ≤ M →
    loopF (B_impl_isText_13 n) M (s, y, (s.size : Int), (i : Int)) = some (if (s.toList.drop i).all okc then .inr (s, y) else .inl false)
  | m, i, 0, h1, h2 => by omega
  | 0, i, M + 1, h1, h2 => by
    rw [loopF_inr (r := .inr (s, y)) (by simp [B_impl_isText_13, run_done, run_fail, run_ask, run_opt, run_inl, run_inr, Option.bind_some, show ¬ ((i : Int) < s.size) by omega])]
    rw [List.drop_eq_nil_of_le (by rw [tl_len]; omega)]
    rfl
  | m + 1, i, M + 1, h1, h2 => by
    obtain ⟨c, hc⟩ := get_of_lt (s := s) (i := i) (by omega)
    have hi : (i : Int) < s.size := by omega
    rw [drop_cons hc]
    by_cases c1 : (c.toNat : Int) < 32
    · rw [loopF_inr (r := .inl false) (by simp [B_impl_isText_13, run_done, run_fail, run_ask, run_opt, run_inl, run_inr, Option.bind_some, hi, hc, c1])]
      have : okc c = false := by simp [okc]; omega
      simp [this]
    · by_cases c2 : (c.toNat : Int) > 126
      · rw [loopF_inr (r := .inl false) (by simp [B_impl_isText_13, run_done, run_fail, run_ask, run_opt, run_inl, run_inr, Option.bind_some, hi, hc, c1, c2])]
        have : okc c = false := by simp [okc]; omega
        simp [this]
      · have hw : IntKind.i64.wrap ((i : Int) + 1) = ((i + 1 : Nat) : Int) := by rw [wrap64 (by omega)]; omega
        rw [loopF_inl (v' := (s, y, (s.size : Int), ((i + 1 : Nat) : Int))) (by simp [B_impl_isText_13, run_done, run_fail, run_ask, run_opt, run_inl, run_inr, Option.bind_some, hi, hc, c1, c2, hw])]
        rw [isText_loop n s y hb m (i + 1) M (by omega) (by omega)]
        have : okc c = true := by simp [okc]; omega
        simp [this]
theorem ev_impl_isText (s : ByteArray) (y : Int) (hb : s.size ≤ 140737488351232) : Ev (F_impl_isText · s y) (plainN s y) := by
  refine ⟨s.size + 2, fun n hn => ?_⟩
  obtain ⟨m, rfl, hm⟩ := up1 hn
  have h := isText_loop m s y hb s.size 0 m (by omega) (by omega)
  simp only [F_impl_isText, T_impl_isText, run_done, run_fail, run_ask, run_opt, run_inl, run_inr, Option.bind_some]
  simp only [Int.natCast_zero, List.drop_zero] at h
  rw [h]
  cases hc : s.toList.all okc <;> simp [run_done, run_fail, run_ask, run_opt, run_inl, run_inr, Option.bind_some, plainN, hc]
theorem ev_spec_ValueOk (k x : Int) (s : ByteArray) (hb : s.size ≤ 140737488351232) : Ev (F_spec_ValueOk · k x s) (okV k x s) := by
  obtain ⟨n1, h1⟩ := ev_spec_l1In x (-1000000000000000) 1000000000000000
  obtain ⟨n2, h2⟩ := ev_spec_l1In x 0 1
  obtain ⟨n3, h3⟩ := ev_spec_l1In x 1 5
  obtain ⟨n4, h4⟩ := ev_spec_l2Plain s hb
  refine ⟨n1 + n2 + n3 + n4 + 1, fun n hn => ?_⟩
  obtain ⟨m, rfl, hm⟩ := up1 hn
  have h1 := h1 m (by omega)
  dsimp only at h1
  have h2 := h2 m (by omega)
  dsimp only at h2
  have h3 := h3 m (by omega)
  dsimp only at h3
  have h4 := h4 m (by omega)
  dsimp only at h4
  simp only [F_spec_ValueOk, T_spec_ValueOk, run_done, run_fail, run_ask, run_opt, run_inl, run_inr, Option.bind_some, h1, h2, h3, h4]
  simp only [okV, toList_nil]
  by_cases k2 : k = 2
  · subst k2
    by_cases x0 : x = 0 <;> simp [x0]
  · by_cases k0 : k = 0
    · subst k0
      by_cases x0 : x = 0 <;> simp [x0]
    · by_cases k1 : k = 1
      · subst k1
        by_cases hx : -1000000000000000 ≤ x ∧ x ≤ 1000000000000000 <;> simp [hx]
      · by_cases k3 : k = 3
        · subst k3
          by_cases hx : 0 ≤ x ∧ x ≤ 1 <;> simp [hx]
        · by_cases k4 : k = 4
          · subst k4
            by_cases hx : 1 ≤ x ∧ x ≤ 5 <;> simp [hx]
          · simp [k0, k1, k2, k3, k4]
theorem ev_impl_ValueOk (k x : Int) (s : ByteArray) (hb : s.size ≤ 140737488351232) : Ev (F_impl_ValueOk · k x s) (okV k x s) := by
  obtain ⟨n1, h1⟩ := ev_impl_within x (-1000000000000000) 1000000000000000
  obtain ⟨n2, h2⟩ := ev_impl_within x 0 1
  obtain ⟨n3, h3⟩ := ev_impl_within x 1 5
  obtain ⟨n4, h4⟩ := ev_impl_isText s 200 hb
  refine ⟨n1 + n2 + n3 + n4 + 1, fun n hn => ?_⟩
  obtain ⟨m, rfl, hm⟩ := up1 hn
  have h1 := h1 m (by omega)
  dsimp only at h1
  have h2 := h2 m (by omega)
  dsimp only at h2
  have h3 := h3 m (by omega)
  dsimp only at h3
  have h4 := h4 m (by omega)
  dsimp only at h4
  simp only [F_impl_ValueOk, T_impl_ValueOk, run_done, run_fail, run_ask, run_opt, run_inl, run_inr, Option.bind_some, h1, h2, h3, h4]
  simp only [okV, toList_nil]
  by_cases k2 : k = 2
  · subst k2
    by_cases x0 : x = 0 <;> simp [x0]
  · by_cases he : s.toList = []
    · by_cases k0 : k = 0
      · subst k0
        by_cases x0 : x = 0 <;> simp [x0, he]
      · by_cases k1 : k = 1
        · subst k1; simp [he]
        · by_cases k3 : k = 3
          · subst k3; simp [he]
          · by_cases k4 : k = 4
            · subst k4; simp [he]
            · simp [k0, k1, k2, k3, k4, he]
    · simp [k2, he]
abbrev V3 := Int × Int × ByteArray
def em : ByteArray := ⟨#[]⟩
/-- a value as a number; else what is answered -/
def num (k x : Int) (s : ByteArray) : Int ⊕ V3 := if okV k x s = true then (if k = 0 ∨ k = 1 then .inl x else if k = 4 then .inr (k, x, s) else .inr (4, 2, em)) else .inr (4, 2, em)
def fin64 (z : Int) : V3 := if -1000000000000000 ≤ z ∧ z ≤ 1000000000000000 then (1, z, em) else (4, 4, em)
def arith (op : Int → Int → V3) (k x : Int) (s : ByteArray) (k' x' : Int) (s' : ByteArray) : V3 := match num k x s with
  | .inr e => e
  | .inl a => match num k' x' s' with
    | .inr e => e
    | .inl b => op a b
theorem num_inr {k x : Int} {s : ByteArray} {e : V3} (h : num k x s = .inr e) : e.1 = 4 := by
  unfold num at h
  split at h
  · split at h
    · cases h
    · split at h
      · cases h; assumption
      · cases h; rfl
  · cases h; rfl
theorem num_ne {k x : Int} {s : ByteArray} {e : V3} (h : num k x s = .inr e) : ¬ e.1 = 0 := by rw [num_inr h]; decide
theorem num_inl {k x : Int} {s : ByteArray} {a : Int} (h : num k x s = .inl a) : -1000000000000000 ≤ a ∧ a ≤ 1000000000000000 := by
  unfold num at h
  split at h
  · rename_i ho
    split at h
    · rename_i hk
      cases h
      unfold okV at ho
      rcases hk with rfl | rfl
      · simp at ho; omega
      · simp at ho; exact ho.2
    · split at h <;> cases h
  · cases h
theorem ev_laws_szValue (k x : Int) (s : ByteArray) (left : Int) : ∃ r, Ev (F_laws_szValue · k x s left) r := by
  by_cases h : IntKind.i64.wrap (left - s.size) < 0
  · refine ⟨-1, ?_⟩
    refine ⟨1, fun n hn => ?_⟩
    obtain ⟨m, rfl, hm⟩ := up1 hn
    simp only [F_laws_szValue, T_laws_szValue, run_done, run_fail, run_ask, run_opt, run_inl, run_inr, Option.bind_some]
    simp [h]
  · refine ⟨IntKind.i64.wrap (left - s.size), ?_⟩
    refine ⟨1, fun n hn => ?_⟩
    obtain ⟨m, rfl, hm⟩ := up1 hn
    simp only [F_laws_szValue, T_laws_szValue, run_done, run_fail, run_ask, run_opt, run_inl, run_inr, Option.bind_some]
    simp [h]
theorem ev_laws_toValue (k x : Int) (s : ByteArray) : Ev (F_laws_toValue · k x s) (k, x, s) := by
  refine ⟨1, fun n hn => ?_⟩
  obtain ⟨m, rfl, hm⟩ := up1 hn
  simp only [F_laws_toValue, T_laws_toValue, run_done, run_fail, run_ask, run_opt, run_inl, run_inr, Option.bind_some]
theorem ev_laws_eqValue (k x : Int) (s : ByteArray) : Ev (F_laws_eqValue · k x s k x s) true := by
  refine ⟨1, fun n hn => ?_⟩
  obtain ⟨m, rfl, hm⟩ := up1 hn
  simp only [F_laws_eqValue, T_laws_eqValue, run_done, run_fail, run_ask, run_opt, run_inl, run_inr, Option.bind_some]
  simp
def absI (x : Int) : Int := if x < 0 then -x else x
def timesV (a b : Int) : V3 := if a = 0 ∨ b = 0 then fin64 0 else if absI a > Int.tdiv 1000000000000000 (absI b) then (4, 4, em) else fin64 (IntKind.i64.wrap (a * b))
theorem tdiv_in {b : Int} (h : 1 ≤ b) : 0 ≤ Int.tdiv 1000000000000000 b ∧ Int.tdiv 1000000000000000 b ≤ 1000000000000000 := by
  rw [Int.tdiv_eq_ediv_of_nonneg (by decide)]
  exact ⟨Int.ediv_nonneg (by decide) (by omega), Int.ediv_le_self _ (by decide)⟩
theorem ev_laws_toRef (x y : Int) : Ev (F_laws_toRef · x y) (x, y) := by
  refine ⟨1, fun n hn => ?_⟩
  obtain ⟨m, rfl, hm⟩ := up1 hn
  simp only [F_laws_toRef, T_laws_toRef, run_done, run_fail, run_ask, run_opt, run_inl, run_inr, Option.bind_some]
theorem ev_laws_eqRef (x y z w : Int) : Ev (F_laws_eqRef · x y z w) (decide (x = z ∧ y = w)) := by
  refine ⟨1, fun n hn => ?_⟩
  obtain ⟨m, rfl, hm⟩ := up1 hn
  simp only [F_laws_eqRef, T_laws_eqRef, run_done, run_fail, run_ask, run_opt, run_inl, run_inr, Option.bind_some]
  by_cases h : x = z <;> by_cases h' : y = w <;> simp [h, h']
def okRef (c r : Int) : Bool := decide (1 ≤ c ∧ c ≤ 52) && decide (1 ≤ r ∧ r ≤ 99)
def okArea (a b c d : Int) : Bool := okRef a b && okRef c d && decide (a ≤ c) && decide (b ≤ d)
theorem ev_spec_RefOk (c r : Int) : Ev (F_spec_RefOk · c r) (okRef c r) := by
  obtain ⟨n1, h1⟩ := ev_spec_l1In c 1 52
  obtain ⟨n2, h2⟩ := ev_spec_l1In r 1 99
  refine ⟨n1 + n2 + 1, fun n hn => ?_⟩
  obtain ⟨m, rfl, hm⟩ := up1 hn
  have h1 := h1 m (by omega)
  dsimp only at h1
  have h2 := h2 m (by omega)
  dsimp only at h2
  simp only [F_spec_RefOk, T_spec_RefOk, run_done, run_fail, run_ask, run_opt, run_inl, run_inr, Option.bind_some, h1, h2]
  unfold okRef
  cases decide (1 ≤ c ∧ c ≤ 52) <;> simp
theorem ev_impl_RefOk (c r : Int) : Ev (F_impl_RefOk · c r) (okRef c r) := by
  obtain ⟨n1, h1⟩ := ev_impl_within c 1 52
  obtain ⟨n2, h2⟩ := ev_impl_within r 1 99
  refine ⟨n1 + n2 + 1, fun n hn => ?_⟩
  obtain ⟨m, rfl, hm⟩ := up1 hn
  have h1 := h1 m (by omega)
  dsimp only at h1
  have h2 := h2 m (by omega)
  dsimp only at h2
  simp only [F_impl_RefOk, T_impl_RefOk, run_done, run_fail, run_ask, run_opt, run_inl, run_inr, Option.bind_some, h1, h2]
  unfold okRef
  cases decide (1 ≤ c ∧ c ≤ 52) <;> simp
abbrev A5 := Int × Int × Int × Int × Bool
def common (x0 x1 x2 x3 x4 x5 x6 x7 : Int) : A5 :=
  if okArea x0 x1 x2 x3 = true ∧ okArea x4 x5 x6 x7 = true ∧ okArea (if x4 > x0 then x4 else x0) (if x5 > x1 then x5 else x1) (if x6 < x2 then x6 else x2) (if x7 < x3 then x7 else x3) = true then
    ((if x4 > x0 then x4 else x0), (if x5 > x1 then x5 else x1), (if x6 < x2 then x6 else x2), (if x7 < x3 then x7 else x3), true) else (0, 0, 0, 0, false)
def cmpI (x y : Int) : Int := if x < y then -1 else if x > y then 1 else 0
def cmpS (x y : ByteArray) : Int := if Op.bytesLess x.toList y.toList = true then -1 else if x.toList = y.toList then 0 else 1
def firstNZ : List Int → Int
  | [] => 0
  | x :: r => if x ≠ 0 then x else firstNZ r
theorem ev_isNaN_i (x : Int) : Ev (F_cmp_isNaN_int64 · x) false := by
  refine ⟨1, fun n hn => ?_⟩
  obtain ⟨m, rfl, hm⟩ := up1 hn
  simp only [F_cmp_isNaN_int64, T_cmp_isNaN_int64, run_done, run_fail, run_ask, run_opt, run_inl, run_inr, Option.bind_some]
  simp
theorem ev_cmp_i (x y : Int) : Ev (F_cmp_Compare_int64 · x y) (cmpI x y) := by
  obtain ⟨n1, h1⟩ := ev_isNaN_i x
  obtain ⟨n2, h2⟩ := ev_isNaN_i y
  refine ⟨n1 + n2 + 1, fun n hn => ?_⟩
  obtain ⟨m, rfl, hm⟩ := up1 hn
  have h1 := h1 m (by omega)
  dsimp only at h1
  have h2 := h2 m (by omega)
  dsimp only at h2
  simp only [F_cmp_Compare_int64, T_cmp_Compare_int64, run_done, run_fail, run_ask, run_opt, run_inl, run_inr, Option.bind_some, h1, h2]
  unfold cmpI
  by_cases h : x < y
  · simp [h]
  · by_cases h' : x > y
    · have h'' : y < x := h'
      simp [h, h'']
    · have h'' : ¬ y < x := h'
      simp [h, h'']
theorem or_loop (n : Nat) (l : List Int) (hb : l.length ≤ 1000) : ∀ (m i M : Nat), l.length = i + m → m + 1 ≤ M →
    loopF (B_cmp_Or_int_29 n) M (0, l.map (fun x => [PV.i .i64 x]), (l.length : Int), (i : Int)) = some (if firstNZ (l.drop i) ≠ 0 then .inl (firstNZ (l.drop i)) else .inr 0)
  | m, i, 0, h1, h2 => by omega
  | 0, i, M + 1, h1, h2 => by
    rw [loopF_inr (r := .inr 0) (by simp [B_cmp_Or_int_29, run_done, run_fail, run_ask, run_opt, run_inl, run_inr, Option.bind_some, show ¬ ((i : Int) < l.length) by omega])]
    rw [List.drop_eq_nil_of_le (by omega)]
    rfl
  | m + 1, i, M + 1, h1, h2 => by
    have hl : i < l.length := by omega
    have hg := List.getElem?_eq_getElem hl
    have hi : (i : Int) < l.length := by omega
    rw [drop_cons hg]
    generalize l[i] = c at hg
    by_cases hc : c = 0
    · subst hc
      have hw : IntKind.i64.wrap ((i : Int) + 1) = ((i + 1 : Nat) : Int) := by rw [wrap64 (by omega)]; omega
      rw [loopF_inl (v' := (0, l.map (fun x => [PV.i .i64 x]), (l.length : Int), ((i + 1 : Nat) : Int))) (by simp [B_cmp_Or_int_29, run_done, run_fail, run_ask, run_opt, run_inl, run_inr, Option.bind_some, hi, hg, cellI, hw])]
      rw [or_loop n l hb m (i + 1) M (by omega) (by omega)]
      simp [firstNZ]
    · rw [loopF_inr (r := .inl c) (by simp [B_cmp_Or_int_29, run_done, run_fail, run_ask, run_opt, run_inl, run_inr, Option.bind_some, hi, hg, cellI, hc])]
      simp [firstNZ, hc]
theorem ev_cmp_Or (l : List Int) (hb : l.length ≤ 1000) : Ev (F_cmp_Or_int · (l.map (fun x => [PV.i .i64 x]))) (firstNZ l) := by
  refine ⟨l.length + 2, fun n hn => ?_⟩
  obtain ⟨m, rfl, hm⟩ := up1 hn
  have h := or_loop m l hb l.length 0 m (by omega) (by omega)
  simp only [F_cmp_Or_int, T_cmp_Or_int, run_done, run_fail, run_ask, run_opt, run_inl, run_inr, Option.bind_some]
  simp only [Int.natCast_zero, List.drop_zero] at h
  simp only [List.length_map]
  rw [h]
  by_cases hc : firstNZ l = 0 <;> simp [run_done, run_fail, run_ask, run_opt, run_inl, run_inr, Option.bind_some, hc]
def ordV (k x : Int) (s : ByteArray) (k' x' : Int) (s' : ByteArray) : Int := firstNZ [cmpI k k', cmpI x x', cmpS s s']
def heldB (op o : Int) : Bool := if op = 6 then o == 0 else if op = 7 then o != 0 else if op = 8 then decide (o < 0) else if op = 9 then decide (o ≤ 0) else if op = 10 then decide (o > 0) else decide (o ≥ 0)
def held (op k x : Int) (s : ByteArray) (k' x' : Int) (s' : ByteArray) : Int × Int × ByteArray :=
  if okV k x s = true ∧ okV k' x' s' = true ∧ 6 ≤ op ∧ op ≤ 11 then
    (if k = 4 then (k, x, s) else if k' = 4 then (k', x', s') else (3, if heldB op (ordV (if k = 0 then k' else k) x s (if k' = 0 then k else k') x' s') = true then 1 else 0, em))
  else (4, 2, em)
abbrev CVt := Int × Int × Int × Int × ByteArray
def encCV (c : CVt) : List PV := [.i .i64 c.1, .i .i64 c.2.1, .i .i64 c.2.2.1, .i .i64 c.2.2.2.1, .s c.2.2.2.2]
theorem rows_cv {rows : List (List PV)} (h : ∀ e ∈ rows, okR [.i .i64, .i .i64, .i .i64, .i .i64, .s] e) : ∃ l : List CVt, rows = l.map encCV ∧ ∀ c ∈ l, c.2.2.2.2.size ≤ 140737488351232 := by
  refine rows_map (fun e h => ?_) h
  obtain ⟨c0, t0, rfl, p0, h⟩ := okR_cons h
  obtain ⟨c1, t1, rfl, p1, h1⟩ := okR_cons h
  obtain ⟨c2, t2, rfl, p2, h2⟩ := okR_cons h1
  obtain ⟨c3, t3, rfl, p3, h3⟩ := okR_cons h2
  obtain ⟨c4, t4, rfl, p4, h4⟩ := okR_cons h3
  obtain rfl := okR_nil h4
  obtain ⟨x0, rfl, _⟩ := okP_i p0
  obtain ⟨x1, rfl, _⟩ := okP_i p1
  obtain ⟨x2, rfl, _⟩ := okP_i p2
  obtain ⟨x3, rfl, _⟩ := okP_i p3
  obtain ⟨x4, rfl, w⟩ := okP_s p4
  exact ⟨(x0, x1, x2, x3, x4), rfl, w⟩
theorem cv_get {l : List CVt} {i : Nat} {e : List PV} (h : (l.map encCV)[i]? = some e) : ∃ c, l[i]? = some c ∧ e = encCV c := by
  rw [List.getElem?_map] at h
  obtain ⟨c, h1, h2⟩ := Option.map_eq_some_iff.1 h
  exact ⟨c, h1, h2.symm⟩
theorem un_laws_szValue (n : Nat) (k x : Int) (s : ByteArray) (left : Int) : ∃ r, F_laws_szValue (n + 1) k x s left = some r := by
  simp only [F_laws_szValue, T_laws_szValue, run_done, run_fail, run_ask, run_opt, run_inl, run_inr, Option.bind_some]
  by_cases h : IntKind.i64.wrap (left - s.size) < 0
  · exact ⟨-1, by simp [h]⟩
  · exact ⟨IntKind.i64.wrap (left - s.size), by simp [h]⟩
theorem un_laws_szCellValue (n : Nat) (a b k x : Int) (s : ByteArray) (left : Int) : ∃ r, F_laws_szCellValue (n + 2) a b k x s left = some r := by
  obtain ⟨r, h⟩ := un_laws_szValue n k x s left
  simp only [F_laws_szCellValue, T_laws_szCellValue, run_done, run_fail, run_ask, run_opt, run_inl, run_inr, Option.bind_some, h]
  by_cases h : r < 0
  · exact ⟨-1, by simp [h]⟩
  · exact ⟨r, by simp [h]⟩
theorem ev_laws_szCellValueS (l : List CVt) (hb : l.length ≤ 140737488351232) (left : Int) : ∀ n, l.length + 5 ≤ n → ∃ r, F_laws_szCellValueS n (l.map encCV) left = some r := by
  intro n hn
  obtain ⟨m, rfl, hm⟩ := up1 hn
  obtain ⟨q, rfl⟩ : ∃ q, m = q + 2 := ⟨m - 2, by omega⟩
  simp only [F_laws_szCellValueS, T_laws_szCellValueS, run_done, run_fail, run_ask, run_opt, run_inl, run_inr, Option.bind_some]
  obtain ⟨r, h⟩ := sz_loop (B := B_laws_szCellValueS_61 (q + 2)) (rows := l.map encCV)
    (fun i e x he => by
      obtain ⟨c, hc, rfl⟩ := cv_get he
      have hi : i < l.length := (List.getElem?_eq_some_iff.1 hc).1
      have hi' : (i : Int) < l.length := by omega
      have hw : IntKind.i64.wrap ((i : Int) + 1) = (i : Int) + 1 := wrap64 (by omega)
      obtain ⟨r, hr⟩ := un_laws_szCellValue q c.1 c.2.1 c.2.2.1 c.2.2.2.1 c.2.2.2.2 x
      by_cases h0 : r < 0
      · exact .inr ⟨.inl (-1), by simp [B_laws_szCellValueS_61, run_done, run_fail, run_ask, run_opt, run_inl, run_inr, Option.bind_some, hi', hc, encCV, cellI, cellS, hr, h0]⟩
      · exact .inl ⟨r, by simp [B_laws_szCellValueS_61, run_done, run_fail, run_ask, run_opt, run_inl, run_inr, Option.bind_some, hi', hc, encCV, cellI, cellS, hr, h0, hw]⟩)
    (fun x => ⟨.inr x, by simp [B_laws_szCellValueS_61, run_done, run_fail, run_ask, run_opt, run_inl, run_inr, Option.bind_some]⟩) l.length 0 (q + 2) (IntKind.i64.wrap (left - l.length)) (by simp) (by omega)
  simp only [Int.natCast_zero] at h
  by_cases h0 : IntKind.i64.wrap (left - l.length) < 0
  · exact ⟨-1, by simp [h0]⟩
  · rcases r with r | r
    · exact ⟨r, by simp [h0, h, run_done, run_fail, run_ask, run_opt, run_inl, run_inr, Option.bind_some]⟩
    · exact ⟨r, by simp [h0, h, run_done, run_fail, run_ask, run_opt, run_inl, run_inr, Option.bind_some]⟩
theorem un_laws_toCellValue (n : Nat) (a b k x : Int) (s : ByteArray) : F_laws_toCellValue (n + 2) a b k x s = some (a, b, k, x, s) := by
  simp only [F_laws_toCellValue, T_laws_toCellValue, F_laws_toRef, T_laws_toRef, F_laws_toValue, T_laws_toValue, run_done, run_fail, run_ask, run_opt, run_inl, run_inr, Option.bind_some]
theorem ev_laws_toCellValueS (l : List CVt) (hb : l.length * 48 ≤ 140737488351232) : Ev (F_laws_toCellValueS · (l.map encCV)) (l.map encCV) := by
  refine ⟨l.length + 5, fun n hn => ?_⟩
  obtain ⟨m, rfl, hm⟩ := up1 hn
  simp only [F_laws_toCellValueS, T_laws_toCellValueS, run_done, run_fail, run_ask, run_opt, run_inl, run_inr, Option.bind_some]
  have h := conv_all (B := B_laws_toCellValueS_29 m) (rows := l.map encCV) (z := [.i .i64 0, .i .i64 0, .i .i64 0, .i .i64 0, .s ⟨#[]⟩]) (r := fun acc => ((l.map encCV).length, acc)) (M := m)
    (fun i acc e he ha hz => by
      obtain ⟨c, hc, rfl⟩ := cv_get he
      have hi : i < l.length := (List.getElem?_eq_some_iff.1 hc).1
      have hi' : (i : Int) < l.length := by omega
      obtain ⟨q, rfl⟩ : ∃ q, m = q + 2 := ⟨m - 2, by omega⟩
      have hw : IntKind.i64.wrap ((i : Int) + 1) = (i : Int) + 1 := wrap64 (by omega)
      have ha' : acc.length = l.length := by simpa using ha
      simp [B_laws_toCellValueS_29, run_done, run_fail, run_ask, run_opt, run_inl, run_inr, Option.bind_some, hi', hc, encCV, cellI, cellS, un_laws_toCellValue, hz, ha', hw, setAt])
    (fun acc ha => by
      have ha' : acc.length = l.length := by simpa using ha
      simp [B_laws_toCellValueS_29, run_done, run_fail, run_ask, run_opt, run_inl, run_inr, Option.bind_some])
    (by simp; omega)
  simp only [List.length_map, Int.toNat_natCast] at h ⊢
  rw [h]
  have h1 : (48 : Int) * (l.length : Int) ≤ 140737488355328 := by omega
  have h2 : (l.length : Int) ≤ 9223372036854775807 := by omega
  simp [run_done, run_fail, run_ask, run_opt, run_inl, run_inr, Option.bind_some, h1, h2]
theorem un_laws_eqValue (n : Nat) (k x : Int) (s : ByteArray) : F_laws_eqValue (n + 1) k x s k x s = some true := by
  simp only [F_laws_eqValue, T_laws_eqValue, run_done, run_fail, run_ask, run_opt, run_inl, run_inr, Option.bind_some]
  simp
theorem un_laws_eqCellValue (n : Nat) (a b k x : Int) (s : ByteArray) : F_laws_eqCellValue (n + 2) a b k x s a b k x s = some true := by
  simp only [F_laws_eqCellValue, T_laws_eqCellValue, F_laws_eqRef, T_laws_eqRef, un_laws_eqValue, run_done, run_fail, run_ask, run_opt, run_inl, run_inr, Option.bind_some]
  simp [run_done, run_fail, run_ask, run_opt, run_inl, run_inr, Option.bind_some]
theorem ev_laws_eqCellValueS (l : List CVt) (hb : l.length ≤ 140737488351232) : Ev (F_laws_eqCellValueS · (l.map encCV) (l.map encCV)) true := by
  refine ⟨l.length + 5, fun n hn => ?_⟩
  obtain ⟨m, rfl, hm⟩ := up1 hn
  simp only [F_laws_eqCellValueS, T_laws_eqCellValueS, run_done, run_fail, run_ask, run_opt, run_inl, run_inr, Option.bind_some]
  have h := eq_loop (B := B_laws_eqCellValueS_29 m) (rows := l.map encCV) (r := .inr ())
    (fun i e he => by
      obtain ⟨c, hc, rfl⟩ := cv_get he
      have hi : i < l.length := (List.getElem?_eq_some_iff.1 hc).1
      have hi' : (i : Int) < l.length := by omega
      obtain ⟨q, rfl⟩ : ∃ q, m = q + 2 := ⟨m - 2, by omega⟩
      have hw : IntKind.i64.wrap ((i : Int) + 1) = (i : Int) + 1 := wrap64 (by omega)
      simp [B_laws_eqCellValueS_29, run_done, run_fail, run_ask, run_opt, run_inl, run_inr, Option.bind_some, hi', hc, encCV, cellI, cellS, un_laws_eqCellValue, hw])
    (by simp [B_laws_eqCellValueS_29, run_done, run_fail, run_ask, run_opt, run_inl, run_inr, Option.bind_some]) l.length 0 m (by simp) (by omega)
  simp only [Int.natCast_zero] at h
  simp [h, run_done, run_fail, run_ask, run_opt, run_inl, run_inr, Option.bind_some]
def ahead (a b c d : Int) : Bool := decide (b < d ∨ (b = d ∧ a < c))
/-- a value at its place -/
def cvOk (l : List CVt) (i : Nat) (c : CVt) : Bool := okRef c.1 c.2.1 && okV c.2.2.1 c.2.2.2.1 c.2.2.2.2 && (match i with | 0 => true | j + 1 => match l[j]? with | some p => ahead p.1 p.2.1 c.1 c.2.1 | none => true)
def cvFrom (l : List CVt) : Nat → List CVt → Bool
  | _, [] => true
  | i, c :: r => cvOk l i c && cvFrom l (i + 1) r
def cvsOk (l : List CVt) : Bool := cvFrom l 0 l && decide ((l.length : Int) ≤ 120)
theorem ev_spec_l1Ahead (a b c d : Int) : Ev (F_spec_l1Ahead · a b c d) (ahead a b c d) := by
  refine ⟨1, fun n hn => ?_⟩
  obtain ⟨m, rfl, hm⟩ := up1 hn
  simp only [F_spec_l1Ahead, T_spec_l1Ahead, run_done, run_fail, run_ask, run_opt, run_inl, run_inr, Option.bind_some]
  unfold ahead
  by_cases h : b < d
  · simp [h]
  · by_cases h' : b = d
    · subst h'; simp
    · simp [h, h']
theorem ev_impl_compareRefs (a b c d : Int) : Ev (F_impl_compareRefs · a b c d) (firstNZ [cmpI b d, cmpI a c]) := by
  obtain ⟨n1, h1⟩ := ev_cmp_i b d
  obtain ⟨n2, h2⟩ := ev_cmp_i a c
  obtain ⟨n3, h3⟩ := ev_cmp_Or [cmpI b d, cmpI a c] (by simp)
  refine ⟨n1 + n2 + n3 + 1, fun n hn => ?_⟩
  obtain ⟨m, rfl, hm⟩ := up1 hn
  have h1 := h1 m (by omega)
  dsimp only at h1
  have h2 := h2 m (by omega)
  dsimp only at h2
  have h3 := h3 m (by omega)
  dsimp only at h3
  simp only [F_impl_compareRefs, T_impl_compareRefs, run_done, run_fail, run_ask, run_opt, run_inl, run_inr, Option.bind_some, h1, h2, h3]
  simp only [List.map_cons, List.map_nil] at h3
  simp [h3]
theorem ahead_cmp (a b c d : Int) : decide (firstNZ [cmpI b d, cmpI a c] ≥ 0) = !(ahead a b c d) := by
  unfold firstNZ firstNZ firstNZ cmpI ahead
  by_cases h1 : b < d
  · simp [h1]
  · by_cases h2 : b > d
    · have : ¬ b = d := by omega
      simp [h1, h2, this]
    · have : b = d := by omega
      subst this
      by_cases h3 : a < c
      · simp [h3]
      · by_cases h4 : a > c <;> simp [h3, h4]
theorem spec_vals_loop (n : Nat) (l : List CVt) (hb : l.length ≤ 140737488351232) (hr : ∀ c ∈ l, F_spec_RefOk n c.1 c.2.1 = some (okRef c.1 c.2.1)) (hv : ∀ c ∈ l, F_spec_ValueOk n c.2.2.1 c.2.2.2.1 c.2.2.2.2 = some (okV c.2.2.1 c.2.2.2.1 c.2.2.2.2))
    (ha : ∀ a b c d, F_spec_l1Ahead n a b c d = some (ahead a b c d)) : ∀ (m i M : Nat), l.length = i + m → m + 1 ≤ M → loopF (B_spec_ValuesOk_29 n) M (l.map encCV, (i : Int)) = some (if cvFrom l i (l.drop i) = true then .inr () else .inl false)
  | m, i, 0, h1, h2 => by omega
  | 0, i, M + 1, h1, h2 => by
    rw [loopF_inr (r := .inr ()) (by simp [B_spec_ValuesOk_29, run_done, run_fail, run_ask, run_opt, run_inl, run_inr, Option.bind_some, show ¬ ((i : Int) < l.length) by omega])]
    rw [List.drop_eq_nil_of_le (by omega)]
    rfl
  | m + 1, i, M + 1, h1, h2 => by
    have hl : i < l.length := by omega
    have hg := List.getElem?_eq_getElem hl
    have hi : (i : Int) < l.length := by omega
    have hm := List.getElem_mem hl
    rw [drop_cons hg]
    generalize l[i] = c at hg hm
    have h3 := hr c hm
    have h4 := hv c hm
    have hw : IntKind.i64.wrap ((i : Int) + 1) = ((i + 1 : Nat) : Int) := by rw [wrap64 (by omega)]; omega
    simp only [cvFrom]
    cases hR : okRef c.1 c.2.1 with
    | false =>
      rw [hR] at h3
      rw [loopF_inr (r := .inl false) (by simp [B_spec_ValuesOk_29, run_done, run_fail, run_ask, run_opt, run_inl, run_inr, Option.bind_some, hi, hg, encCV, cellI, cellS, h3])]
      simp [cvOk, hR]
    | true =>
      rw [hR] at h3
      cases hV : okV c.2.2.1 c.2.2.2.1 c.2.2.2.2 with
      | false =>
        rw [hV] at h4
        rw [loopF_inr (r := .inl false) (by simp [B_spec_ValuesOk_29, run_done, run_fail, run_ask, run_opt, run_inl, run_inr, Option.bind_some, hi, hg, encCV, cellI, cellS, h3, h4])]
        simp [cvOk, hV]
      | true =>
        rw [hV] at h4
        cases i with
        | zero =>
          rw [loopF_inl (v' := (l.map encCV, ((0 + 1 : Nat) : Int))) (by have hw0 : IntKind.i64.wrap 1 = 1 := rfl; have hg0 : l[0] = c := (List.getElem?_eq_some_iff.1 hg).2; simp [B_spec_ValuesOk_29, run_done, run_fail, run_ask, run_opt, run_inl, run_inr, Option.bind_some, hl, hg0, encCV, cellI, cellS, h3, h4, hw0])]
          rw [spec_vals_loop n l hb hr hv ha m 1 M (by omega) (by omega)]
          simp [cvOk, hR, hV]
        | succ j =>
          have hj : j < l.length := by omega
          have hgj := List.getElem?_eq_getElem hj
          generalize l[j] = p at hgj
          have w1 : IntKind.i64.wrap (((j + 1 : Nat) : Int) - 1) = (j : Int) := by rw [wrap64 (by omega)]; omega
          have w2 : (j : Int) < l.length := by omega
          have hi' : (j : Int) + 1 < l.length := by omega
          have h5 := ha p.1 p.2.1 c.1 c.2.1
          have w1' : IntKind.i64.wrap ((j : Int) + 1 - 1) = (j : Int) := by rw [wrap64 (by omega)]; omega
          have w3 : ((j : Int) + 1).toNat = j + 1 := by omega
          have w4 : (0 : Int) < (j : Int) + 1 := by omega
          have w5 : (0 : Int) ≤ (j : Int) + 1 := by omega
          have wj : IntKind.i64.wrap (j : Int) = (j : Int) := wrap64 (by omega)
          cases hA : ahead p.1 p.2.1 c.1 c.2.1 with
          | false =>
            rw [hA] at h5
            rw [loopF_inr (r := .inl false) (by simp [B_spec_ValuesOk_29, run_done, run_fail, run_ask, run_opt, run_inl, run_inr, Option.bind_some, hi', hg, hgj, encCV, cellI, cellS, h3, h4, h5, w1', wj, w2, w3, w4, w5])]
            simp [cvOk, hgj, hA]
          | true =>
            rw [hA] at h5
            have hw' : IntKind.i64.wrap ((j : Int) + 1 + 1) = (j : Int) + 1 + 1 := wrap64 (by omega)
            rw [loopF_inl (v' := (l.map encCV, ((j + 1 + 1 : Nat) : Int))) (by simp [B_spec_ValuesOk_29, run_done, run_fail, run_ask, run_opt, run_inl, run_inr, Option.bind_some, hi', hg, hgj, encCV, cellI, cellS, h3, h4, h5, w1', wj, w2, w3, w4, w5, hw'])]
            rw [spec_vals_loop n l hb hr hv ha m (j + 1 + 1) M (by omega) (by omega)]
            simp [cvOk, hgj, hA, hR, hV]
theorem ev_spec_ValuesOk (l : List CVt) (hb : l.length ≤ 140737488351232) (hs : ∀ c ∈ l, c.2.2.2.2.size ≤ 140737488351232) : Ev (F_spec_ValuesOk · (l.map encCV)) (cvsOk l) := by
  obtain ⟨n1, h1⟩ := ev_list (F := fun (c : CVt) n => F_spec_RefOk n c.1 c.2.1) (f := fun c => okRef c.1 c.2.1) l fun c _ => ev_spec_RefOk c.1 c.2.1
  obtain ⟨n2, h2⟩ := ev_list (F := fun (c : CVt) n => F_spec_ValueOk n c.2.2.1 c.2.2.2.1 c.2.2.2.2) (f := fun c => okV c.2.2.1 c.2.2.2.1 c.2.2.2.2) l fun c hc => ev_spec_ValueOk _ _ _ (hs c hc)
  refine ⟨n1 + n2 + l.length + 3, fun n hn => ?_⟩
  obtain ⟨m, rfl, hm⟩ := up1 hn
  have ha : ∀ a b c d, F_spec_l1Ahead m a b c d = some (ahead a b c d) := fun a b c d => by
    obtain ⟨q, rfl⟩ : ∃ q, m = q + 1 := ⟨m - 1, by omega⟩
    simp only [F_spec_l1Ahead, T_spec_l1Ahead, run_done, run_fail, run_ask, run_opt, run_inl, run_inr, Option.bind_some]
    unfold ahead
    by_cases h : b < d
    · simp [h]
    · by_cases h' : b = d
      · subst h'; simp
      · simp [h, h']
  have h := spec_vals_loop m l hb (h1 m (by omega)) (h2 m (by omega)) ha l.length 0 m (by omega) (by omega)
  simp only [F_spec_ValuesOk, T_spec_ValuesOk, run_done, run_fail, run_ask, run_opt, run_inl, run_inr, Option.bind_some]
  simp only [Int.natCast_zero, List.drop_zero] at h
  rw [h]
  unfold cvsOk
  by_cases h0 : (l.length : Int) > 120
  · have : ¬ l.length ≤ 120 := by omega
    simp [h0, this]
  · have : l.length ≤ 120 := by omega
    cases hc : cvFrom l 0 l <;> simp [h0, this, run_done, run_fail, run_ask, run_opt, run_inl, run_inr, Option.bind_some]
    all_goals omega
theorem impl_vals_loop (n : Nat) (l : List CVt) (hb : l.length ≤ 140737488351232) (hr : ∀ c ∈ l, F_impl_RefOk n c.1 c.2.1 = some (okRef c.1 c.2.1)) (hv : ∀ c ∈ l, F_impl_ValueOk n c.2.2.1 c.2.2.2.1 c.2.2.2.2 = some (okV c.2.2.1 c.2.2.2.1 c.2.2.2.2))
    (ha : ∀ p ∈ l, ∀ c ∈ l, F_impl_compareRefs n p.1 p.2.1 c.1 c.2.1 = some (firstNZ [cmpI p.2.1 c.2.1, cmpI p.1 c.1])) : ∀ (m i M : Nat), l.length = i + m → m + 1 ≤ M → loopF (B_impl_ValuesOk_13 n) M (l.map encCV, l.map encCV, (l.length : Int), (i : Int)) = some (if cvFrom l i (l.drop i) = true then .inr (l.map encCV) else .inl false)
  | m, i, 0, h1, h2 => by omega
  | 0, i, M + 1, h1, h2 => by
    rw [loopF_inr (r := .inr (l.map encCV)) (by simp [B_impl_ValuesOk_13, run_done, run_fail, run_ask, run_opt, run_inl, run_inr, Option.bind_some, show ¬ ((i : Int) < l.length) by omega])]
    rw [List.drop_eq_nil_of_le (by omega)]
    rfl
  | m + 1, i, M + 1, h1, h2 => by
    have hl : i < l.length := by omega
    have hg := List.getElem?_eq_getElem hl
    have hi : (i : Int) < l.length := by omega
    have hm := List.getElem_mem hl
    rw [drop_cons hg]
    generalize l[i] = c at hg hm
    have h3 := hr c hm
    have h4 := hv c hm
    have hw : IntKind.i64.wrap ((i : Int) + 1) = ((i + 1 : Nat) : Int) := by rw [wrap64 (by omega)]; omega
    simp only [cvFrom]
    cases hR : okRef c.1 c.2.1 with
    | false =>
      rw [hR] at h3
      rw [loopF_inr (r := .inl false) (by simp [B_impl_ValuesOk_13, run_done, run_fail, run_ask, run_opt, run_inl, run_inr, Option.bind_some, hi, hg, encCV, cellI, cellS, h3])]
      simp [cvOk, hR]
    | true =>
      rw [hR] at h3
      cases i with
      | zero =>
        have hw0 : IntKind.i64.wrap 1 = 1 := rfl
        have hg0 : l[0] = c := (List.getElem?_eq_some_iff.1 hg).2
        cases hV : okV c.2.2.1 c.2.2.2.1 c.2.2.2.2 with
        | false =>
          rw [hV] at h4
          rw [loopF_inr (r := .inl false) (by simp [B_impl_ValuesOk_13, run_done, run_fail, run_ask, run_opt, run_inl, run_inr, Option.bind_some, hl, hg0, encCV, cellI, cellS, h3, h4])]
          simp [cvOk, hV]
        | true =>
          rw [hV] at h4
          rw [loopF_inl (v' := (l.map encCV, l.map encCV, (l.length : Int), ((0 + 1 : Nat) : Int))) (by simp [B_impl_ValuesOk_13, run_done, run_fail, run_ask, run_opt, run_inl, run_inr, Option.bind_some, hl, hg0, encCV, cellI, cellS, h3, h4, hw0])]
          rw [impl_vals_loop n l hb hr hv ha m 1 M (by omega) (by omega)]
          simp [cvOk, hR, hV]
      | succ j =>
        have hj : j < l.length := by omega
        have hgj := List.getElem?_eq_getElem hj
        have hmj := List.getElem_mem hj
        generalize l[j] = p at hgj hmj
        have w2 : (j : Int) < l.length := by omega
        have hi' : (j : Int) + 1 < l.length := by omega
        have h5 := ha p hmj c hm
        have h6 := ahead_cmp p.1 p.2.1 c.1 c.2.1
        generalize firstNZ [cmpI p.2.1 c.2.1, cmpI p.1 c.1] = z at h5 h6
        have w3 : ((j : Int) + 1).toNat = j + 1 := by omega
        have w4 : (0 : Int) < (j : Int) + 1 := by omega
        have w5 : (0 : Int) ≤ (j : Int) + 1 := by omega
        have wj : IntKind.i64.wrap (j : Int) = (j : Int) := wrap64 (by omega)
        have hw' : IntKind.i64.wrap ((j : Int) + 1 + 1) = (j : Int) + 1 + 1 := wrap64 (by omega)
        cases hA : ahead p.1 p.2.1 c.1 c.2.1 with
        | false =>
          rw [hA] at h6
          have h6 : z ≥ 0 := by simpa using h6
          rw [loopF_inr (r := .inl false) (by simp [B_impl_ValuesOk_13, run_done, run_fail, run_ask, run_opt, run_inl, run_inr, Option.bind_some, hi', hg, hgj, encCV, cellI, cellS, h3, h5, h6, wj, w2, w3, w4, w5])]
          simp [cvOk, hgj, hA]
        | true =>
          rw [hA] at h6
          have h6 : ¬ z ≥ 0 := by simpa using h6
          cases hV : okV c.2.2.1 c.2.2.2.1 c.2.2.2.2 with
          | false =>
            rw [hV] at h4
            rw [loopF_inr (r := .inl false) (by simp [B_impl_ValuesOk_13, run_done, run_fail, run_ask, run_opt, run_inl, run_inr, Option.bind_some, hi', hg, hgj, encCV, cellI, cellS, h3, h4, h5, h6, wj, w2, w3, w4, w5])]
            simp [cvOk, hV]
          | true =>
            rw [hV] at h4
            rw [loopF_inl (v' := (l.map encCV, l.map encCV, (l.length : Int), ((j + 1 + 1 : Nat) : Int))) (by simp [B_impl_ValuesOk_13, run_done, run_fail, run_ask, run_opt, run_inl, run_inr, Option.bind_some, hi', hg, hgj, encCV, cellI, cellS, h3, h4, h5, h6, wj, w2, w3, w4, w5, hw'])]
            rw [impl_vals_loop n l hb hr hv ha m (j + 1 + 1) M (by omega) (by omega)]
            simp [cvOk, hgj, hA, hR, hV]
theorem ev_impl_ValuesOk (l : List CVt) (hb : l.length ≤ 140737488351232) (hs : ∀ c ∈ l, c.2.2.2.2.size ≤ 140737488351232) : Ev (F_impl_ValuesOk · (l.map encCV)) (cvsOk l) := by
  obtain ⟨n1, h1⟩ := ev_list (F := fun (c : CVt) n => F_impl_RefOk n c.1 c.2.1) (f := fun c => okRef c.1 c.2.1) l fun c _ => ev_impl_RefOk c.1 c.2.1
  obtain ⟨n2, h2⟩ := ev_list (F := fun (c : CVt) n => F_impl_ValueOk n c.2.2.1 c.2.2.2.1 c.2.2.2.2) (f := fun c => okV c.2.2.1 c.2.2.2.1 c.2.2.2.2) l fun c hc => ev_impl_ValueOk _ _ _ (hs c hc)
  obtain ⟨n3, h3⟩ := ev_list (F := fun (pc : CVt × CVt) n => F_impl_compareRefs n pc.1.1 pc.1.2.1 pc.2.1 pc.2.2.1) (f := fun pc => firstNZ [cmpI pc.1.2.1 pc.2.2.1, cmpI pc.1.1 pc.2.1]) (l.flatMap fun p => l.map fun c => (p, c)) fun pc _ => ev_impl_compareRefs _ _ _ _
  refine ⟨n1 + n2 + n3 + l.length + 3, fun n hn => ?_⟩
  obtain ⟨m, rfl, hm⟩ := up1 hn
  have h := impl_vals_loop m l hb (h1 m (by omega)) (h2 m (by omega)) (fun p hp c hc => h3 m (by omega) (p, c) (List.mem_flatMap.2 ⟨p, hp, List.mem_map.2 ⟨c, hc, rfl⟩⟩)) l.length 0 m (by omega) (by omega)
  simp only [F_impl_ValuesOk, T_impl_ValuesOk, run_done, run_fail, run_ask, run_opt, run_inl, run_inr, Option.bind_some]
  simp only [Int.natCast_zero, List.drop_zero] at h
  simp only [List.length_map]
  rw [h]
  unfold cvsOk
  cases hc : cvFrom l 0 l <;> simp [run_done, run_fail, run_ask, run_opt, run_inl, run_inr, Option.bind_some]
  all_goals omega
/-- what stands at a place -/
def cvAt (c r : Int) : List CVt → V3
  | [] => (0, 0, em)
  | p :: l => if p.1 = c ∧ p.2.1 = r then (p.2.2.1, p.2.2.2.1, p.2.2.2.2) else cvAt c r l
def cvIn (c r : Int) : List CVt → Bool
  | [] => false
  | p :: l => decide (p.1 = c ∧ p.2.1 = r) || cvIn c r l
theorem cvAt_out (c r : Int) : ∀ {l : List CVt}, cvIn c r l = false → cvAt c r l = (0, 0, em)
  | [], _ => rfl
  | p :: l, h => by
    simp only [cvIn, Bool.or_eq_false_iff, decide_eq_false_iff_not] at h
    simp only [cvAt, if_neg h.1, cvAt_out c r h.2]
theorem l6At_loop (n : Nat) (l : List CVt) (hb : l.length ≤ 140737488351232) (c r : Int) : ∀ (m i M : Nat), l.length = i + m → m + 1 ≤ M →
    loopF (B_spec_l6At_13 n) M (l.map encCV, (i : Int), c, r, 0, 0, em) = some (if cvIn c r (l.drop i) = true then .inl (cvAt c r (l.drop i)) else .inr (0, 0, em))
  | m, i, 0, h1, h2 => by omega
  | 0, i, M + 1, h1, h2 => by
    rw [loopF_inr (r := .inr (0, 0, em)) (by simp [B_spec_l6At_13, run_done, run_fail, run_ask, run_opt, run_inl, run_inr, Option.bind_some, show ¬ ((i : Int) < l.length) by omega])]
    rw [List.drop_eq_nil_of_le (by omega)]
    rfl
  | m + 1, i, M + 1, h1, h2 => by
    have hl : i < l.length := by omega
    have hg := List.getElem?_eq_getElem hl
    have hi : (i : Int) < l.length := by omega
    rw [drop_cons hg]
    generalize l[i] = p at hg
    have hw : IntKind.i64.wrap ((i : Int) + 1) = ((i + 1 : Nat) : Int) := by rw [wrap64 (by omega)]; omega
    by_cases hp : p.1 = c ∧ p.2.1 = r
    · rw [loopF_inr (r := .inl (p.2.2.1, p.2.2.2.1, p.2.2.2.2)) (by simp [B_spec_l6At_13, run_done, run_fail, run_ask, run_opt, run_inl, run_inr, Option.bind_some, hi, hg, encCV, cellI, cellS, hp])]
      simp [cvIn, cvAt, hp]
    · rw [loopF_inl (v' := (l.map encCV, ((i + 1 : Nat) : Int), c, r, 0, 0, em)) (by simp [B_spec_l6At_13, run_done, run_fail, run_ask, run_opt, run_inl, run_inr, Option.bind_some, hi, hg, encCV, cellI, cellS, hp, hw])]
      rw [l6At_loop n l hb c r m (i + 1) M (by omega) (by omega)]
      simp [cvIn, cvAt, hp]
theorem ev_spec_l6At (l : List CVt) (hb : l.length ≤ 140737488351232) (c r : Int) : Ev (F_spec_l6At · (l.map encCV) c r) (cvAt c r l) := by
  refine ⟨l.length + 2, fun n hn => ?_⟩
  obtain ⟨m, rfl, hm⟩ := up1 hn
  have h := l6At_loop m l hb c r l.length 0 m (by omega) (by omega)
  simp only [F_spec_l6At, T_spec_l6At, run_done, run_fail, run_ask, run_opt, run_inl, run_inr, Option.bind_some]
  simp only [Int.natCast_zero, List.drop_zero, em] at h
  rw [h]
  cases hc : cvIn c r l
  · simp [run_done, run_fail, run_ask, run_opt, run_inl, run_inr, Option.bind_some, cvAt_out c r hc, em]
  · simp [run_done, run_fail, run_ask, run_opt, run_inl, run_inr, Option.bind_some]
theorem ev_spec_Lookup (l : List CVt) (hb : l.length ≤ 140737488351232) (hs : ∀ c ∈ l, c.2.2.2.2.size ≤ 140737488351232) (c r : Int) : Ev (F_spec_Lookup · (l.map encCV) c r) (if cvsOk l = true then cvAt c r l else (0, 0, em)) := by
  obtain ⟨n1, h1⟩ := ev_spec_ValuesOk l hb hs
  obtain ⟨n2, h2⟩ := ev_spec_l6At l hb c r
  refine ⟨n1 + n2 + 1, fun n hn => ?_⟩
  obtain ⟨m, rfl, hm⟩ := up1 hn
  have h1 := h1 m (by omega)
  dsimp only at h1
  have h2 := h2 m (by omega)
  dsimp only at h2
  simp only [F_spec_Lookup, T_spec_Lookup, run_done, run_fail, run_ask, run_opt, run_inl, run_inr, Option.bind_some, h1, h2]
  cases cvsOk l <;> simp [em]
theorem lookup_loop (n : Nat) (l : List CVt) (hb : l.length ≤ 140737488351232) (c r : Int) : ∀ (m i M : Nat), l.length = i + m → m + 1 ≤ M →
    loopF (B_impl_lookup_13 n) M (l.map encCV, (l.length : Int), (i : Int), c, r, 0, 0, em) = some (if cvIn c r (l.drop i) = true then .inl (cvAt c r (l.drop i)) else .inr (0, 0, em))
  | m, i, 0, h1, h2 => by omega
  | 0, i, M + 1, h1, h2 => by
    rw [loopF_inr (r := .inr (0, 0, em)) (by simp [B_impl_lookup_13, run_done, run_fail, run_ask, run_opt, run_inl, run_inr, Option.bind_some, show ¬ ((i : Int) < l.length) by omega])]
    rw [List.drop_eq_nil_of_le (by omega)]
    rfl
  | m + 1, i, M + 1, h1, h2 => by
    have hl : i < l.length := by omega
    have hg := List.getElem?_eq_getElem hl
    have hi : (i : Int) < l.length := by omega
    rw [drop_cons hg]
    generalize l[i] = p at hg
    have hw : IntKind.i64.wrap ((i : Int) + 1) = ((i + 1 : Nat) : Int) := by rw [wrap64 (by omega)]; omega
    by_cases hp : p.1 = c ∧ p.2.1 = r
    · rw [loopF_inr (r := .inl (p.2.2.1, p.2.2.2.1, p.2.2.2.2)) (by simp [B_impl_lookup_13, run_done, run_fail, run_ask, run_opt, run_inl, run_inr, Option.bind_some, hi, hg, encCV, cellI, cellS, hp])]
      simp [cvIn, cvAt, hp]
    · rw [loopF_inl (v' := (l.map encCV, (l.length : Int), ((i + 1 : Nat) : Int), c, r, 0, 0, em)) (by simp [B_impl_lookup_13, run_done, run_fail, run_ask, run_opt, run_inl, run_inr, Option.bind_some, hi, hg, encCV, cellI, cellS, hp, hw])]
      rw [lookup_loop n l hb c r m (i + 1) M (by omega) (by omega)]
      simp [cvIn, cvAt, hp]
theorem ev_impl_lookup (l : List CVt) (hb : l.length ≤ 140737488351232) (c r : Int) : Ev (F_impl_lookup · (l.map encCV) c r) (cvAt c r l) := by
  refine ⟨l.length + 2, fun n hn => ?_⟩
  obtain ⟨m, rfl, hm⟩ := up1 hn
  have h := lookup_loop m l hb c r l.length 0 m (by omega) (by omega)
  simp only [F_impl_lookup, T_impl_lookup, run_done, run_fail, run_ask, run_opt, run_inl, run_inr, Option.bind_some]
  simp only [Int.natCast_zero, List.drop_zero, em] at h
  simp only [List.length_map]
  rw [h]
  cases hc : cvIn c r l
  · simp [run_done, run_fail, run_ask, run_opt, run_inl, run_inr, Option.bind_some, cvAt_out c r hc, em]
  · simp [run_done, run_fail, run_ask, run_opt, run_inl, run_inr, Option.bind_some]
theorem ev_impl_Lookup (l : List CVt) (hb : l.length ≤ 140737488351232) (hs : ∀ c ∈ l, c.2.2.2.2.size ≤ 140737488351232) (c r : Int) : Ev (F_impl_Lookup · (l.map encCV) c r) (if cvsOk l = true then cvAt c r l else (0, 0, em)) := by
  obtain ⟨n1, h1⟩ := ev_impl_ValuesOk l hb hs
  obtain ⟨n2, h2⟩ := ev_impl_lookup l hb c r
  refine ⟨n1 + n2 + 1, fun n hn => ?_⟩
  obtain ⟨m, rfl, hm⟩ := up1 hn
  have h1 := h1 m (by omega)
  dsimp only at h1
  have h2 := h2 m (by omega)
  dsimp only at h2
  simp only [F_impl_Lookup, T_impl_Lookup, run_done, run_fail, run_ask, run_opt, run_inl, run_inr, Option.bind_some, h1, h2]
  cases cvsOk l <;> simp [em]
theorem law (rows : List (List PV)) (c r : Int) (w : rows.length * 48 ≤ 140737488351232 ∧ ∀ r ∈ rows, okR [.i .i64, .i .i64, .i .i64, .i .i64, .s] r) (w1 : (Lit.int .i64 c).wf = true) (w2 : (Lit.int .i64 r).wf = true) : Ev (F_laws_FnExactLookup · rows c r) true := by
  obtain ⟨l, rfl, hs⟩ := rows_cv w.2
  have hl : l.length * 48 ≤ 140737488351232 := by simpa using w.1
  obtain ⟨n1, h1⟩ := ev_laws_toCellValueS l (by omega)
  obtain ⟨n2, h2⟩ := ev_spec_Lookup l (by omega) hs c r
  obtain ⟨n3, h3⟩ := ev_impl_Lookup l (by omega) hs c r
  obtain ⟨n4, h4⟩ := ev_laws_eqCellValueS l (by omega)
  obtain ⟨n5, h5⟩ := ev_laws_toRef c r
  generalize (if cvsOk l = true then cvAt c r l else (0, 0, em)) = v at h2 h3
  obtain ⟨n6, h6⟩ := ev_laws_eqValue v.1 v.2.1 v.2.2
  refine ⟨n1 + n2 + n3 + n4 + n5 + n6 + l.length + 8, fun n hn => ?_⟩
  obtain ⟨m, rfl, hm⟩ := up1 hn
  obtain ⟨r, hr⟩ := ev_laws_szCellValueS l (by omega) 1048576 m (by omega)
  have h1 := h1 m (by omega)
  have h2 := h2 m (by omega)
  have h3 := h3 m (by omega)
  have h4 := h4 m (by omega)
  have h5 := h5 m (by omega)
  have h6 := h6 m (by omega)
  dsimp only at h1 h2 h3 h4 h5 h6
  simp only [F_laws_FnExactLookup, T_laws_FnExactLookup, run_done, run_fail, run_ask, run_opt, run_inl, run_inr, Option.bind_some, hr, h1, h2, h3, h4, h5, h6]
  split
  · rfl
  · simp
end Go.Proofs.Ytaannlnlddbgdab.KFnExactLookup
