/-
  What the functions that FnExactFormulaOk calls answer, said of their trees. No condition beside those that stand in the statements.
-/
import Derived.Test.YtaannlnlddbgdabTFnExactFormulaOk
import Derived.Test.YtaannlnlddbgdabE32
import Derived.Lib.Strings
namespace Go.Proofs.Ytaannlnlddbgdab.KFnExactFormulaOk
open Go.Eng
set_option linter.unusedVariables false
set_option linter.unusedSimpArgs false
def Ev {R : Type} (F : Nat → Option R) (r : R) : Prop := ∃ n0, ∀ n, n0 ≤ n → F n = some r
theorem tl_len (s : ByteArray) : s.toList.length = s.size := by rw [Go.Lib.toList_data]; rfl
theorem toList_nil : (ByteArray.mk #[]).toList = [] := by decide +kernel
theorem wf64 {x : Int} (h : (Lit.int .i64 x).wf = true) : -9223372036854775808 ≤ x ∧ x ≤ 9223372036854775807 := by
  simp only [Lit.wf, Bool.and_eq_true, decide_eq_true_eq] at h
  have h1 : IntKind.i64.min = -9223372036854775808 := by decide
  have h2 : IntKind.i64.max = 9223372036854775807 := by decide
  omega
theorem wrap64 {x : Int} (h : -9223372036854775808 ≤ x ∧ x ≤ 9223372036854775807) : IntKind.i64.wrap x = x := by
  unfold IntKind.wrap
  have e1 : (2 : Int) ^ (64 - 1) = 9223372036854775808 := by decide
  have e2 : (2 : Int) ^ 64 = 18446744073709551616 := by decide
  simp only [IntKind.signed, IntKind.bits, Bool.true_and, decide_eq_true_eq, e1, e2]
  split <;> omega
theorem wrap64_in (x : Int) : -9223372036854775808 ≤ IntKind.i64.wrap x ∧ IntKind.i64.wrap x ≤ 9223372036854775807 := by
  unfold IntKind.wrap
  have e1 : (2 : Int) ^ (64 - 1) = 9223372036854775808 := by decide
  have e2 : (2 : Int) ^ 64 = 18446744073709551616 := by decide
  simp only [IntKind.signed, IntKind.bits, Bool.true_and, decide_eq_true_eq, e1, e2]
  split <;> omega
theorem get_of_lt {s : ByteArray} {i : Nat} (h : i < s.size) : ∃ c, s.toList[i]? = some c := ⟨_, List.getElem?_eq_getElem (by rw [tl_len]; exact h)⟩
theorem drop_cons {α : Type} {s : List α} {i : Nat} {c : α} (h : s[i]? = some c) : s.drop i = c :: s.drop (i + 1) := by
  obtain ⟨h1, rfl⟩ := List.getElem?_eq_some_iff.1 h
  exact List.drop_eq_getElem_cons h1
theorem loopF_inl {V R : Type} {B : V → Tr (V ⊕ R)} {m : Nat} {v v' : V} (h : (B v).run = some (.inl v')) : loopF B (m + 1) v = loopF B m v' := by simp only [loopF, h]
theorem loopF_inr {V R : Type} {B : V → Tr (V ⊕ R)} {m : Nat} {v : V} {r : R} (h : (B v).run = some (.inr r)) : loopF B (m + 1) v = some r := by simp only [loopF, h]
theorem up1 {n n0 : Nat} (h : n0 + 1 ≤ n) : ∃ m, n = m + 1 ∧ n0 ≤ m := ⟨n - 1, by omega, by omega⟩
theorem run_done {α : Type} (x : α) : (Tr.done x).run = some x := rfl
theorem run_fail {α : Type} : (Tr.fail : Tr α).run = none := rfl
theorem run_ask {α : Type} (b : Bool) (t f : Tr α) : (Tr.ask b t f).run = if b = true then t.run else f.run := by cases b <;> rfl
theorem run_opt {α β : Type} (o : Option β) (k : β → Tr α) : (Tr.opt o k).run = o.bind fun x => (k x).run := by cases o <;> rfl
theorem run_inl {α β γ : Type} (x : β) (k : β → Tr α) (l : γ → Tr α) : (Tr.alt (.inl x) k l).run = (k x).run := rfl
theorem run_inr {α β γ : Type} (x : γ) (k : β → Tr α) (l : γ → Tr α) : (Tr.alt (.inr x) k l).run = (l x).run := rfl
theorem ev_list {α R : Type} {F : α → Nat → Option R} {f : α → R} : ∀ (l : List α), (∀ c ∈ l, Ev (F c) (f c)) → ∃ n0, ∀ n, n0 ≤ n → ∀ c ∈ l, F c n = some (f c)
  | [], _ => ⟨0, fun n _ c hc => by cases hc⟩
  | a :: l, h => by
    obtain ⟨n1, h1⟩ := h a (List.mem_cons_self ..)
    obtain ⟨n2, h2⟩ := ev_list l fun c hc => h c (List.mem_cons_of_mem _ hc)
    exact ⟨n1 + n2, fun n hn c hc => by
      rcases List.mem_cons.1 hc with rfl | hc
      · exact h1 n (by omega)
      · exact h2 n (by omega) c hc⟩
/-- a list that is written anew, place by place -/
theorem conv_loop {R : Type} {B : List (List PV) × Nat × Int × List (List PV) → Tr ((List (List PV) × Nat × Int × List (List PV)) ⊕ R)} {rows : List (List PV)} {z : List PV} {r : List (List PV) → R}
    (hs : ∀ (i : Nat) (acc : List (List PV)) (e : List PV), rows[i]? = some e → acc.length = rows.length → acc[i]? = some z → (B (rows, rows.length, (i : Int), acc)).run = some (.inl (rows, rows.length, ((i + 1 : Nat) : Int), acc.set i e)))
    (he : ∀ acc : List (List PV), acc.length = rows.length → (B (rows, rows.length, (rows.length : Int), acc)).run = some (.inr (r acc))) :
    ∀ (m i M : Nat), rows.length = i + m → m + 1 ≤ M → loopF B M (rows, rows.length, (i : Int), rows.take i ++ zrows z m) = some (r rows)
  | m, i, 0, h1, h2 => by omega
  | 0, i, M + 1, h1, h2 => by
    have hi : i = rows.length := by omega
    subst hi
    have e : rows.take rows.length ++ zrows z 0 = rows := by simp [zrows]
    rw [e, loopF_inr (he rows rfl)]
  | m + 1, i, M + 1, h1, h2 => by
    have hl : i < rows.length := by omega
    have hg := List.getElem?_eq_getElem hl
    have hlen : (rows.take i ++ zrows z (m + 1)).length = rows.length := by simp [zrows]; omega
    have hz : (rows.take i ++ zrows z (m + 1))[i]? = some z := by
      rw [List.getElem?_append_right (by simp; omega)]
      simp [zrows, Nat.min_eq_left (Nat.le_of_lt hl)]
    rw [loopF_inl (hs i _ _ hg hlen hz)]
    have e : (rows.take i ++ zrows z (m + 1)).set i rows[i] = rows.take (i + 1) ++ zrows z m := by
      have hx : zrows z (m + 1) = z :: zrows z m := by simp [zrows, List.replicate_succ]
      rw [hx, List.set_append_right (h := by simp; omega)]
      have : i - (rows.take i).length = 0 := by simp; omega
      rw [this, List.set_cons_zero, show rows.take (i + 1) = rows.take i ++ [rows[i]] from by rw [List.take_add_one, hg]; rfl, List.append_assoc]
      rfl
    rw [e]
    exact conv_loop hs he m (i + 1) M (by omega) (by omega)
theorem conv_all {R : Type} {B : List (List PV) × Nat × Int × List (List PV) → Tr ((List (List PV) × Nat × Int × List (List PV)) ⊕ R)} {rows : List (List PV)} {z : List PV} {r : List (List PV) → R} {M : Nat}
    (hs : ∀ (i : Nat) (acc : List (List PV)) (e : List PV), rows[i]? = some e → acc.length = rows.length → acc[i]? = some z → (B (rows, rows.length, (i : Int), acc)).run = some (.inl (rows, rows.length, ((i + 1 : Nat) : Int), acc.set i e)))
    (he : ∀ acc : List (List PV), acc.length = rows.length → (B (rows, rows.length, (rows.length : Int), acc)).run = some (.inr (r acc))) (hM : rows.length + 1 ≤ M) :
    loopF B M (rows, rows.length, 0, zrows z rows.length) = some (r rows) := by
  have := conv_loop (B := B) hs he rows.length 0 M (by omega) hM
  simpa using this
/-- a list held against itself -/
theorem eq_loop {R : Type} {B : List (List PV) × List (List PV) × Int → Tr ((List (List PV) × List (List PV) × Int) ⊕ R)} {rows : List (List PV)} {r : R}
    (hs : ∀ (i : Nat) (e : List PV), rows[i]? = some e → (B (rows, rows, (i : Int))).run = some (.inl (rows, rows, ((i + 1 : Nat) : Int)))) (he : (B (rows, rows, (rows.length : Int))).run = some (.inr r)) :
    ∀ (m i M : Nat), rows.length = i + m → m + 1 ≤ M → loopF B M (rows, rows, (i : Int)) = some r
  | m, i, 0, h1, h2 => by omega
  | 0, i, M + 1, h1, h2 => by
    have hi : i = rows.length := by omega
    subst hi
    rw [loopF_inr he]
  | m + 1, i, M + 1, h1, h2 => by
    have hg := List.getElem?_eq_getElem (l := rows) (i := i) (by omega)
    rw [loopF_inl (hs i _ hg)]
    exact eq_loop hs he m (i + 1) M (by omega) (by omega)
/-- a list's size, as far as it is not too great -/
theorem sz_loop {R : Type} {B : List (List PV) × Int × Int → Tr ((List (List PV) × Int × Int) ⊕ R)} {rows : List (List PV)}
    (hs : ∀ (i : Nat) (e : List PV) (x : Int), rows[i]? = some e → (∃ y, (B (rows, x, (i : Int))).run = some (.inl (rows, y, ((i + 1 : Nat) : Int)))) ∨ ∃ r, (B (rows, x, (i : Int))).run = some (.inr r)) (he : ∀ x, ∃ r, (B (rows, x, (rows.length : Int))).run = some (.inr r)) :
    ∀ (m i M : Nat) (x : Int), rows.length = i + m → m + 1 ≤ M → ∃ r, loopF B M (rows, x, (i : Int)) = some r
  | m, i, 0, x, h1, h2 => by omega
  | 0, i, M + 1, x, h1, h2 => by
    have hi : i = rows.length := by omega
    subst hi
    obtain ⟨r, hr⟩ := he x
    exact ⟨r, loopF_inr hr⟩
  | m + 1, i, M + 1, x, h1, h2 => by
    have hg := List.getElem?_eq_getElem (l := rows) (i := i) (by omega)
    rcases hs i _ x hg with ⟨y, hy⟩ | ⟨r, hr⟩
    · rw [loopF_inl hy]
      exact sz_loop hs he m (i + 1) M y (by omega) (by omega)
    · exact ⟨r, loopF_inr hr⟩
/-- rows of a shape, as a list of what stands in them -/
theorem rows_map {α : Type} {enc : α → List PV} {P : α → Prop} {sh : List Sh} (hd : ∀ e, okR sh e → ∃ a, e = enc a ∧ P a) : ∀ {rows : List (List PV)}, (∀ e ∈ rows, okR sh e) → ∃ l : List α, rows = l.map enc ∧ ∀ a ∈ l, P a
  | [], _ => ⟨[], rfl, fun a h => by cases h⟩
  | e :: rows, h => by
    obtain ⟨a, rfl, ha⟩ := hd e (h e (List.mem_cons_self ..))
    obtain ⟨l, rfl, hl⟩ := rows_map hd fun e he => h e (List.mem_cons_of_mem _ he)
    exact ⟨a :: l, rfl, fun b hb => by
      rcases List.mem_cons.1 hb with rfl | hb
      · exact ha
      · exact hl b hb⟩
theorem opt_eq {α β : Type} {o : Option β} {x : β} {k : β → Tr α} {y : Option α} (h : o = some x) (h2 : (k x).run = y) : (Tr.opt o k).run = y := by rw [h]; exact h2
theorem ask_t {α : Type} {b : Bool} {t f : Tr α} {y : Option α} (h : b = true) (h2 : t.run = y) : (Tr.ask b t f).run = y := by rw [h]; exact h2
theorem ask_f {α : Type} {b : Bool} {t f : Tr α} {y : Option α} (h : b = false) (h2 : f.run = y) : (Tr.ask b t f).run = y := by rw [h]; exact h2
theorem apart_b (b : Bool) : apartR (⟨(.c (.p (.b b))), [], []⟩ : Res) = true := rfl
theorem apart_i (x : Int) : apartR (⟨(.c (.p (.i .i64 x))), [], []⟩ : Res) = true := rfl
theorem apart_s (x : ByteArray) : apartR (⟨(.c (.p (.s x))), [], []⟩ : Res) = true := rfl
theorem ev_spec_l1In (x lo hi : Int) : Ev (F_spec_l1In · x lo hi) (decide (lo ≤ x ∧ x ≤ hi)) := by
  refine ⟨1, fun n hn => ?_⟩
  obtain ⟨m, rfl, hm⟩ := up1 hn
  simp only [F_spec_l1In, T_spec_l1In, run_done, run_fail, run_ask, run_opt, run_inl, run_inr, Option.bind_some, apart_b, apart_i, apart_s]
  by_cases h : x ≥ lo <;> simp [h]
theorem ev_impl_within (x lo hi : Int) : Ev (F_impl_within · x lo hi) (decide (lo ≤ x ∧ x ≤ hi)) := by
  refine ⟨1, fun n hn => ?_⟩
  obtain ⟨m, rfl, hm⟩ := up1 hn
  simp only [F_impl_within, T_impl_within, run_done, run_fail, run_ask, run_opt, run_inl, run_inr, Option.bind_some, apart_b, apart_i, apart_s]
  by_cases h : x ≥ lo <;> simp [h]
/-- the bytes from 32 to 126 -/
def okc (c : UInt8) : Bool := decide (32 ≤ c.toNat ∧ c.toNat ≤ 126)
def plainN (s : ByteArray) (most : Int) : Bool := s.toList.all okc && decide ((s.size : Int) ≤ most)
def okV (k n : Int) (s : ByteArray) : Bool :=
  if k = 2 then decide (n = 0) && plainN s 200 else (s.toList == []) && (if k = 0 then decide (n = 0) else if k = 1 then decide (-1000000000000000 ≤ n ∧ n ≤ 1000000000000000) else if k = 3 then decide (0 ≤ n ∧ n ≤ 1) else if k = 4 then decide (1 ≤ n ∧ n ≤ 5) else false)
theorem l2Plain_loop (n : Nat) (s : ByteArray) (hb : s.size ≤ 140737488351232) : ∀ (m i M : Nat), s.size = i + m → m + 1 ≤ M →
    loopF (B_spec_l2Plain_13 n) M (s, (i : Int)) = some (if (s.toList.drop i).all okc then .inr s else .inl false)
  | m, i, 0, h1, h2 => by omega
  | 0, i, M + 1, h1, h2 => by
    rw [loopF_inr (r := .inr s) (by simp [B_spec_l2Plain_13, run_done, run_fail, run_ask, run_opt, run_inl, run_inr, Option.bind_some, apart_b, apart_i, apart_s, show ¬ ((i : Int) < s.size) by omega])]
    rw [List.drop_eq_nil_of_le (by rw [tl_len]; omega)]
    rfl
  | m + 1, i, M + 1, h1, h2 => by
    obtain ⟨c, hc⟩ := get_of_lt (s := s) (i := i) (by omega)
    have hi : (i : Int) < s.size := by omega
    rw [drop_cons hc]
    by_cases c1 : (c.toNat : Int) < 32
    · rw [loopF_inr (r := .inl false) (by simp [B_spec_l2Plain_13, run_done, run_fail, run_ask, run_opt, run_inl, run_inr, Option.bind_some, apart_b, apart_i, apart_s, hi, hc, c1])]
      have : okc c = false := by simp [okc]; omega
      simp [this]
    · by_cases c2 : (c.toNat : Int) > 126
      · rw [loopF_inr (r := .inl false) (by simp [B_spec_l2Plain_13, run_done, run_fail, run_ask, run_opt, run_inl, run_inr, Option.bind_some, apart_b, apart_i, apart_s, hi, hc, c1, c2])]
        have : okc c = false := by simp [okc]; omega
        simp [this]
      · have hw : IntKind.i64.wrap ((i : Int) + 1) = ((i + 1 : Nat) : Int) := by rw [wrap64 (by omega)]; omega
        rw [loopF_inl (v' := (s, ((i + 1 : Nat) : Int))) (by simp [B_spec_l2Plain_13, run_done, run_fail, run_ask, run_opt, run_inl, run_inr, Option.bind_some, apart_b, apart_i, apart_s, hi, hc, c1, c2, hw])]
        rw [l2Plain_loop n s hb m (i + 1) M (by omega) (by omega)]
        have : okc c = true := by simp [okc]; omega
        simp [this]
theorem ev_spec_l2Plain (s : ByteArray) (hb : s.size ≤ 140737488351232) : Ev (F_spec_l2Plain · s) (plainN s 200) := by
  refine ⟨s.size + 2, fun n hn => ?_⟩
  obtain ⟨m, rfl, hm⟩ := up1 hn
  have h := l2Plain_loop m s hb s.size 0 m (by omega) (by omega)
  simp only [F_spec_l2Plain, T_spec_l2Plain, run_done, run_fail, run_ask, run_opt, run_inl, run_inr, Option.bind_some, apart_b, apart_i, apart_s]
  simp only [Int.natCast_zero, List.drop_zero] at h
  rw [h]
  cases hc : s.toList.all okc <;> simp [run_done, run_fail, run_ask, run_opt, run_inl, run_inr, Option.bind_some, apart_b, apart_i, apart_s, plainN, hc]
theorem isText_loop (n : Nat) (s : ByteArray) (y : Int) (hb : s.size ≤ 140737488351232) : ∀ (m i M : Nat), s.size = i + m → m + 1 ≤ M →
    loopF (B_impl_isText_13 n) M (s, y, (s.size : Int), (i : Int)) = some (if (s.toList.drop i).all okc then .inr (s, y) else .inl false)
  | m, i, 0, h1, h2 => by omega
  | 0, i, M + 1, h1, h2 => by
    rw [loopF_inr (r := .inr (s, y)) (by simp [B_impl_isText_13, run_done, run_fail, run_ask, run_opt, run_inl, run_inr, Option.bind_some, apart_b, apart_i, apart_s, show ¬ ((i : Int) < s.size) by omega])]
    rw [List.drop_eq_nil_of_le (by rw [tl_len]; omega)]
    rfl
  | m + 1, i, M + 1, h1, h2 => by
    obtain ⟨c, hc⟩ := get_of_lt (s := s) (i := i) (by omega)
    have hi : (i : Int) < s.size := by omega
    rw [drop_cons hc]
    by_cases c1 : (c.toNat : Int) < 32
    · rw [loopF_inr (r := .inl false) (by simp [B_impl_isText_13, run_done, run_fail, run_ask, run_opt, run_inl, run_inr, Option.bind_some, apart_b, apart_i, apart_s, hi, hc, c1])]
      have : okc c = false := by simp [okc]; omega
      simp [this]
    · by_cases c2 : (c.toNat : Int) > 126
      · rw [loopF_inr (r := .inl false) (by simp [B_impl_isText_13, run_done, run_fail, run_ask, run_opt, run_inl, run_inr, Option.bind_some, apart_b, apart_i, apart_s, hi, hc, c1, c2])]
        have : okc c = false := by simp [okc]; omega
        simp [this]
      · have hw : IntKind.i64.wrap ((i : Int) + 1) = ((i + 1 : Nat) : Int) := by rw [wrap64 (by omega)]; omega
        rw [loopF_inl (v' := (s, y, (s.size : Int), ((i + 1 : Nat) : Int))) (by simp [B_impl_isText_13, run_done, run_fail, run_ask, run_opt, run_inl, run_inr, Option.bind_some, apart_b, apart_i, apart_s, hi, hc, c1, c2, hw])]
        rw [isText_loop n s y hb m (i + 1) M (by omega) (by omega)]
        have : okc c = true := by simp [okc]; omega
        simp [this]
theorem ev_impl_isText (s : ByteArray) (y : Int) (hb : s.size ≤ 140737488351232) : Ev (F_impl_isText · s y) (plainN s y) := by
  refine ⟨s.size + 2, fun n hn => ?_⟩
  obtain ⟨m, rfl, hm⟩ := up1 hn
  have h := isText_loop m s y hb s.size 0 m (by omega) (by omega)
  simp only [F_impl_isText, T_impl_isText, run_done, run_fail, run_ask, run_opt, run_inl, run_inr, Option.bind_some, apart_b, apart_i, apart_s]
  simp only [Int.natCast_zero, List.drop_zero] at h
  rw [h]
  cases hc : s.toList.all okc <;> simp [run_done, run_fail, run_ask, run_opt, run_inl, run_inr, Option.bind_some, apart_b, apart_i, apart_s, plainN, hc]
theorem ev_spec_ValueOk (k x : Int) (s : ByteArray) (hb : s.size ≤ 140737488351232) : Ev (F_spec_ValueOk · k x s) (okV k x s) := by
  obtain ⟨n1, h1⟩ := ev_spec_l1In x (-1000000000000000) 1000000000000000
  obtain ⟨n2, h2⟩ := ev_spec_l1In x 0 1
  obtain ⟨n3, h3⟩ := ev_spec_l1In x 1 5
  obtain ⟨n4, h4⟩ := ev_spec_l2Plain s hb
  refine ⟨n1 + n2 + n3 + n4 + 1, fun n hn => ?_⟩
  obtain ⟨m, rfl, hm⟩ := up1 hn
  have h1 := h1 m (by omega)
  dsimp only at h1
  have h2 := h2 m (by omega)
  dsimp only at h2
  have h3 := h3 m (by omega)
  dsimp only at h3
  have h4 := h4 m (by omega)
  dsimp only at h4
  simp only [F_spec_ValueOk, T_spec_ValueOk, run_done, run_fail, run_ask, run_opt, run_inl, run_inr, Option.bind_some, apart_b, apart_i, apart_s, h1, h2, h3, h4]
  simp only [okV, toList_nil]
  by_cases k2 : k = 2
  · subst k2
    by_cases x0 : x = 0 <;> simp [x0]
  · by_cases k0 : k = 0
    · subst k0
      by_cases x0 : x = 0 <;> simp [x0]
    · by_cases k1 : k = 1
      · subst k1
        by_cases hx : -1000000000000000 ≤ x ∧ x ≤ 1000000000000000 <;> simp [hx]
      · by_cases k3 : k = 3
        · subst k3
          by_cases hx : 0 ≤ x ∧ x ≤ 1 <;> simp [hx]
        · by_cases k4 : k = 4
          · subst k4
            by_cases hx : 1 ≤ x ∧ x ≤ 5 <;> simp [hx]
          · simp [k0, k1, k2, k3, k4]
theorem ev_impl_ValueOk (k x : Int) (s : ByteArray) (hb : s.size ≤ 140737488351232) : Ev (F_impl_ValueOk · k x s) (okV k x s) := by
  obtain ⟨n1, h1⟩ := ev_impl_within x (-1000000000000000) 1000000000000000
  obtain ⟨n2, h2⟩ := ev_impl_within x 0 1
  obtain ⟨n3, h3⟩ := ev_impl_within x 1 5
  obtain ⟨n4, h4⟩ := ev_impl_isText s 200 hb
  refine ⟨n1 + n2 + n3 + n4 + 1, fun n hn => ?_⟩
  obtain ⟨m, rfl, hm⟩ := up1 hn
  have h1 := h1 m (by omega)
  dsimp only at h1
  have h2 := h2 m (by omega)
  dsimp only at h2
  have h3 := h3 m (by omega)
  dsimp only at h3
  have h4 := h4 m (by omega)
  dsimp only at h4
  simp only [F_impl_ValueOk, T_impl_ValueOk, run_done, run_fail, run_ask, run_opt, run_inl, run_inr, Option.bind_some, apart_b, apart_i, apart_s, h1, h2, h3, h4]
  simp only [okV, toList_nil]
  by_cases k2 : k = 2
  · subst k2
    by_cases x0 : x = 0 <;> simp [x0]
  · by_cases he : s.toList = []
    · by_cases k0 : k = 0
      · subst k0
        by_cases x0 : x = 0 <;> simp [x0, he]
      · by_cases k1 : k = 1
        · subst k1; simp [he]
        · by_cases k3 : k = 3
          · subst k3; simp [he]
          · by_cases k4 : k = 4
            · subst k4; simp [he]
            · simp [k0, k1, k2, k3, k4, he]
    · simp [k2, he]
abbrev V3 := Int × Int × ByteArray
def em : ByteArray := ⟨#[]⟩
/-- a value as a number; else what is answered -/
def num (k x : Int) (s : ByteArray) : Int ⊕ V3 := if okV k x s = true then (if k = 0 ∨ k = 1 then .inl x else if k = 4 then .inr (k, x, s) else .inr (4, 2, em)) else .inr (4, 2, em)
def fin64 (z : Int) : V3 := if -1000000000000000 ≤ z ∧ z ≤ 1000000000000000 then (1, z, em) else (4, 4, em)
def arith (op : Int → Int → V3) (k x : Int) (s : ByteArray) (k' x' : Int) (s' : ByteArray) : V3 := match num k x s with
  | .inr e => e
  | .inl a => match num k' x' s' with
    | .inr e => e
    | .inl b => op a b
theorem num_inr {k x : Int} {s : ByteArray} {e : V3} (h : num k x s = .inr e) : e.1 = 4 := by
  unfold num at h
  split at h
  · split at h
    · cases h
    · split at h
      · cases h; assumption
      · cases h; rfl
  · cases h; rfl
theorem num_ne {k x : Int} {s : ByteArray} {e : V3} (h : num k x s = .inr e) : ¬ e.1 = 0 := by rw [num_inr h]; decide
theorem num_inl {k x : Int} {s : ByteArray} {a : Int} (h : num k x s = .inl a) : -1000000000000000 ≤ a ∧ a ≤ 1000000000000000 := by
  unfold num at h
  split at h
  · rename_i ho
    split at h
    · rename_i hk
      cases h
      unfold okV at ho
      rcases hk with rfl | rfl
      · simp at ho; omega
      · simp at ho; exact ho.2
    · split at h <;> cases h
  · cases h
theorem ev_laws_szValue (k x : Int) (s : ByteArray) (left : Int) : ∃ r, Ev (F_laws_szValue · k x s left) r := by
  by_cases h : IntKind.i64.wrap (left - s.size) < 0
  · refine ⟨-1, ?_⟩
    refine ⟨1, fun n hn => ?_⟩
    obtain ⟨m, rfl, hm⟩ := up1 hn
    simp only [F_laws_szValue, T_laws_szValue, run_done, run_fail, run_ask, run_opt, run_inl, run_inr, Option.bind_some, apart_b, apart_i, apart_s]
    simp [h]
  · refine ⟨IntKind.i64.wrap (left - s.size), ?_⟩
    refine ⟨1, fun n hn => ?_⟩
    obtain ⟨m, rfl, hm⟩ := up1 hn
    simp only [F_laws_szValue, T_laws_szValue, run_done, run_fail, run_ask, run_opt, run_inl, run_inr, Option.bind_some, apart_b, apart_i, apart_s]
    simp [h]
theorem ev_laws_toValue (k x : Int) (s : ByteArray) : Ev (F_laws_toValue · k x s) (k, x, s) := by
  refine ⟨1, fun n hn => ?_⟩
  obtain ⟨m, rfl, hm⟩ := up1 hn
  simp only [F_laws_toValue, T_laws_toValue, run_done, run_fail, run_ask, run_opt, run_inl, run_inr, Option.bind_some, apart_b, apart_i, apart_s]
theorem ev_laws_eqValue (k x : Int) (s : ByteArray) : Ev (F_laws_eqValue · k x s k x s) true := by
  refine ⟨1, fun n hn => ?_⟩
  obtain ⟨m, rfl, hm⟩ := up1 hn
  simp only [F_laws_eqValue, T_laws_eqValue, run_done, run_fail, run_ask, run_opt, run_inl, run_inr, Option.bind_some, apart_b, apart_i, apart_s]
  simp
def absI (x : Int) : Int := if x < 0 then -x else x
def timesV (a b : Int) : V3 := if a = 0 ∨ b = 0 then fin64 0 else if absI a > Int.tdiv 1000000000000000 (absI b) then (4, 4, em) else fin64 (IntKind.i64.wrap (a * b))
theorem tdiv_in {b : Int} (h : 1 ≤ b) : 0 ≤ Int.tdiv 1000000000000000 b ∧ Int.tdiv 1000000000000000 b ≤ 1000000000000000 := by
  rw [Int.tdiv_eq_ediv_of_nonneg (by decide)]
  exact ⟨Int.ediv_nonneg (by decide) (by omega), Int.ediv_le_self _ (by decide)⟩
theorem ev_laws_toRef (x y : Int) : Ev (F_laws_toRef · x y) (x, y) := by
  refine ⟨1, fun n hn => ?_⟩
  obtain ⟨m, rfl, hm⟩ := up1 hn
  simp only [F_laws_toRef, T_laws_toRef, run_done, run_fail, run_ask, run_opt, run_inl, run_inr, Option.bind_some, apart_b, apart_i, apart_s]
theorem ev_laws_eqRef (x y z w : Int) : Ev (F_laws_eqRef · x y z w) (decide (x = z ∧ y = w)) := by
  refine ⟨1, fun n hn => ?_⟩
  obtain ⟨m, rfl, hm⟩ := up1 hn
  simp only [F_laws_eqRef, T_laws_eqRef, run_done, run_fail, run_ask, run_opt, run_inl, run_inr, Option.bind_some, apart_b, apart_i, apart_s]
  by_cases h : x = z <;> by_cases h' : y = w <;> simp [h, h']
def okRef (c r : Int) : Bool := decide (1 ≤ c ∧ c ≤ 52) && decide (1 ≤ r ∧ r ≤ 99)
def okArea (a b c d : Int) : Bool := okRef a b && okRef c d && decide (a ≤ c) && decide (b ≤ d)
theorem ev_spec_RefOk (c r : Int) : Ev (F_spec_RefOk · c r) (okRef c r) := by
  obtain ⟨n1, h1⟩ := ev_spec_l1In c 1 52
  obtain ⟨n2, h2⟩ := ev_spec_l1In r 1 99
  refine ⟨n1 + n2 + 1, fun n hn => ?_⟩
  obtain ⟨m, rfl, hm⟩ := up1 hn
  have h1 := h1 m (by omega)
  dsimp only at h1
  have h2 := h2 m (by omega)
  dsimp only at h2
  simp only [F_spec_RefOk, T_spec_RefOk, run_done, run_fail, run_ask, run_opt, run_inl, run_inr, Option.bind_some, apart_b, apart_i, apart_s, h1, h2]
  unfold okRef
  cases decide (1 ≤ c ∧ c ≤ 52) <;> simp
theorem ev_impl_RefOk (c r : Int) : Ev (F_impl_RefOk · c r) (okRef c r) := by
  obtain ⟨n1, h1⟩ := ev_impl_within c 1 52
  obtain ⟨n2, h2⟩ := ev_impl_within r 1 99
  refine ⟨n1 + n2 + 1, fun n hn => ?_⟩
  obtain ⟨m, rfl, hm⟩ := up1 hn
  have h1 := h1 m (by omega)
  dsimp only at h1
  have h2 := h2 m (by omega)
  dsimp only at h2
  simp only [F_impl_RefOk, T_impl_RefOk, run_done, run_fail, run_ask, run_opt, run_inl, run_inr, Option.bind_some, apart_b, apart_i, apart_s, h1, h2]
  unfold okRef
  cases decide (1 ≤ c ∧ c ≤ 52) <;> simp
theorem ev_spec_AreaOk (a b c d : Int) : Ev (F_spec_AreaOk · a b c d) (okArea a b c d) := by
  obtain ⟨n1, h1⟩ := ev_spec_RefOk a b
  obtain ⟨n2, h2⟩ := ev_spec_RefOk c d
  refine ⟨n1 + n2 + 1, fun n hn => ?_⟩
  obtain ⟨m, rfl, hm⟩ := up1 hn
  have h1 := h1 m (by omega)
  dsimp only at h1
  have h2 := h2 m (by omega)
  dsimp only at h2
  simp only [F_spec_AreaOk, T_spec_AreaOk, run_done, run_fail, run_ask, run_opt, run_inl, run_inr, Option.bind_some, apart_b, apart_i, apart_s, h1, h2]
  unfold okArea
  cases okRef a b <;> cases okRef c d <;> by_cases h : a ≤ c <;> simp [h]
theorem ev_impl_AreaOk (a b c d : Int) : Ev (F_impl_AreaOk · a b c d) (okArea a b c d) := by
  obtain ⟨n1, h1⟩ := ev_impl_RefOk a b
  obtain ⟨n2, h2⟩ := ev_impl_RefOk c d
  refine ⟨n1 + n2 + 1, fun n hn => ?_⟩
  obtain ⟨m, rfl, hm⟩ := up1 hn
  have h1 := h1 m (by omega)
  dsimp only at h1
  have h2 := h2 m (by omega)
  dsimp only at h2
  simp only [F_impl_AreaOk, T_impl_AreaOk, run_done, run_fail, run_ask, run_opt, run_inl, run_inr, Option.bind_some, apart_b, apart_i, apart_s, h1, h2]
  unfold okArea
  cases okRef a b <;> cases okRef c d <;> by_cases h : a ≤ c <;> simp [h]
abbrev A5 := Int × Int × Int × Int × Bool
def common (x0 x1 x2 x3 x4 x5 x6 x7 : Int) : A5 :=
  if okArea x0 x1 x2 x3 = true ∧ okArea x4 x5 x6 x7 = true ∧ okArea (if x4 > x0 then x4 else x0) (if x5 > x1 then x5 else x1) (if x6 < x2 then x6 else x2) (if x7 < x3 then x7 else x3) = true then
    ((if x4 > x0 then x4 else x0), (if x5 > x1 then x5 else x1), (if x6 < x2 then x6 else x2), (if x7 < x3 then x7 else x3), true) else (0, 0, 0, 0, false)
def cmpI (x y : Int) : Int := if x < y then -1 else if x > y then 1 else 0
def cmpS (x y : ByteArray) : Int := if Op.bytesLess x.toList y.toList = true then -1 else if x.toList = y.toList then 0 else 1
def firstNZ : List Int → Int
  | [] => 0
  | x :: r => if x ≠ 0 then x else firstNZ r
def ordV (k x : Int) (s : ByteArray) (k' x' : Int) (s' : ByteArray) : Int := firstNZ [cmpI k k', cmpI x x', cmpS s s']
def heldB (op o : Int) : Bool := if op = 6 then o == 0 else if op = 7 then o != 0 else if op = 8 then decide (o < 0) else if op = 9 then decide (o ≤ 0) else if op = 10 then decide (o > 0) else decide (o ≥ 0)
def held (op k x : Int) (s : ByteArray) (k' x' : Int) (s' : ByteArray) : Int × Int × ByteArray :=
  if okV k x s = true ∧ okV k' x' s' = true ∧ 6 ≤ op ∧ op ≤ 11 then
    (if k = 4 then (k, x, s) else if k' = 4 then (k', x', s') else (3, if heldB op (ordV (if k = 0 then k' else k) x s (if k' = 0 then k else k') x' s') = true then 1 else 0, em))
  else (4, 2, em)
abbrev CVt := Int × Int × Int × Int × ByteArray
def encCV (c : CVt) : List PV := [.i .i64 c.1, .i .i64 c.2.1, .i .i64 c.2.2.1, .i .i64 c.2.2.2.1, .s c.2.2.2.2]
theorem rows_cv {rows : List (List PV)} (h : ∀ e ∈ rows, okR [.i .i64, .i .i64, .i .i64, .i .i64, .s] e) : ∃ l : List CVt, rows = l.map encCV ∧ ∀ c ∈ l, c.2.2.2.2.size ≤ 140737488351232 := by
  refine rows_map (fun e h => ?_) h
  obtain ⟨c0, t0, rfl, p0, h⟩ := okR_cons h
  obtain ⟨c1, t1, rfl, p1, h1⟩ := okR_cons h
  obtain ⟨c2, t2, rfl, p2, h2⟩ := okR_cons h1
  obtain ⟨c3, t3, rfl, p3, h3⟩ := okR_cons h2
  obtain ⟨c4, t4, rfl, p4, h4⟩ := okR_cons h3
  obtain rfl := okR_nil h4
  obtain ⟨x0, rfl, _⟩ := okP_i p0
  obtain ⟨x1, rfl, _⟩ := okP_i p1
  obtain ⟨x2, rfl, _⟩ := okP_i p2
  obtain ⟨x3, rfl, _⟩ := okP_i p3
  obtain ⟨x4, rfl, w⟩ := okP_s p4
  exact ⟨(x0, x1, x2, x3, x4), rfl, w⟩
theorem cv_get {l : List CVt} {i : Nat} {e : List PV} (h : (l.map encCV)[i]? = some e) : ∃ c, l[i]? = some c ∧ e = encCV c := by
  rw [List.getElem?_map] at h
  obtain ⟨c, h1, h2⟩ := Option.map_eq_some_iff.1 h
  exact ⟨c, h1, h2.symm⟩
theorem un_laws_szValue (n : Nat) (k x : Int) (s : ByteArray) (left : Int) : ∃ r, F_laws_szValue (n + 1) k x s left = some r := by
  simp only [F_laws_szValue, T_laws_szValue, run_done, run_fail, run_ask, run_opt, run_inl, run_inr, Option.bind_some, apart_b, apart_i, apart_s]
  by_cases h : IntKind.i64.wrap (left - s.size) < 0
  · exact ⟨-1, by simp [h]⟩
  · exact ⟨IntKind.i64.wrap (left - s.size), by simp [h]⟩
theorem un_laws_eqValue (n : Nat) (k x : Int) (s : ByteArray) : F_laws_eqValue (n + 1) k x s k x s = some true := by
  simp only [F_laws_eqValue, T_laws_eqValue, run_done, run_fail, run_ask, run_opt, run_inl, run_inr, Option.bind_some, apart_b, apart_i, apart_s]
  simp
def ahead (a b c d : Int) : Bool := decide (b < d ∨ (b = d ∧ a < c))
/-- a value at its place -/
def cvOk (l : List CVt) (i : Nat) (c : CVt) : Bool := okRef c.1 c.2.1 && okV c.2.2.1 c.2.2.2.1 c.2.2.2.2 && (match i with | 0 => true | j + 1 => match l[j]? with | some p => ahead p.1 p.2.1 c.1 c.2.1 | none => true)
def cvFrom (l : List CVt) : Nat → List CVt → Bool
  | _, [] => true
  | i, c :: r => cvOk l i c && cvFrom l (i + 1) r
def cvsOk (l : List CVt) : Bool := cvFrom l 0 l && decide ((l.length : Int) ≤ 120)
theorem ahead_cmp (a b c d : Int) : decide (firstNZ [cmpI b d, cmpI a c] ≥ 0) = !(ahead a b c d) := by
  unfold firstNZ firstNZ firstNZ cmpI ahead
  by_cases h1 : b < d
  · simp [h1]
  · by_cases h2 : b > d
    · have : ¬ b = d := by omega
      simp [h1, h2, this]
    · have : b = d := by omega
      subst this
      by_cases h3 : a < c
      · simp [h3]
      · by_cases h4 : a > c <;> simp [h3, h4]
/-- what stands at a place -/
def cvAt (c r : Int) : List CVt → V3
  | [] => (0, 0, em)
  | p :: l => if p.1 = c ∧ p.2.1 = r then (p.2.2.1, p.2.2.2.1, p.2.2.2.2) else cvAt c r l
def cvIn (c r : Int) : List CVt → Bool
  | [] => false
  | p :: l => decide (p.1 = c ∧ p.2.1 = r) || cvIn c r l
theorem cvAt_out (c r : Int) : ∀ {l : List CVt}, cvIn c r l = false → cvAt c r l = (0, 0, em)
  | [], _ => rfl
  | p :: l, h => by
    simp only [cvIn, Bool.or_eq_false_iff, decide_eq_false_iff_not] at h
    simp only [cvAt, if_neg h.1, cvAt_out c r h.2]
abbrev Ch := Int × Int × ByteArray × ByteArray
def encCh (c : Ch) : List PV := [.i .i64 c.1, .i .i64 c.2.1, .s c.2.2.1, .s c.2.2.2]
theorem rows_ch {rows : List (List PV)} (h : ∀ e ∈ rows, okR [.i .i64, .i .i64, .s, .s] e) : ∃ l : List Ch, rows = l.map encCh ∧ ∀ c ∈ l, True := by
  refine rows_map (fun e h => ?_) h
  obtain ⟨c0, t0, rfl, p0, h⟩ := okR_cons h
  obtain ⟨c1, t1, rfl, p1, h1⟩ := okR_cons h
  obtain ⟨c2, t2, rfl, p2, h2⟩ := okR_cons h1
  obtain ⟨c3, t3, rfl, p3, h3⟩ := okR_cons h2
  obtain rfl := okR_nil h3
  obtain ⟨x0, rfl, _⟩ := okP_i p0
  obtain ⟨x1, rfl, _⟩ := okP_i p1
  obtain ⟨x2, rfl, _⟩ := okP_s p2
  obtain ⟨x3, rfl, _⟩ := okP_s p3
  exact ⟨(x0, x1, x2, x3), rfl, trivial⟩
theorem ch_get {l : List Ch} {i : Nat} {e : List PV} (h : (l.map encCh)[i]? = some e) : ∃ c, l[i]? = some c ∧ e = encCh c := by
  rw [List.getElem?_map] at h
  obtain ⟨c, h1, h2⟩ := Option.map_eq_some_iff.1 h
  exact ⟨c, h1, h2.symm⟩
theorem apart_ch (m sz ty : Nat) (l : List Ch) : apartR (⟨(.c (.own 0 0 0 m)), [], [⟨0, sz, ty, (.row (l.map encCh))⟩]⟩ : Res) = true := by
  simp [apartR, AV.cvs, flatO, flatB, encCh, CV.flat]
def swp (c : Ch) : Ch := (c.1, c.2.1, c.2.2.2, c.2.2.1)
def turnedL (l : List Ch) : List Ch := (l.map swp).reverse
theorem ev_of {R : Type} {F : Nat → Option R} {r : R} {k : Nat} (h : ∀ n, k ≤ n → F n = some r) : Ev F r := ⟨k, h⟩
theorem wf8 {x : Int} (h : (Lit.int .u8 x).wf = true) : 0 ≤ x ∧ x ≤ 255 := by
  simp only [Lit.wf, Bool.and_eq_true, decide_eq_true_eq] at h
  have h1 : IntKind.u8.min = 0 := by decide
  have h2 : IntKind.u8.max = 255 := by decide
  omega
theorem wrapu_in (x : Int) : 0 ≤ IntKind.u64.wrap x ∧ IntKind.u64.wrap x ≤ 18446744073709551615 := by
  unfold IntKind.wrap
  have e2 : (2 : Int) ^ 64 = 18446744073709551616 := by decide
  simp only [IntKind.signed, IntKind.bits, Bool.false_and, Bool.false_eq_true, if_false, e2]
  omega
theorem wrapu {x : Int} (h : 0 ≤ x ∧ x ≤ 18446744073709551615) : IntKind.u64.wrap x = x := by
  unfold IntKind.wrap
  have e2 : (2 : Int) ^ 64 = 18446744073709551616 := by decide
  simp only [IntKind.signed, IntKind.bits, Bool.false_and, Bool.false_eq_true, if_false, e2]
  omega
/-- a reader's bytes -/
def RdOk (l : List (List PV)) : Prop := l.length ≤ 1048576 ∧ ∀ e ∈ l, ∃ b : Int, e = [.i .u8 b] ∧ 0 ≤ b ∧ b ≤ 255
theorem rdOk_of {l : List (List PV)} (w : ∀ r ∈ l, okR [.i .u8] r) (h : ¬ (l.length : Int) > 1048576) : RdOk l := by
  refine ⟨by omega, fun e he => ?_⟩
  obtain ⟨x, r, rfl, h1, h2⟩ := okR_cons (w e he)
  obtain ⟨n, rfl, h3⟩ := okP_i h1
  obtain rfl := okR_nil h2
  exact ⟨n, rfl, wf8 h3⟩
def rng (a : Int) : Nat → List Int
  | 0 => []
  | n + 1 => a :: rng (a + 1) n
theorem rng_len : ∀ (n : Nat) (a : Int), (rng a n).length = n
  | 0, a => rfl
  | n + 1, a => by simp [rng, rng_len n]
def encRf (x : Int × Int) : List PV := [.i .i64 x.1, .i .i64 x.2]
def rowC (a : Int) (n : Nat) (r : Int) : List (Int × Int) := (rng a n).map fun x => (x, r)
def cellsP (a b c d : Int) : List (Int × Int) := (rng b (d - b + 1).toNat).flatMap fun r => rowC a (c - a + 1).toNat r
def cellsL (a b c d : Int) : List (Int × Int) := if okArea a b c d = true then cellsP a b c d else []
theorem okArea_in {a b c d : Int} (h : okArea a b c d = true) : (1 ≤ a ∧ a ≤ 52) ∧ (1 ≤ b ∧ b ≤ 99) ∧ (1 ≤ c ∧ c ≤ 52) ∧ (1 ≤ d ∧ d ≤ 99) ∧ a ≤ c ∧ b ≤ d := by
  simp only [okArea, okRef, Bool.and_eq_true, decide_eq_true_eq] at h
  obtain ⟨⟨⟨⟨h1, h2⟩, h3, h4⟩, h5⟩, h6⟩ := h
  exact ⟨h1, h2, h3, h4, h5, h6⟩
theorem okArea_of {a b c d : Int} (h : (1 ≤ a ∧ a ≤ 52) ∧ (1 ≤ b ∧ b ≤ 99) ∧ (1 ≤ c ∧ c ≤ 52) ∧ (1 ≤ d ∧ d ≤ 99) ∧ a ≤ c ∧ b ≤ d) : okArea a b c d = true := by
  obtain ⟨h1, h2, h3, h4, h5, h6⟩ := h
  simp only [okArea, okRef, Bool.and_eq_true, decide_eq_true_eq]
  exact ⟨⟨⟨⟨h1, h2⟩, h3, h4⟩, h5⟩, h6⟩
theorem ev_laws_toPlace (c r : Int) (fc fr : Bool) : Ev (F_laws_toPlace · c r fc fr) (c, r, fc, fr) := by
  obtain ⟨n1, h1⟩ := ev_laws_toRef c r
  refine ⟨n1 + 1, fun n hn => ?_⟩
  obtain ⟨m, rfl, hm⟩ := up1 hn
  have h1 := h1 m (by omega)
  dsimp only at h1
  simp only [F_laws_toPlace, T_laws_toPlace, run_done, run_fail, run_ask, run_opt, run_inl, run_inr, Option.bind_some, apart_b, apart_i, apart_s, h1]
theorem ev_laws_eqPlace (c r : Int) (fc fr : Bool) : Ev (F_laws_eqPlace · c r fc fr c r fc fr) true := by
  obtain ⟨n1, h1⟩ := ev_laws_eqRef c r c r
  refine ⟨n1 + 1, fun n hn => ?_⟩
  obtain ⟨m, rfl, hm⟩ := up1 hn
  have h1 := h1 m (by omega)
  dsimp only at h1
  simp only [F_laws_eqPlace, T_laws_eqPlace, run_done, run_fail, run_ask, run_opt, run_inl, run_inr, Option.bind_some, apart_b, apart_i, apart_s, h1]
  simp
abbrev Nd := Int × Int × Int × Int × ByteArray × Int × Int × Bool × Bool × Int × Int × Bool × Bool × List Int
def encI (x : Int) : List PV := [.i .i64 x]
def encN (c : Nd) : List PV := [.i .i64 c.1, .i .i64 c.2.1, .i .i64 c.2.2.1, .i .i64 c.2.2.2.1, .s c.2.2.2.2.1, .i .i64 c.2.2.2.2.2.1, .i .i64 c.2.2.2.2.2.2.1, .b c.2.2.2.2.2.2.2.1, .b c.2.2.2.2.2.2.2.2.1, .i .i64 c.2.2.2.2.2.2.2.2.2.1, .i .i64 c.2.2.2.2.2.2.2.2.2.2.1, .b c.2.2.2.2.2.2.2.2.2.2.2.1, .b c.2.2.2.2.2.2.2.2.2.2.2.2.1, .ls ((c.2.2.2.2.2.2.2.2.2.2.2.2.2).map encI)]
/-- a node's kids -/
def kd (c : Nd) : List Int := c.2.2.2.2.2.2.2.2.2.2.2.2.2
theorem encI_get {l : List Int} {i : Nat} {e : List PV} (h : (l.map encI)[i]? = some e) : ∃ c, l[i]? = some c ∧ e = encI c := by
  rw [List.getElem?_map] at h
  obtain ⟨c, h1, h2⟩ := Option.map_eq_some_iff.1 h
  exact ⟨c, h1, h2.symm⟩
theorem encN_get {l : List Nd} {i : Nat} {e : List PV} (h : (l.map encN)[i]? = some e) : ∃ c, l[i]? = some c ∧ e = encN c := by
  rw [List.getElem?_map] at h
  obtain ⟨c, h1, h2⟩ := Option.map_eq_some_iff.1 h
  exact ⟨c, h1, h2.symm⟩
theorem rows_nd {rows : List (List PV)} (h : ∀ e ∈ rows, okR [.i .i64, .i .i64, .i .i64, .i .i64, .s, .i .i64, .i .i64, .b, .b, .i .i64, .i .i64, .b, .b, .sl 8 [.i .i64]] e) : ∃ l : List Nd, rows = l.map encN ∧ ∀ c ∈ l, c.2.2.2.2.1.size ≤ 140737488351232 ∧ (kd c).length * 8 ≤ 140737488351232 := by
  refine rows_map (fun e h => ?_) h
  obtain ⟨c0, t0, rfl, p0, h0⟩ := okR_cons h
  obtain ⟨c1, t1, rfl, p1, h1⟩ := okR_cons h0
  obtain ⟨c2, t2, rfl, p2, h2⟩ := okR_cons h1
  obtain ⟨c3, t3, rfl, p3, h3⟩ := okR_cons h2
  obtain ⟨c4, t4, rfl, p4, h4⟩ := okR_cons h3
  obtain ⟨c5, t5, rfl, p5, h5⟩ := okR_cons h4
  obtain ⟨c6, t6, rfl, p6, h6⟩ := okR_cons h5
  obtain ⟨c7, t7, rfl, p7, h7⟩ := okR_cons h6
  obtain ⟨c8, t8, rfl, p8, h8⟩ := okR_cons h7
  obtain ⟨c9, t9, rfl, p9, h9⟩ := okR_cons h8
  obtain ⟨c10, t10, rfl, p10, h10⟩ := okR_cons h9
  obtain ⟨c11, t11, rfl, p11, h11⟩ := okR_cons h10
  obtain ⟨c12, t12, rfl, p12, h12⟩ := okR_cons h11
  obtain ⟨c13, t13, rfl, p13, h13⟩ := okR_cons h12
  obtain rfl := okR_nil h13
  obtain ⟨x0, rfl, w0⟩ := okP_i p0
  obtain ⟨x1, rfl, w1⟩ := okP_i p1
  obtain ⟨x2, rfl, w2⟩ := okP_i p2
  obtain ⟨x3, rfl, w3⟩ := okP_i p3
  obtain ⟨x4, rfl, w4⟩ := okP_s p4
  obtain ⟨x5, rfl, w5⟩ := okP_i p5
  obtain ⟨x6, rfl, w6⟩ := okP_i p6
  obtain ⟨x7, rfl⟩ := okP_b p7
  obtain ⟨x8, rfl⟩ := okP_b p8
  obtain ⟨x9, rfl, w9⟩ := okP_i p9
  obtain ⟨x10, rfl, w10⟩ := okP_i p10
  obtain ⟨x11, rfl⟩ := okP_b p11
  obtain ⟨x12, rfl⟩ := okP_b p12
  obtain ⟨x13, rfl, w13⟩ := okP_sl p13
  obtain ⟨ks, rfl, _⟩ := rows_map (enc := encI) (P := fun _ => True) (fun e h => by
    obtain ⟨a, t, rfl, p, h⟩ := okR_cons h
    obtain rfl := okR_nil h
    obtain ⟨y, rfl, _⟩ := okP_i p
    exact ⟨y, rfl, trivial⟩) w13.2
  exact ⟨(x0, x1, x2, x3, x4, x5, x6, x7, x8, x9, x10, x11, x12, ks), rfl, w4, by simpa [kd] using w13.1⟩
theorem un_laws_szInt64S (n : Nat) (rows : List (List PV)) (left : Int) : ∃ r, F_laws_szInt64S (n + 1) rows left = some r := by
  simp only [F_laws_szInt64S, T_laws_szInt64S, run_done, run_fail, run_ask, run_opt, run_inl, run_inr, Option.bind_some, apart_b, apart_i, apart_s]
  by_cases h : IntKind.i64.wrap (left - rows.length) < 0
  · exact ⟨-1, by simp [h]⟩
  · exact ⟨IntKind.i64.wrap (left - rows.length), by simp [h]⟩
theorem un_laws_szFNode (n : Nat) (c : Nd) (left : Int) : ∃ r, F_laws_szFNode (n + 2) c.1 c.2.1 c.2.2.1 c.2.2.2.1 c.2.2.2.2.1 c.2.2.2.2.2.1 c.2.2.2.2.2.2.1 c.2.2.2.2.2.2.2.1 c.2.2.2.2.2.2.2.2.1 c.2.2.2.2.2.2.2.2.2.1 c.2.2.2.2.2.2.2.2.2.2.1 c.2.2.2.2.2.2.2.2.2.2.2.1 c.2.2.2.2.2.2.2.2.2.2.2.2.1 ((c.2.2.2.2.2.2.2.2.2.2.2.2.2).map encI) left = some r := by
  obtain ⟨r, h⟩ := un_laws_szValue n c.2.2.1 c.2.2.2.1 c.2.2.2.2.1 left
  obtain ⟨r2, h2⟩ := un_laws_szInt64S n ((c.2.2.2.2.2.2.2.2.2.2.2.2.2).map encI) r
  simp only [F_laws_szFNode, T_laws_szFNode, run_done, run_fail, run_ask, run_opt, run_inl, run_inr, Option.bind_some, apart_b, apart_i, apart_s, h, h2]
  by_cases h0 : r < 0
  · exact ⟨-1, by simp [h0]⟩
  · by_cases h1 : r2 < 0
    · exact ⟨-1, by simp [h0, h1]⟩
    · exact ⟨r2, by simp [h0, h1]⟩
theorem ev_laws_szFNodeS (l : List Nd) (hb : l.length ≤ 140737488351232) (left : Int) : ∀ n, l.length + 5 ≤ n → ∃ r, F_laws_szFNodeS n (l.map encN) left = some r := by
  intro n hn
  obtain ⟨m, rfl, hm⟩ := up1 hn
  obtain ⟨q, rfl⟩ : ∃ q, m = q + 2 := ⟨m - 2, by omega⟩
  simp only [F_laws_szFNodeS, T_laws_szFNodeS, run_done, run_fail, run_ask, run_opt, run_inl, run_inr, Option.bind_some, apart_b, apart_i, apart_s]
  obtain ⟨r, h⟩ := sz_loop (B := B_laws_szFNodeS_61 (q + 2)) (rows := l.map encN)
    (fun i e x he => by
      obtain ⟨c, hc, rfl⟩ := encN_get he
      have hi : i < l.length := (List.getElem?_eq_some_iff.1 hc).1
      have hi' : (i : Int) < l.length := by omega
      have hw : IntKind.i64.wrap ((i : Int) + 1) = (i : Int) + 1 := wrap64 (by omega)
      obtain ⟨r, hr⟩ := un_laws_szFNode q c x
      by_cases h0 : r < 0
      · exact .inr ⟨.inl (-1), by simp [B_laws_szFNodeS_61, run_done, run_fail, run_ask, run_opt, run_inl, run_inr, Option.bind_some, apart_b, apart_i, apart_s, hi', hc, encN, cellI, cellS, cellB, cellL, hr, h0]⟩
      · exact .inl ⟨r, by simp [B_laws_szFNodeS_61, run_done, run_fail, run_ask, run_opt, run_inl, run_inr, Option.bind_some, apart_b, apart_i, apart_s, hi', hc, encN, cellI, cellS, cellB, cellL, hr, h0, hw]⟩)
    (fun x => ⟨.inr x, by simp [B_laws_szFNodeS_61, run_done, run_fail, run_ask, run_opt, run_inl, run_inr, Option.bind_some, apart_b, apart_i, apart_s]⟩) l.length 0 (q + 2) (IntKind.i64.wrap (left - l.length)) (by simp) (by omega)
  simp only [Int.natCast_zero] at h
  by_cases h0 : IntKind.i64.wrap (left - l.length) < 0
  · exact ⟨-1, by simp [h0]⟩
  · rcases r with r | r
    · exact ⟨r, by simp [h0, h, run_done, run_fail, run_ask, run_opt, run_inl, run_inr, Option.bind_some, apart_b, apart_i, apart_s]⟩
    · exact ⟨r, by simp [h0, h, run_done, run_fail, run_ask, run_opt, run_inl, run_inr, Option.bind_some, apart_b, apart_i, apart_s]⟩
theorem ev_laws_toInt64S (l : List Int) (hb : l.length * 8 ≤ 140737488351232) : ∀ n, l.length + 5 ≤ n → F_laws_toInt64S n (l.map encI) = some (l.length, l.map encI) := by
  intro n hn
  obtain ⟨m, rfl, hm⟩ := up1 hn
  simp only [F_laws_toInt64S, T_laws_toInt64S, run_done, run_fail, run_ask, run_opt, run_inl, run_inr, Option.bind_some, apart_b, apart_i, apart_s]
  have h := conv_all (B := B_laws_toInt64S_29 m) (rows := l.map encI) (z := [.i .i64 0]) (r := fun acc => ((l.map encI).length, acc)) (M := m)
    (fun i acc e he ha hz => by
      obtain ⟨c, hc, rfl⟩ := encI_get he
      have hi : i < l.length := (List.getElem?_eq_some_iff.1 hc).1
      have hi' : (i : Int) < l.length := by omega
      have hw : IntKind.i64.wrap ((i : Int) + 1) = (i : Int) + 1 := wrap64 (by omega)
      have ha' : acc.length = l.length := by simpa using ha
      simp [B_laws_toInt64S_29, run_done, run_fail, run_ask, run_opt, run_inl, run_inr, Option.bind_some, apart_b, apart_i, apart_s, hi', hc, encI, cellI, hz, ha', hw, setAt])
    (fun acc ha => by
      have ha' : acc.length = l.length := by simpa using ha
      simp [B_laws_toInt64S_29, run_done, run_fail, run_ask, run_opt, run_inl, run_inr, Option.bind_some, apart_b, apart_i, apart_s])
    (by simp; omega)
  simp only [List.length_map, Int.toNat_natCast] at h ⊢
  rw [h]
  have h1 : (8 : Int) * (l.length : Int) ≤ 140737488355328 := by omega
  have h2 : (l.length : Int) ≤ 9223372036854775807 := by omega
  simp [run_done, run_fail, run_ask, run_opt, run_inl, run_inr, Option.bind_some, apart_b, apart_i, apart_s, h1, h2]
theorem ev_laws_toFNode (c : Nd) (hb : (kd c).length * 8 ≤ 140737488351232) : ∀ n, (kd c).length + 10 ≤ n → F_laws_toFNode n c.1 c.2.1 c.2.2.1 c.2.2.2.1 c.2.2.2.2.1 c.2.2.2.2.2.1 c.2.2.2.2.2.2.1 c.2.2.2.2.2.2.2.1 c.2.2.2.2.2.2.2.2.1 c.2.2.2.2.2.2.2.2.2.1 c.2.2.2.2.2.2.2.2.2.2.1 c.2.2.2.2.2.2.2.2.2.2.2.1 c.2.2.2.2.2.2.2.2.2.2.2.2.1 ((c.2.2.2.2.2.2.2.2.2.2.2.2.2).map encI) = some (c.1, c.2.1, c.2.2.1, c.2.2.2.1, c.2.2.2.2.1, c.2.2.2.2.2.1, c.2.2.2.2.2.2.1, c.2.2.2.2.2.2.2.1, c.2.2.2.2.2.2.2.2.1, c.2.2.2.2.2.2.2.2.2.1, c.2.2.2.2.2.2.2.2.2.2.1, c.2.2.2.2.2.2.2.2.2.2.2.1, c.2.2.2.2.2.2.2.2.2.2.2.2.1, (c.2.2.2.2.2.2.2.2.2.2.2.2.2).map encI) := by
  intro n hn
  obtain ⟨m, rfl, hm⟩ := up1 hn
  have h := ev_laws_toInt64S (kd c) hb m (by omega)
  unfold kd at h
  obtain ⟨q, rfl⟩ : ∃ q, m = q + 3 := ⟨m - 3, by omega⟩
  have p1 : ∀ a b f g, F_laws_toPlace (q + 3) a b f g = some (a, b, f, g) := fun a b f g => by
    simp only [F_laws_toPlace, T_laws_toPlace, F_laws_toRef, T_laws_toRef, run_done, run_fail, run_ask, run_opt, run_inl, run_inr, Option.bind_some, apart_b, apart_i, apart_s]
  have p2 : ∀ a b s, F_laws_toValue (q + 3) a b s = some (a, b, s) := fun a b s => by
    simp only [F_laws_toValue, T_laws_toValue, run_done, run_fail, run_ask, run_opt, run_inl, run_inr, Option.bind_some, apart_b, apart_i, apart_s]
  simp only [F_laws_toFNode, T_laws_toFNode, run_done, run_fail, run_ask, run_opt, run_inl, run_inr, Option.bind_some, apart_b, apart_i, apart_s, h, p1, p2]
  simp
theorem ev_laws_toFNodeS (l : List Nd) (hb : l.length * 120 ≤ 140737488351232) (hk : ∀ c ∈ l, (kd c).length * 8 ≤ 140737488351232) : Ev (F_laws_toFNodeS · (l.map encN)) (l.length, l.map encN) := by
  obtain ⟨n0, h0⟩ := ev_list (F := fun (c : Nd) n => F_laws_toFNode n c.1 c.2.1 c.2.2.1 c.2.2.2.1 c.2.2.2.2.1 c.2.2.2.2.2.1 c.2.2.2.2.2.2.1 c.2.2.2.2.2.2.2.1 c.2.2.2.2.2.2.2.2.1 c.2.2.2.2.2.2.2.2.2.1 c.2.2.2.2.2.2.2.2.2.2.1 c.2.2.2.2.2.2.2.2.2.2.2.1 c.2.2.2.2.2.2.2.2.2.2.2.2.1 ((c.2.2.2.2.2.2.2.2.2.2.2.2.2).map encI)) (f := fun c => (c.1, c.2.1, c.2.2.1, c.2.2.2.1, c.2.2.2.2.1, c.2.2.2.2.2.1, c.2.2.2.2.2.2.1, c.2.2.2.2.2.2.2.1, c.2.2.2.2.2.2.2.2.1, c.2.2.2.2.2.2.2.2.2.1, c.2.2.2.2.2.2.2.2.2.2.1, c.2.2.2.2.2.2.2.2.2.2.2.1, c.2.2.2.2.2.2.2.2.2.2.2.2.1, (c.2.2.2.2.2.2.2.2.2.2.2.2.2).map encI)) l (fun c hc => ⟨_, ev_laws_toFNode c (hk c hc)⟩)
  refine ⟨n0 + l.length + 5, fun n hn => ?_⟩
  obtain ⟨m, rfl, hm⟩ := up1 hn
  simp only [F_laws_toFNodeS, T_laws_toFNodeS, run_done, run_fail, run_ask, run_opt, run_inl, run_inr, Option.bind_some, apart_b, apart_i, apart_s]
  have h := conv_all (B := B_laws_toFNodeS_29 m) (rows := l.map encN) (z := [.i .i64 0, .i .i64 0, .i .i64 0, .i .i64 0, .s ⟨#[]⟩, .i .i64 0, .i .i64 0, .b false, .b false, .i .i64 0, .i .i64 0, .b false, .b false, .nl]) (r := fun acc => ((l.map encN).length, acc)) (M := m)
    (fun i acc e he ha hz => by
      obtain ⟨c, hc, rfl⟩ := encN_get he
      have hi : i < l.length := (List.getElem?_eq_some_iff.1 hc).1
      have hi' : (i : Int) < l.length := by omega
      have hw : IntKind.i64.wrap ((i : Int) + 1) = (i : Int) + 1 := wrap64 (by omega)
      have ha' : acc.length = l.length := by simpa using ha
      have hf := h0 m (by omega) c (List.mem_of_getElem? hc)
      simp [B_laws_toFNodeS_29, run_done, run_fail, run_ask, run_opt, run_inl, run_inr, Option.bind_some, apart_b, apart_i, apart_s, hi', hc, encN, cellI, cellS, cellB, cellL, hf, hz, ha', hw, setAt])
    (fun acc ha => by
      have ha' : acc.length = l.length := by simpa using ha
      simp [B_laws_toFNodeS_29, run_done, run_fail, run_ask, run_opt, run_inl, run_inr, Option.bind_some, apart_b, apart_i, apart_s])
    (by simp; omega)
  simp only [List.length_map, Int.toNat_natCast] at h ⊢
  rw [h]
  have h1 : (120 : Int) * (l.length : Int) ≤ 140737488355328 := by omega
  have h2 : (l.length : Int) ≤ 9223372036854775807 := by omega
  simp [run_done, run_fail, run_ask, run_opt, run_inl, run_inr, Option.bind_some, apart_b, apart_i, apart_s, h1, h2]
theorem ev_laws_eqInt64S (l : List Int) (hb : l.length ≤ 140737488351232) : ∀ n, l.length + 5 ≤ n → F_laws_eqInt64S n (l.map encI) (l.map encI) = some true := by
  intro n hn
  obtain ⟨m, rfl, hm⟩ := up1 hn
  simp only [F_laws_eqInt64S, T_laws_eqInt64S, run_done, run_fail, run_ask, run_opt, run_inl, run_inr, Option.bind_some, apart_b, apart_i, apart_s]
  have h := eq_loop (B := B_laws_eqInt64S_29 m) (rows := l.map encI) (r := .inr ())
    (fun i e he => by
      obtain ⟨c, hc, rfl⟩ := encI_get he
      have hi : i < l.length := (List.getElem?_eq_some_iff.1 hc).1
      have hi' : (i : Int) < l.length := by omega
      have hw : IntKind.i64.wrap ((i : Int) + 1) = (i : Int) + 1 := wrap64 (by omega)
      simp [B_laws_eqInt64S_29, run_done, run_fail, run_ask, run_opt, run_inl, run_inr, Option.bind_some, apart_b, apart_i, apart_s, hi', hc, encI, cellI, hw])
    (by simp [B_laws_eqInt64S_29, run_done, run_fail, run_ask, run_opt, run_inl, run_inr, Option.bind_some, apart_b, apart_i, apart_s]) l.length 0 m (by simp) (by omega)
  simp only [Int.natCast_zero] at h
  simp [h, run_done, run_fail, run_ask, run_opt, run_inl, run_inr, Option.bind_some, apart_b, apart_i, apart_s]
theorem ev_laws_eqFNode (c : Nd) (hb : (kd c).length ≤ 140737488351232) : ∀ n, (kd c).length + 10 ≤ n → F_laws_eqFNode n c.1 c.2.1 c.2.2.1 c.2.2.2.1 c.2.2.2.2.1 c.2.2.2.2.2.1 c.2.2.2.2.2.2.1 c.2.2.2.2.2.2.2.1 c.2.2.2.2.2.2.2.2.1 c.2.2.2.2.2.2.2.2.2.1 c.2.2.2.2.2.2.2.2.2.2.1 c.2.2.2.2.2.2.2.2.2.2.2.1 c.2.2.2.2.2.2.2.2.2.2.2.2.1 ((c.2.2.2.2.2.2.2.2.2.2.2.2.2).map encI) c.1 c.2.1 c.2.2.1 c.2.2.2.1 c.2.2.2.2.1 c.2.2.2.2.2.1 c.2.2.2.2.2.2.1 c.2.2.2.2.2.2.2.1 c.2.2.2.2.2.2.2.2.1 c.2.2.2.2.2.2.2.2.2.1 c.2.2.2.2.2.2.2.2.2.2.1 c.2.2.2.2.2.2.2.2.2.2.2.1 c.2.2.2.2.2.2.2.2.2.2.2.2.1 ((c.2.2.2.2.2.2.2.2.2.2.2.2.2).map encI) = some true := by
  intro n hn
  obtain ⟨m, rfl, hm⟩ := up1 hn
  have h := ev_laws_eqInt64S (kd c) hb m (by omega)
  unfold kd at h
  obtain ⟨q, rfl⟩ : ∃ q, m = q + 3 := ⟨m - 3, by omega⟩
  have p1 : ∀ a b f g, F_laws_eqPlace (q + 3) a b f g a b f g = some true := fun a b f g => by
    simp [F_laws_eqPlace, T_laws_eqPlace, F_laws_eqRef, T_laws_eqRef, run_done, run_fail, run_ask, run_opt, run_inl, run_inr, Option.bind_some, apart_b, apart_i, apart_s]
  have p2 : ∀ a b s, F_laws_eqValue (q + 3) a b s a b s = some true := fun a b s => by
    simp [F_laws_eqValue, T_laws_eqValue, run_done, run_fail, run_ask, run_opt, run_inl, run_inr, Option.bind_some, apart_b, apart_i, apart_s]
  simp only [F_laws_eqFNode, T_laws_eqFNode, run_done, run_fail, run_ask, run_opt, run_inl, run_inr, Option.bind_some, apart_b, apart_i, apart_s, h, p1, p2]
  simp
theorem ev_laws_eqFNodeS (l : List Nd) (hb : l.length ≤ 140737488351232) (hk : ∀ c ∈ l, (kd c).length ≤ 140737488351232) : Ev (F_laws_eqFNodeS · (l.map encN) (l.map encN)) true := by
  obtain ⟨n0, h0⟩ := ev_list (F := fun (c : Nd) n => F_laws_eqFNode n c.1 c.2.1 c.2.2.1 c.2.2.2.1 c.2.2.2.2.1 c.2.2.2.2.2.1 c.2.2.2.2.2.2.1 c.2.2.2.2.2.2.2.1 c.2.2.2.2.2.2.2.2.1 c.2.2.2.2.2.2.2.2.2.1 c.2.2.2.2.2.2.2.2.2.2.1 c.2.2.2.2.2.2.2.2.2.2.2.1 c.2.2.2.2.2.2.2.2.2.2.2.2.1 ((c.2.2.2.2.2.2.2.2.2.2.2.2.2).map encI) c.1 c.2.1 c.2.2.1 c.2.2.2.1 c.2.2.2.2.1 c.2.2.2.2.2.1 c.2.2.2.2.2.2.1 c.2.2.2.2.2.2.2.1 c.2.2.2.2.2.2.2.2.1 c.2.2.2.2.2.2.2.2.2.1 c.2.2.2.2.2.2.2.2.2.2.1 c.2.2.2.2.2.2.2.2.2.2.2.1 c.2.2.2.2.2.2.2.2.2.2.2.2.1 ((c.2.2.2.2.2.2.2.2.2.2.2.2.2).map encI)) (f := fun _ => true) l (fun c hc => ⟨_, ev_laws_eqFNode c (hk c hc)⟩)
  refine ⟨n0 + l.length + 5, fun n hn => ?_⟩
  obtain ⟨m, rfl, hm⟩ := up1 hn
  simp only [F_laws_eqFNodeS, T_laws_eqFNodeS, run_done, run_fail, run_ask, run_opt, run_inl, run_inr, Option.bind_some, apart_b, apart_i, apart_s]
  have h := eq_loop (B := B_laws_eqFNodeS_29 m) (rows := l.map encN) (r := .inr ())
    (fun i e he => by
      obtain ⟨c, hc, rfl⟩ := encN_get he
      have hi : i < l.length := (List.getElem?_eq_some_iff.1 hc).1
      have hi' : (i : Int) < l.length := by omega
      have hw : IntKind.i64.wrap ((i : Int) + 1) = (i : Int) + 1 := wrap64 (by omega)
      have hf := h0 m (by omega) c (List.mem_of_getElem? hc)
      simp [B_laws_eqFNodeS_29, run_done, run_fail, run_ask, run_opt, run_inl, run_inr, Option.bind_some, apart_b, apart_i, apart_s, hi', hc, encN, cellI, cellS, cellB, cellL, hf, hw])
    (by simp [B_laws_eqFNodeS_29, run_done, run_fail, run_ask, run_opt, run_inl, run_inr, Option.bind_some, apart_b, apart_i, apart_s]) l.length 0 m (by simp) (by omega)
  simp only [Int.natCast_zero] at h
  simp [h, run_done, run_fail, run_ask, run_opt, run_inl, run_inr, Option.bind_some, apart_b, apart_i, apart_s]
def argsB (op n : Int) : Bool := if op = 5 then decide (n = 2 ∨ n = 3) else if 8 ≤ op ∧ op ≤ 10 then decide (n = 1) else if 1 ≤ op ∧ op ≤ 7 then decide (1 ≤ n ∧ n ≤ 10) else false
theorem ten {op : Int} (h : 1 ≤ op ∧ op ≤ 10) : op = 1 ∨ op = 2 ∨ op = 3 ∨ op = 4 ∨ op = 5 ∨ op = 6 ∨ op = 7 ∨ op = 8 ∨ op = 9 ∨ op = 10 := by omega
theorem ev_spec_l3Args (op n : Int) : Ev (F_spec_l3Args · op n) (argsB op n) := by
  refine ⟨1, fun n hn => ?_⟩
  obtain ⟨m, rfl, hm⟩ := up1 hn
  simp only [F_spec_l3Args, T_spec_l3Args, run_done, run_fail, run_ask, run_opt, run_inl, run_inr, Option.bind_some, apart_b, apart_i, apart_s]
  by_cases h : 1 ≤ op ∧ op ≤ 10
  · rcases ten h with rfl | rfl | rfl | rfl | rfl | rfl | rfl | rfl | rfl | rfl
    all_goals
      first
      | (by_cases h2 : n = 2 <;> simp [argsB, h2]; done)
      | (by_cases h1 : n ≥ 1 <;> simp [argsB, h1]; done)
      | (by_cases h1 : n = 1 <;> simp [argsB, h1]; done)
      | (by_cases h2 : n = 2 <;> by_cases h3 : n = 3 <;> simp [argsB, h2, h3]; done)
      | (simp [argsB]; done)
  · have e1 : ¬ op = 1 := by omega
    have e2 : ¬ op = 2 := by omega
    have e3 : ¬ op = 3 := by omega
    have e4 : ¬ op = 4 := by omega
    have e5 : ¬ op = 5 := by omega
    have e6 : ¬ op = 6 := by omega
    have e7 : ¬ op = 7 := by omega
    have e8 : ¬ op = 8 := by omega
    have e9 : ¬ op = 9 := by omega
    have e10 : ¬ op = 10 := by omega
    have g1 : ¬ (8 ≤ op ∧ op ≤ 10) := by omega
    have g2 : ¬ (1 ≤ op ∧ op ≤ 7) := by omega
    simp [argsB, e1, e2, e3, e4, e5, e6, e7, e8, e9, e10, g1, g2]
def zV (k x : Int) (s : ByteArray) : Bool := decide (k = 0) && (decide (x = 0) && (s.toList == []))
def zP (a b : Int) (f g : Bool) : Bool := decide (a = 0) && (decide (b = 0) && (!f && !g))
/-- a node that is right by itself -/
def nodeB (c : Nd) : Bool :=
  if c.1 = 1 then decide (c.2.1 = 0) && (zP c.2.2.2.2.2.1 c.2.2.2.2.2.2.1 c.2.2.2.2.2.2.2.1 c.2.2.2.2.2.2.2.2.1 && (zP c.2.2.2.2.2.2.2.2.2.1 c.2.2.2.2.2.2.2.2.2.2.1 c.2.2.2.2.2.2.2.2.2.2.2.1 c.2.2.2.2.2.2.2.2.2.2.2.2.1 && (decide ((kd c).length = 0) && (okV c.2.2.1 c.2.2.2.1 c.2.2.2.2.1 && (!decide (c.2.2.1 = 0) && (!decide (c.2.2.1 = 1) || decide (c.2.2.2.1 ≥ 0))))))) else
  if c.1 = 2 then decide (c.2.1 = 0) && (zV c.2.2.1 c.2.2.2.1 c.2.2.2.2.1 && (zP c.2.2.2.2.2.2.2.2.2.1 c.2.2.2.2.2.2.2.2.2.2.1 c.2.2.2.2.2.2.2.2.2.2.2.1 c.2.2.2.2.2.2.2.2.2.2.2.2.1 && (decide ((kd c).length = 0) && okRef c.2.2.2.2.2.1 c.2.2.2.2.2.2.1))) else
  if c.1 = 3 then decide (c.2.1 = 0) && (zV c.2.2.1 c.2.2.2.1 c.2.2.2.2.1 && (decide ((kd c).length = 0) && okArea c.2.2.2.2.2.1 c.2.2.2.2.2.2.1 c.2.2.2.2.2.2.2.2.2.1 c.2.2.2.2.2.2.2.2.2.2.1)) else
  if c.1 = 4 then decide (c.2.1 = 0) && (zV c.2.2.1 c.2.2.2.1 c.2.2.2.2.1 && (zP c.2.2.2.2.2.1 c.2.2.2.2.2.2.1 c.2.2.2.2.2.2.2.1 c.2.2.2.2.2.2.2.2.1 && (zP c.2.2.2.2.2.2.2.2.2.1 c.2.2.2.2.2.2.2.2.2.2.1 c.2.2.2.2.2.2.2.2.2.2.2.1 c.2.2.2.2.2.2.2.2.2.2.2.2.1 && decide ((kd c).length = 1)))) else
  if c.1 = 5 then decide (1 ≤ c.2.1 ∧ c.2.1 ≤ 11) && (zV c.2.2.1 c.2.2.2.1 c.2.2.2.2.1 && (zP c.2.2.2.2.2.1 c.2.2.2.2.2.2.1 c.2.2.2.2.2.2.2.1 c.2.2.2.2.2.2.2.2.1 && (zP c.2.2.2.2.2.2.2.2.2.1 c.2.2.2.2.2.2.2.2.2.2.1 c.2.2.2.2.2.2.2.2.2.2.2.1 c.2.2.2.2.2.2.2.2.2.2.2.2.1 && decide ((kd c).length = 2)))) else
  if c.1 = 6 then argsB c.2.1 ((kd c).length : Int) && (zV c.2.2.1 c.2.2.2.1 c.2.2.2.2.1 && (zP c.2.2.2.2.2.1 c.2.2.2.2.2.2.1 c.2.2.2.2.2.2.2.1 c.2.2.2.2.2.2.2.2.1 && zP c.2.2.2.2.2.2.2.2.2.1 c.2.2.2.2.2.2.2.2.2.2.1 c.2.2.2.2.2.2.2.2.2.2.2.1 c.2.2.2.2.2.2.2.2.2.2.2.2.1)) else false
theorem zV_e (k x : Int) (s : ByteArray) : ((k == (0 : Int)) && ((x == (0 : Int)) && ((s.toList == (⟨#[]⟩ : ByteArray).toList) && true))) = zV k x s := by
  rw [toList_nil]
  unfold zV
  by_cases h : k = 0 <;> by_cases h2 : x = 0 <;> simp [h, h2]
theorem zV_e2 (k x : Int) (s : ByteArray) : (((0 : Int) == k) && (((0 : Int) == x) && (((⟨#[]⟩ : ByteArray).toList == s.toList) && true))) = zV k x s := by
  rw [← zV_e]
  congr 1
  · exact Bool.beq_comm
  · congr 1
    · exact Bool.beq_comm
    · congr 1
      exact Bool.beq_comm
theorem zP_e (a b : Int) (f g : Bool) : ((a == (0 : Int)) && ((b == (0 : Int)) && ((f == false) && ((g == false) && true)))) = zP a b f g := by
  unfold zP
  by_cases h : a = 0 <;> by_cases h2 : b = 0 <;> cases f <;> cases g <;> simp [h, h2]
theorem zP_e2 (a b : Int) (f g : Bool) : (((0 : Int) == a) && (((0 : Int) == b) && ((false == f) && ((false == g) && true)))) = zP a b f g := by
  rw [← zP_e]
  congr 1
  · exact Bool.beq_comm
  · congr 1
    · exact Bool.beq_comm
    · cases f <;> cases g <;> rfl
theorem ev_spec_l3NodeOk (c : Nd) (hb : c.2.2.2.2.1.size ≤ 140737488351232) : Ev (F_spec_l3NodeOk · c.1 c.2.1 c.2.2.1 c.2.2.2.1 c.2.2.2.2.1 c.2.2.2.2.2.1 c.2.2.2.2.2.2.1 c.2.2.2.2.2.2.2.1 c.2.2.2.2.2.2.2.2.1 c.2.2.2.2.2.2.2.2.2.1 c.2.2.2.2.2.2.2.2.2.2.1 c.2.2.2.2.2.2.2.2.2.2.2.1 c.2.2.2.2.2.2.2.2.2.2.2.2.1 ((c.2.2.2.2.2.2.2.2.2.2.2.2.2).map encI)) (nodeB c) := by
  obtain ⟨n1, h1⟩ := ev_spec_ValueOk c.2.2.1 c.2.2.2.1 c.2.2.2.2.1 hb
  obtain ⟨n2, h2⟩ := ev_spec_RefOk c.2.2.2.2.2.1 c.2.2.2.2.2.2.1
  obtain ⟨n3, h3⟩ := ev_spec_AreaOk c.2.2.2.2.2.1 c.2.2.2.2.2.2.1 c.2.2.2.2.2.2.2.2.2.1 c.2.2.2.2.2.2.2.2.2.2.1
  obtain ⟨n4, h4⟩ := ev_spec_l1In c.2.1 1 11
  obtain ⟨n5, h5⟩ := ev_spec_l3Args c.2.1 (((c.2.2.2.2.2.2.2.2.2.2.2.2.2).map encI).length : Int)
  refine ⟨n1 + n2 + n3 + n4 + n5 + 1, fun n hn => ?_⟩
  obtain ⟨m, rfl, hm⟩ := up1 hn
  have h1 := h1 m (by omega)
  dsimp only at h1
  have h2 := h2 m (by omega)
  dsimp only at h2
  have h3 := h3 m (by omega)
  dsimp only at h3
  have h4 := h4 m (by omega)
  dsimp only at h4
  have h5 := h5 m (by omega)
  dsimp only at h5
  simp only [F_spec_l3NodeOk, T_spec_l3NodeOk, run_done, run_fail, run_ask, run_opt, run_inl, run_inr, Option.bind_some, apart_b, apart_i, apart_s, h1, h2, h3, h4, h5]
  have hk : ((c.2.2.2.2.2.2.2.2.2.2.2.2.2).map encI).length = (kd c).length := by rw [List.length_map]; rfl
  simp only [zV_e, zP_e, hk]
  unfold nodeB
  by_cases k1 : c.1 = 1
  · simp only [k1, if_true, beq_self_eq_true]
    cases zP c.2.2.2.2.2.1 c.2.2.2.2.2.2.1 c.2.2.2.2.2.2.2.1 c.2.2.2.2.2.2.2.2.1 <;> cases zP c.2.2.2.2.2.2.2.2.2.1 c.2.2.2.2.2.2.2.2.2.2.1 c.2.2.2.2.2.2.2.2.2.2.2.1 c.2.2.2.2.2.2.2.2.2.2.2.2.1 <;> cases okV c.2.2.1 c.2.2.2.1 c.2.2.2.2.1 <;> by_cases h0 : c.2.1 = 0 <;> by_cases h1 : (kd c).length = 0 <;> by_cases h2 : c.2.2.1 = 0 <;> by_cases h3 : c.2.2.1 = 1 <;> simp [h0, h1, h2, h3]
  by_cases k2 : c.1 = 2
  · simp only [k2]
    cases zV c.2.2.1 c.2.2.2.1 c.2.2.2.2.1 <;> cases zP c.2.2.2.2.2.2.2.2.2.1 c.2.2.2.2.2.2.2.2.2.2.1 c.2.2.2.2.2.2.2.2.2.2.2.1 c.2.2.2.2.2.2.2.2.2.2.2.2.1 <;> cases okRef c.2.2.2.2.2.1 c.2.2.2.2.2.2.1 <;> by_cases h0 : c.2.1 = 0 <;> by_cases h1 : (kd c).length = 0 <;> simp [h0, h1]
  by_cases k3 : c.1 = 3
  · simp only [k3]
    cases zV c.2.2.1 c.2.2.2.1 c.2.2.2.2.1 <;> cases okArea c.2.2.2.2.2.1 c.2.2.2.2.2.2.1 c.2.2.2.2.2.2.2.2.2.1 c.2.2.2.2.2.2.2.2.2.2.1 <;> by_cases h0 : c.2.1 = 0 <;> by_cases h1 : (kd c).length = 0 <;> simp [h0, h1]
  by_cases k4 : c.1 = 4
  · simp only [k4]
    cases zV c.2.2.1 c.2.2.2.1 c.2.2.2.2.1 <;> cases zP c.2.2.2.2.2.1 c.2.2.2.2.2.2.1 c.2.2.2.2.2.2.2.1 c.2.2.2.2.2.2.2.2.1 <;> cases zP c.2.2.2.2.2.2.2.2.2.1 c.2.2.2.2.2.2.2.2.2.2.1 c.2.2.2.2.2.2.2.2.2.2.2.1 c.2.2.2.2.2.2.2.2.2.2.2.2.1 <;> by_cases h0 : c.2.1 = 0 <;> by_cases h1 : (kd c).length = 1 <;> simp [h0, h1] <;> omega
  by_cases k5 : c.1 = 5
  · simp only [k5]
    cases zV c.2.2.1 c.2.2.2.1 c.2.2.2.2.1 <;> cases zP c.2.2.2.2.2.1 c.2.2.2.2.2.2.1 c.2.2.2.2.2.2.2.1 c.2.2.2.2.2.2.2.2.1 <;> cases zP c.2.2.2.2.2.2.2.2.2.1 c.2.2.2.2.2.2.2.2.2.2.1 c.2.2.2.2.2.2.2.2.2.2.2.1 c.2.2.2.2.2.2.2.2.2.2.2.2.1 <;> by_cases h0 : 1 ≤ c.2.1 ∧ c.2.1 ≤ 11 <;> by_cases h1 : (kd c).length = 2 <;> simp [h0, h1] <;> omega
  by_cases k6 : c.1 = 6
  · simp only [k6]
    cases zV c.2.2.1 c.2.2.2.1 c.2.2.2.2.1 <;> cases zP c.2.2.2.2.2.1 c.2.2.2.2.2.2.1 c.2.2.2.2.2.2.2.1 c.2.2.2.2.2.2.2.2.1 <;> cases zP c.2.2.2.2.2.2.2.2.2.1 c.2.2.2.2.2.2.2.2.2.2.1 c.2.2.2.2.2.2.2.2.2.2.2.1 c.2.2.2.2.2.2.2.2.2.2.2.2.1 <;> cases argsB c.2.1 ((kd c).length : Int) <;> simp
  simp [k1, k2, k3, k4, k5, k6]
theorem ev_impl_kidsOk (c : Nd) : Ev (F_impl_FNode_kidsOk · c.1 c.2.1 c.2.2.1 c.2.2.2.1 c.2.2.2.2.1 c.2.2.2.2.2.1 c.2.2.2.2.2.2.1 c.2.2.2.2.2.2.2.1 c.2.2.2.2.2.2.2.2.1 c.2.2.2.2.2.2.2.2.2.1 c.2.2.2.2.2.2.2.2.2.2.1 c.2.2.2.2.2.2.2.2.2.2.2.1 c.2.2.2.2.2.2.2.2.2.2.2.2.1 ((c.2.2.2.2.2.2.2.2.2.2.2.2.2).map encI)) (if c.1 = 4 then decide (c.2.1 = 0) && decide ((kd c).length = 1) else if c.1 = 5 then decide (1 ≤ c.2.1 ∧ c.2.1 ≤ 11) && decide ((kd c).length = 2) else if c.1 = 6 then argsB c.2.1 ((kd c).length : Int) else decide (c.2.1 = 0) && decide ((kd c).length = 0)) := by
  obtain ⟨n1, h1⟩ := ev_impl_within c.2.1 1 11
  obtain ⟨n2, h2⟩ := ev_impl_within c.2.1 1 10
  obtain ⟨n3, h3⟩ := ev_impl_within (((c.2.2.2.2.2.2.2.2.2.2.2.2.2).map encI).length : Int) 2 3
  obtain ⟨n4, h4⟩ := ev_impl_within (((c.2.2.2.2.2.2.2.2.2.2.2.2.2).map encI).length : Int) 1 10
  refine ⟨n1 + n2 + n3 + n4 + 1, fun n hn => ?_⟩
  obtain ⟨m, rfl, hm⟩ := up1 hn
  have h1 := h1 m (by omega)
  dsimp only at h1
  have h2 := h2 m (by omega)
  dsimp only at h2
  have h3 := h3 m (by omega)
  dsimp only at h3
  have h4 := h4 m (by omega)
  dsimp only at h4
  simp only [F_impl_FNode_kidsOk, T_impl_FNode_kidsOk, run_done, run_fail, run_ask, run_opt, run_inl, run_inr, Option.bind_some, apart_b, apart_i, apart_s, h1, h2, h3, h4]
  have hk : ((c.2.2.2.2.2.2.2.2.2.2.2.2.2).map encI).length = (kd c).length := by rw [List.length_map]; rfl
  simp only [hk]
  by_cases k4 : c.1 = 4
  · simp only [k4]
    by_cases h0 : c.2.1 = 0 <;> by_cases h1 : (kd c).length = 1 <;> simp [h0, h1] <;> omega
  by_cases k5 : c.1 = 5
  · simp only [k5]
    by_cases h0 : 1 ≤ c.2.1 ∧ c.2.1 ≤ 11 <;> by_cases h1 : (kd c).length = 2 <;> simp [h0, h1] <;> omega
  by_cases k6 : c.1 = 6
  · simp only [k6]
    unfold argsB
    by_cases h : 1 ≤ c.2.1 ∧ c.2.1 ≤ 10
    · by_cases h5 : c.2.1 = 5
      · have : (2 ≤ ((kd c).length : Int) ∧ ((kd c).length : Int) ≤ 3) ↔ (((kd c).length : Int) = 2 ∨ ((kd c).length : Int) = 3) := by omega
        simp [h5, this]
      · by_cases h8 : c.2.1 ≥ 8
        · have g : 8 ≤ c.2.1 ∧ c.2.1 ≤ 10 := by omega
          by_cases h1 : ((kd c).length : Int) = 1 <;> simp [h, h5, h8, g, h1]
        · have g : ¬ (8 ≤ c.2.1 ∧ c.2.1 ≤ 10) := by omega
          have g' : 1 ≤ c.2.1 ∧ c.2.1 ≤ 7 := by omega
          simp [h, h5, h8, g, g']
    · have h5 : ¬ c.2.1 = 5 := by omega
      have g : ¬ (8 ≤ c.2.1 ∧ c.2.1 ≤ 10) := by omega
      have g' : ¬ (1 ≤ c.2.1 ∧ c.2.1 ≤ 7) := by omega
      simp [h, h5, g, g']
  by_cases h0 : c.2.1 = 0 <;> by_cases h1 : (kd c).length = 0 <;> simp [k4, k5, k6, h0, h1] <;> omega
theorem ev_impl_isPlaced (c : Nd) : Ev (F_impl_FNode_isPlaced · c.1 c.2.1 c.2.2.1 c.2.2.2.1 c.2.2.2.2.1 c.2.2.2.2.2.1 c.2.2.2.2.2.2.1 c.2.2.2.2.2.2.2.1 c.2.2.2.2.2.2.2.2.1 c.2.2.2.2.2.2.2.2.2.1 c.2.2.2.2.2.2.2.2.2.2.1 c.2.2.2.2.2.2.2.2.2.2.2.1 c.2.2.2.2.2.2.2.2.2.2.2.2.1 ((c.2.2.2.2.2.2.2.2.2.2.2.2.2).map encI)) (if c.1 = 2 then okArea c.2.2.2.2.2.1 c.2.2.2.2.2.2.1 c.2.2.2.2.2.1 c.2.2.2.2.2.2.1 else if c.1 = 3 then okArea c.2.2.2.2.2.1 c.2.2.2.2.2.2.1 c.2.2.2.2.2.2.2.2.2.1 c.2.2.2.2.2.2.2.2.2.2.1 else true) := by
  have g : Ev (F_impl_FNode_area · c.1 c.2.1 c.2.2.1 c.2.2.2.1 c.2.2.2.2.1 c.2.2.2.2.2.1 c.2.2.2.2.2.2.1 c.2.2.2.2.2.2.2.1 c.2.2.2.2.2.2.2.2.1 c.2.2.2.2.2.2.2.2.2.1 c.2.2.2.2.2.2.2.2.2.2.1 c.2.2.2.2.2.2.2.2.2.2.2.1 c.2.2.2.2.2.2.2.2.2.2.2.2.1 ((c.2.2.2.2.2.2.2.2.2.2.2.2.2).map encI)) (if c.1 = 2 then (c.2.2.2.2.2.1, c.2.2.2.2.2.2.1, c.2.2.2.2.2.1, c.2.2.2.2.2.2.1) else (c.2.2.2.2.2.1, c.2.2.2.2.2.2.1, c.2.2.2.2.2.2.2.2.2.1, c.2.2.2.2.2.2.2.2.2.2.1)) := by
    refine ⟨1, fun n hn => ?_⟩
    obtain ⟨m, rfl, hm⟩ := up1 hn
    simp only [F_impl_FNode_area, T_impl_FNode_area, run_done, run_fail, run_ask, run_opt, run_inl, run_inr, Option.bind_some, apart_b, apart_i, apart_s]
    by_cases k2 : c.1 = 2 <;> simp [k2]
  obtain ⟨n1, h1⟩ := g
  obtain ⟨n2, h2⟩ := ev_impl_AreaOk c.2.2.2.2.2.1 c.2.2.2.2.2.2.1 c.2.2.2.2.2.1 c.2.2.2.2.2.2.1
  obtain ⟨n3, h3⟩ := ev_impl_AreaOk c.2.2.2.2.2.1 c.2.2.2.2.2.2.1 c.2.2.2.2.2.2.2.2.2.1 c.2.2.2.2.2.2.2.2.2.2.1
  refine ⟨n1 + n2 + n3 + 1, fun n hn => ?_⟩
  obtain ⟨m, rfl, hm⟩ := up1 hn
  have h1 := h1 m (by omega)
  dsimp only at h1
  have h2 := h2 m (by omega)
  dsimp only at h2
  have h3 := h3 m (by omega)
  dsimp only at h3
  simp only [F_impl_FNode_isPlaced, T_impl_FNode_isPlaced, run_done, run_fail, run_ask, run_opt, run_inl, run_inr, Option.bind_some, apart_b, apart_i, apart_s, h1, h2, h3]
  by_cases k2 : c.1 = 2
  · simp [k2, h2]
  · by_cases k3 : c.1 = 3
    · simp [k3, h3]
    · simp [k2, k3]
theorem area_one (a b : Int) : okArea a b a b = okRef a b := by
  unfold okArea
  cases okRef a b <;> simp
theorem ev_impl_isOwn (c : Nd) (hb : c.2.2.2.2.1.size ≤ 140737488351232) : Ev (F_impl_FNode_isOwn · c.1 c.2.1 c.2.2.1 c.2.2.2.1 c.2.2.2.2.1 c.2.2.2.2.2.1 c.2.2.2.2.2.2.1 c.2.2.2.2.2.2.2.1 c.2.2.2.2.2.2.2.2.1 c.2.2.2.2.2.2.2.2.2.1 c.2.2.2.2.2.2.2.2.2.2.1 c.2.2.2.2.2.2.2.2.2.2.2.1 c.2.2.2.2.2.2.2.2.2.2.2.2.1 ((c.2.2.2.2.2.2.2.2.2.2.2.2.2).map encI)) (nodeB c) := by
  obtain ⟨n1, g1⟩ := ev_impl_ValueOk c.2.2.1 c.2.2.2.1 c.2.2.2.2.1 hb
  obtain ⟨n2, g2⟩ := ev_impl_isPlaced c
  obtain ⟨n3, g3⟩ := ev_impl_kidsOk c
  refine ⟨n1 + n2 + n3 + 1, fun n hn => ?_⟩
  obtain ⟨m, rfl, hm⟩ := up1 hn
  have g1 := g1 m (by omega)
  have g2 := g2 m (by omega)
  have g3 := g3 m (by omega)
  dsimp only at g1 g2 g3
  rw [area_one] at g2
  simp only [F_impl_FNode_isOwn, T_impl_FNode_isOwn, run_done, run_fail, run_ask, run_opt, run_inl, run_inr, Option.bind_some, apart_b, apart_i, apart_s, g1, g2, g3, zV_e2, zP_e2]
  simp only [beq_self_eq_true, Bool.and_true, Bool.true_and]
  unfold nodeB
  by_cases k1 : c.1 = 1
  · have h5 : (c.2.2.2.1 ≥ 0) = ¬ (c.2.2.2.1 < 0) := propext Int.not_lt.symm
    simp only [k1, h5]
    cases zP c.2.2.2.2.2.1 c.2.2.2.2.2.2.1 c.2.2.2.2.2.2.2.1 c.2.2.2.2.2.2.2.2.1 <;> cases zP c.2.2.2.2.2.2.2.2.2.1 c.2.2.2.2.2.2.2.2.2.2.1 c.2.2.2.2.2.2.2.2.2.2.2.1 c.2.2.2.2.2.2.2.2.2.2.2.2.1 <;> cases okV c.2.2.1 c.2.2.2.1 c.2.2.2.2.1 <;> by_cases h0 : c.2.1 = 0 <;> by_cases h1 : (kd c).length = 0 <;> by_cases h2 : c.2.2.1 = 0 <;> by_cases h3 : c.2.2.1 = 1 <;> by_cases h4 : c.2.2.2.1 < 0 <;> simp [h0, h1, h2, h3, h4] <;> (try omega)
  by_cases k2 : c.1 = 2
  · simp only [k2]
    cases zV c.2.2.1 c.2.2.2.1 c.2.2.2.2.1 <;> cases zP c.2.2.2.2.2.2.2.2.2.1 c.2.2.2.2.2.2.2.2.2.2.1 c.2.2.2.2.2.2.2.2.2.2.2.1 c.2.2.2.2.2.2.2.2.2.2.2.2.1 <;> cases okRef c.2.2.2.2.2.1 c.2.2.2.2.2.2.1 <;> by_cases h0 : c.2.1 = 0 <;> by_cases h1 : (kd c).length = 0 <;> simp [h0, h1]
  by_cases k3 : c.1 = 3
  · simp only [k3]
    cases zV c.2.2.1 c.2.2.2.1 c.2.2.2.2.1 <;> cases okArea c.2.2.2.2.2.1 c.2.2.2.2.2.2.1 c.2.2.2.2.2.2.2.2.2.1 c.2.2.2.2.2.2.2.2.2.2.1 <;> by_cases h0 : c.2.1 = 0 <;> by_cases h1 : (kd c).length = 0 <;> simp [h0, h1]
  by_cases k4 : c.1 = 4
  · simp only [k4]
    cases zV c.2.2.1 c.2.2.2.1 c.2.2.2.2.1 <;> cases zP c.2.2.2.2.2.1 c.2.2.2.2.2.2.1 c.2.2.2.2.2.2.2.1 c.2.2.2.2.2.2.2.2.1 <;> cases zP c.2.2.2.2.2.2.2.2.2.1 c.2.2.2.2.2.2.2.2.2.2.1 c.2.2.2.2.2.2.2.2.2.2.2.1 c.2.2.2.2.2.2.2.2.2.2.2.2.1 <;> by_cases h0 : c.2.1 = 0 <;> by_cases h1 : (kd c).length = 1 <;> simp [h0, h1]
  by_cases k5 : c.1 = 5
  · simp only [k5]
    cases zV c.2.2.1 c.2.2.2.1 c.2.2.2.2.1 <;> cases zP c.2.2.2.2.2.1 c.2.2.2.2.2.2.1 c.2.2.2.2.2.2.2.1 c.2.2.2.2.2.2.2.2.1 <;> cases zP c.2.2.2.2.2.2.2.2.2.1 c.2.2.2.2.2.2.2.2.2.2.1 c.2.2.2.2.2.2.2.2.2.2.2.1 c.2.2.2.2.2.2.2.2.2.2.2.2.1 <;> by_cases h0 : 1 ≤ c.2.1 ∧ c.2.1 ≤ 11 <;> by_cases h1 : (kd c).length = 2 <;> simp [h0, h1]
  by_cases k6 : c.1 = 6
  · simp only [k6]
    cases zV c.2.2.1 c.2.2.2.1 c.2.2.2.2.1 <;> cases zP c.2.2.2.2.2.1 c.2.2.2.2.2.2.1 c.2.2.2.2.2.2.2.1 c.2.2.2.2.2.2.2.2.1 <;> cases zP c.2.2.2.2.2.2.2.2.2.1 c.2.2.2.2.2.2.2.2.2.2.1 c.2.2.2.2.2.2.2.2.2.2.2.1 c.2.2.2.2.2.2.2.2.2.2.2.2.1 <;> cases argsB c.2.1 ((kd c).length : Int) <;> simp
  simp [k1, k2, k3, k4, k5, k6]
section
variable (own area call : Int → Bool) (kids : Int → List Int)
def goF (F : Int → Int) (n : Int) : List Int → Int → Int
  | [], start => start
  | k :: r, start => if k ≠ start - 1 ∨ k < 0 ∨ (area k = true ∧ call n = false) then -1 else if F k < 0 then -1 else goF F n r (F k)
def fromG : Nat → Int → Int
  | 0, _ => -1
  | f + 1, n => if n < 0 ∨ own n = false then -1 else goF area call (fromG f) n (kids n).reverse n
def goT (F : Int → Int) : List Int → Int → Int
  | [], x => x + 1
  | k :: r, x => if x < 0 ∨ k ≠ x then -1 else if F x < 0 then -1 else goT F r (F x - 1)
def treeG : Nat → Int → Int
  | 0, _ => -1
  | f + 1, n => goT (treeG f) (kids n).reverse (n - 1)
def maxL : List Int → Int
  | [] => 0
  | x :: r => max x (maxL r)
def deepG : Nat → Int → Int
  | 0, _ => 0
  | f + 1, n => maxL ((kids n).map fun k => deepG f k) + 1
/-- a node's kids stand below it; a part's cells stand in a call alone -/
def kidsIn (i : Int) : Prop := ∀ k ∈ kids i, 0 ≤ k ∧ k ≤ i - 1 ∧ ¬ (area k = true ∧ call i = false)
theorem treeG_le : ∀ (f : Nat) (n : Int), 0 ≤ n → treeG kids f n ≤ n
  | 0, n, h => by rw [treeG]; omega
  | f + 1, n, h => by
    have go : ∀ (l : List Int) (x : Int), x + 1 ≤ n → -1 ≤ x → goT (treeG kids f) l x ≤ n := by
      intro l
      induction l with
      | nil => intro x h1 h2; rw [goT]; omega
      | cons k r ih =>
        intro x h1 h2
        rw [goT]
        split
        · omega
        · split
          · omega
          · have := treeG_le f x (by omega)
            exact ih _ (by omega) (by omega)
    rw [treeG]
    exact go _ _ (by omega) (by omega)
theorem treeG_eq : ∀ (f g : Nat) (n : Int), n < f → n < g → 0 ≤ n → treeG kids f n = treeG kids g n
  | 0, g, n, h1, h2, h3 => by omega
  | f + 1, 0, n, h1, h2, h3 => by omega
  | f + 1, g + 1, n, h1, h2, h3 => by
    have go : ∀ (l : List Int) (x : Int), x < f → x < g → goT (treeG kids f) l x = goT (treeG kids g) l x := by
      intro l
      induction l with
      | nil => intro x _ _; rw [goT, goT]
      | cons k r ih =>
        intro x hx hy
        rw [goT, goT]
        by_cases hc : x < 0 ∨ k ≠ x
        · rw [if_pos hc, if_pos hc]
        · rw [if_neg hc, if_neg hc, treeG_eq f g x hx hy (by omega)]
          have hle := treeG_le kids g x (by omega)
          split
          · rfl
          · exact ih _ (by omega) (by omega)
    rw [treeG, treeG]
    exact go _ _ (by omega) (by omega)
theorem maxL_le {l : List Int} {b : Int} (h0 : 0 ≤ b) : maxL l ≤ b ↔ ∀ x ∈ l, x ≤ b := by
  induction l with
  | nil => simp [maxL, h0]
  | cons a r ih => simp only [maxL, List.mem_cons, forall_eq_or_imp]; rw [Int.max_le, ih]
theorem deepG_le {n b : Int} {f : Nat} (h0 : 1 ≤ b) : deepG kids (f + 1) n ≤ b ↔ ∀ k ∈ kids n, deepG kids f k ≤ b - 1 := by
  rw [deepG]
  constructor
  · intro h k hk
    exact (maxL_le (l := (kids n).map fun k => deepG kids f k) (by omega)).1 (by omega) _ (List.mem_map_of_mem (f := fun k => deepG kids f k) hk)
  · intro h
    have := (maxL_le (l := (kids n).map fun k => deepG kids f k) (b := b - 1) (by omega)).2 (by
      intro x hx
      obtain ⟨k, hk, rfl⟩ := List.mem_map.1 hx
      exact h k hk)
    omega
theorem deepG_eq : ∀ (f g : Nat) (n : Int), n < f → n < g → (∀ i, 0 ≤ i → i ≤ n → kidsIn area call kids i) → 0 ≤ n → deepG kids f n = deepG kids g n
  | 0, g, n, h1, h2, _, h3 => by omega
  | f + 1, 0, n, h1, h2, _, h3 => by omega
  | f + 1, g + 1, n, h1, h2, hk, h3 => by
    rw [deepG, deepG]
    congr 2
    apply List.map_congr_left
    intro k hm
    have := hk n h3 (by omega) k hm
    exact deepG_eq f g k (by omega) (by omega) (fun i h0 h1 => hk i h0 (by omega)) (by omega)
theorem deepG_pos : ∀ (f : Nat) (n : Int), 0 ≤ n → n < f → 1 ≤ deepG kids f n
  | 0, n, h, h' => by omega
  | f + 1, n, h, h' => by
    rw [deepG]
    have : ∀ l : List Int, 0 ≤ maxL l := by
      intro l
      induction l with
      | nil => exact Int.le_refl 0
      | cons a r ih => simp only [maxL]; omega
    have := this ((kids n).map fun k => deepG kids f k)
    omega
/-- the program's recursion: what stands is a tree, and its nodes are right -/
theorem from_ok : ∀ (f g : Nat) (n : Int), 0 ≤ n → n < g → 0 ≤ fromG own area call kids f n →
    fromG own area call kids f n ≤ n ∧ treeG kids g n = fromG own area call kids f n ∧ (∀ i, fromG own area call kids f n ≤ i → i ≤ n → own i = true ∧ kidsIn area call kids i) ∧ (∀ h : Nat, (∀ i, 0 ≤ i → i ≤ n → kidsIn area call kids i) → n < h → deepG kids h n ≤ f)
  | 0, g, n, h0, h1, h2 => by rw [fromG] at h2; omega
  | f + 1, 0, n, h0, h1, h2 => by omega
  | f + 1, g + 1, n, h0, h1, h2 => by
    rw [fromG] at h2 ⊢
    split at h2
    · omega
    · rename_i hc
      rw [if_neg hc]
      have go : ∀ (l : List Int) (s : Int), 0 ≤ s → s ≤ n → 0 ≤ goF area call (fromG own area call kids f) n l s →
          goF area call (fromG own area call kids f) n l s ≤ s ∧ goT (treeG kids g) l (s - 1) = goF area call (fromG own area call kids f) n l s ∧ (∀ i, goF area call (fromG own area call kids f) n l s ≤ i → i ≤ s - 1 → own i = true ∧ kidsIn area call kids i) ∧ (∀ k ∈ l, 0 ≤ k ∧ k ≤ n - 1 ∧ ¬ (area k = true ∧ call n = false)) ∧ (∀ h : Nat, (∀ i, 0 ≤ i → i ≤ n → kidsIn area call kids i) → n < h → ∀ k ∈ l, deepG kids h k ≤ f) := by
        intro l
        induction l with
        | nil =>
          intro s h3 h4 h5
          rw [goF] at h5 ⊢
          rw [goT]
          refine ⟨by omega, by omega, fun i _ _ => by omega, fun k hk => (by cases hk), fun h _ _ k hk => (by cases hk)⟩
        | cons k r ih =>
          intro s h3 h4 h5
          rw [goF] at h5 ⊢
          split at h5
          · omega
          · rename_i hd
            rw [if_neg hd]
            split at h5
            · omega
            · rename_i he
              rw [if_neg he]
              have hk : k = s - 1 := by omega
              subst hk
              obtain ⟨a1, a2, a3, a4⟩ := from_ok f g (s - 1) (by omega) (by omega) (by omega)
              obtain ⟨b1, b2, b3, b4, b5⟩ := ih _ (by omega) (by omega) h5
              refine ⟨by omega, ?_, ?_, ?_, ?_⟩
              · rw [goT, if_neg (by omega), a2, if_neg he, b2]
              · intro i i1 i2
                by_cases hi : fromG own area call kids f (s - 1) ≤ i
                · exact a3 i hi i2
                · exact b3 i i1 (by omega)
              · intro k hk
                rcases List.mem_cons.1 hk with rfl | hk
                · exact ⟨by omega, by omega, fun h => hd (.inr (.inr h))⟩
                · exact b4 k hk
              · intro h hx hy k hk
                rcases List.mem_cons.1 hk with rfl | hk
                · exact a4 h (fun i i1 i2 => hx i i1 (by omega)) (by omega)
                · exact b5 h hx hy k hk
      obtain ⟨c1, c2, c3, c4, c5⟩ := go _ n h0 (Int.le_refl n) h2
      have hown : own n = true := by cases ho : own n with
        | true => rfl
        | false => exact absurd (.inr ho) hc
      refine ⟨c1, by rw [treeG]; exact c2, ?_, ?_⟩
      · intro i i1 i2
        by_cases hi : i = n
        · subst hi
          exact ⟨hown, fun k hk => c4 k (List.mem_reverse.2 hk)⟩
        · exact c3 i i1 (by omega)
      · intro h hx hy
        cases h with
        | zero => omega
        | succ h =>
          refine (deepG_le kids (by omega)).2 fun k hk => ?_
          have hin := hx n h0 (Int.le_refl n) k hk
          have e : deepG kids h k = deepG kids (n.toNat + 1) k := deepG_eq area call kids _ _ _ (by omega) (by omega) (fun i i1 i2 => hx i i1 (by omega)) (by omega)
          rw [e]
          have := c5 (n.toNat + 1) hx (by omega) k (List.mem_reverse.2 hk)
          omega
/-- what is a tree, of right nodes and not too deep, the program's recursion takes -/
theorem from_of : ∀ (f g h : Nat) (n : Int), 0 ≤ n → n < g → n < h → (∀ i, 0 ≤ i → i ≤ n → own i = true ∧ kidsIn area call kids i) → 0 ≤ treeG kids g n → deepG kids h n ≤ f → fromG own area call kids f n = treeG kids g n
  | 0, g, h, n, h0, h1, h1', h2, h3, h4 => by have := deepG_pos kids h n h0 h1'; omega
  | f + 1, 0, h, n, h0, h1, _, h2, h3, h4 => by omega
  | f + 1, g + 1, 0, n, h0, h1, _, h2, h3, h4 => by omega
  | f + 1, g + 1, h + 1, n, h0, h1, h1', h2, h3, h4 => by
    have hd := (deepG_le kids (b := ((f + 1 : Nat) : Int)) (by omega)).1 h4
    have go : ∀ (l : List Int) (s : Int), (∀ k ∈ l, k ∈ kids n) → 0 ≤ s → s ≤ n → 0 ≤ goT (treeG kids g) l (s - 1) → goF area call (fromG own area call kids f) n l s = goT (treeG kids g) l (s - 1) := by
      intro l
      induction l with
      | nil => intro s _ _ _ _; rw [goF, goT]; omega
      | cons k r ih =>
        intro s hm h3 h4 h5
        rw [goT] at h5 ⊢
        rw [goF]
        split at h5
        · omega
        · rename_i hc
          rw [if_neg hc]
          split at h5
          · omega
          · rename_i he
            rw [if_neg he]
            have hk : k = s - 1 := by omega
            have hin := (h2 n h0 (Int.le_refl n)).2 k (hm k (List.mem_cons_self ..))
            have hdk := hd k (hm k (List.mem_cons_self ..))
            subst hk
            have e := from_of f g h (s - 1) (by omega) (by omega) (by omega) (fun i i1 i2 => h2 i i1 (by omega)) (by omega) (by omega)
            have hb : ¬ (s - 1 ≠ s - 1 ∨ s - 1 < 0 ∨ (area (s - 1) = true ∧ call n = false)) := fun hx => by
              rcases hx with hx | hx | hx
              · exact hx rfl
              · omega
              · exact hin.2.2 hx
            rw [if_neg hb, e, if_neg he]
            have hle := treeG_le kids g (s - 1) (by omega)
            exact ih _ (fun k hk => hm k (List.mem_cons_of_mem _ hk)) (by omega) (by omega) h5
    rw [treeG] at h3
    have hn : ¬ (n < 0 ∨ own n = false) := fun hx => by
      rcases hx with hx | hx
      · omega
      · rw [(h2 n h0 (Int.le_refl n)).1] at hx; cases hx
    rw [fromG, treeG, if_neg hn]
    exact go _ n (fun k hk => List.mem_reverse.1 hk) h0 (Int.le_refl n) h3
end
theorem cell_n (c : Nd) : (encN c).length = 14 := rfl
theorem celi_n (k : Int) : (encI k).length = 1 := rfl
theorem celi_0 (k : Int) : cellI .i64 (encI k) 0 = some k := rfl
theorem cell_0 (c : Nd) : cellI .i64 (encN c) 0 = some c.1 := rfl
theorem cell_1 (c : Nd) : cellI .i64 (encN c) 1 = some c.2.1 := rfl
theorem cell_2 (c : Nd) : cellI .i64 (encN c) 2 = some c.2.2.1 := rfl
theorem cell_3 (c : Nd) : cellI .i64 (encN c) 3 = some c.2.2.2.1 := rfl
theorem cell_4 (c : Nd) : cellS (encN c) 4 = some c.2.2.2.2.1 := rfl
theorem cell_5 (c : Nd) : cellI .i64 (encN c) 5 = some c.2.2.2.2.2.1 := rfl
theorem cell_6 (c : Nd) : cellI .i64 (encN c) 6 = some c.2.2.2.2.2.2.1 := rfl
theorem cell_7 (c : Nd) : cellB (encN c) 7 = some c.2.2.2.2.2.2.2.1 := rfl
theorem cell_8 (c : Nd) : cellB (encN c) 8 = some c.2.2.2.2.2.2.2.2.1 := rfl
theorem cell_9 (c : Nd) : cellI .i64 (encN c) 9 = some c.2.2.2.2.2.2.2.2.2.1 := rfl
theorem cell_10 (c : Nd) : cellI .i64 (encN c) 10 = some c.2.2.2.2.2.2.2.2.2.2.1 := rfl
theorem cell_11 (c : Nd) : cellB (encN c) 11 = some c.2.2.2.2.2.2.2.2.2.2.2.1 := rfl
theorem cell_12 (c : Nd) : cellB (encN c) 12 = some c.2.2.2.2.2.2.2.2.2.2.2.2.1 := rfl
theorem cell_13 (c : Nd) : cellL (encN c) 13 = some ((c.2.2.2.2.2.2.2.2.2.2.2.2.2).map encI) := rfl
def nd0 : Nd := (0, 0, 0, 0, ⟨#[]⟩, 0, 0, false, false, 0, 0, false, false, [])
/-- the node at a place -/
def ndi (l : List Nd) (i : Int) : Nd := l.getD i.toNat nd0
def kidsF (l : List Nd) (i : Int) : List Int := kd (ndi l i)
def ownF (l : List Nd) (i : Int) : Bool := nodeB (ndi l i)
def areaF (l : List Nd) (i : Int) : Bool := decide ((ndi l i).1 = 3)
def callF (l : List Nd) (i : Int) : Bool := decide ((ndi l i).1 = 6)
theorem ndi_get {l : List Nd} {i : Int} (h : 0 ≤ i ∧ i < l.length) : l[i.toNat]? = some (ndi l i) := by
  have : i.toNat < l.length := by omega
  unfold ndi
  rw [List.getElem?_eq_getElem this, List.getD_eq_getElem?_getD, List.getElem?_eq_getElem this]
  rfl
theorem ndi_mem {l : List Nd} {i : Int} (h : 0 ≤ i ∧ i < l.length) : ndi l i ∈ l := List.mem_of_getElem? (ndi_get h)
theorem take_rev {α : Type} {l : List α} {j : Nat} {k : α} (h : l[j]? = some k) : (l.take (j + 1)).reverse = k :: (l.take j).reverse := by
  rw [List.take_add_one, h]
  simp
/-- what holds at each number under a bound, from one fuel on -/
theorem ev_below {R : Type} {F : Int → Nat → Option R} {f : Int → R} (x : Int) (h : ∀ y, 0 ≤ y → y < x → Ev (F y) (f y)) : ∃ n0, ∀ n, n0 ≤ n → ∀ y, 0 ≤ y → y < x → F y n = some (f y) := by
  obtain ⟨n0, h0⟩ := ev_list (F := F) (f := f) ((List.range x.toNat).map fun (i : Nat) => (i : Int)) (fun c hc => by
    obtain ⟨i, hi, rfl⟩ := List.mem_map.1 hc
    have := List.mem_range.1 hi
    exact h _ (Int.natCast_nonneg i) (by omega))
  refine ⟨n0, fun n hn y h1 h2 => h0 n hn y (List.mem_map.2 ⟨y.toNat, List.mem_range.2 (by omega), by omega⟩)⟩
theorem treeG_lo (kids : Int → List Int) : ∀ (f : Nat) (n : Int), 0 ≤ n → -1 ≤ treeG kids f n
  | 0, n, h => by rw [treeG]; omega
  | f + 1, n, h => by
    have go : ∀ (l : List Int) (x : Int), -1 ≤ x → -1 ≤ goT (treeG kids f) l x := by
      intro l
      induction l with
      | nil => intro x h1; rw [goT]; omega
      | cons k r ih =>
        intro x h1
        rw [goT]
        split
        · omega
        · split
          · omega
          · exact ih _ (by omega)
    rw [treeG]
    exact go _ _ (by omega)
theorem tree_loop (l : List Nd) (x1 : Int) (f n : Nat) (hx : 0 ≤ x1 ∧ x1 < l.length) (hl : l.length ≤ 140737488351232) (hk : (kd (ndi l x1)).length ≤ 140737488351232)
    (hrec : ∀ y : Int, 0 ≤ y → y < x1 → F_spec_l3Tree n (l.map encN) y = some (treeG (kidsF l) f y)) :
    ∀ (j M : Nat) (s : Int), j ≤ (kd (ndi l x1)).length → j + 1 ≤ M → -1 ≤ s → s < x1 →
      (∃ x, loopF (B_spec_l3Tree_29 (F_spec_l3Tree n) n) M (l.map encN, x1, s, (j : Int) - 1) = some (.inr x) ∧ goT (treeG (kidsF l) f) ((kidsF l x1).take j).reverse s = x + 1 ∧ -1 ≤ x ∧ x < x1) ∨
      (loopF (B_spec_l3Tree_29 (F_spec_l3Tree n) n) M (l.map encN, x1, s, (j : Int) - 1) = some (.inl (-1)) ∧ goT (treeG (kidsF l) f) ((kidsF l x1).take j).reverse s = -1)
  | 0, 0, s, h1, h2, h3, h4 => by omega
  | 0, M + 1, s, h1, h2, h3, h4 => by
    refine .inl ⟨s, ?_, by simp [goT], h3, h4⟩
    rw [loopF_inr (r := .inr s) (by simp [-getElem?_pos, B_spec_l3Tree_29, run_done, run_fail, run_ask, run_opt, run_inl, run_inr, Option.bind_some, apart_b, apart_i, apart_s])]
  | j + 1, 0, s, h1, h2, h3, h4 => by omega
  | j + 1, M + 1, s, h1, h2, h3, h4 => by
    have hc := ndi_get hx
    have hj : j < (kd (ndi l x1)).length := by omega
    have hg : (kidsF l x1)[j]? = some (kidsF l x1)[j] := List.getElem?_eq_getElem hj
    have ih := tree_loop l x1 f n hx hl hk hrec j M
    rw [take_rev hg]
    generalize (kidsF l x1)[j] = k at hg
    have hi : (((j + 1 : Nat) : Int) - 1) = (j : Int) := by omega
    rw [hi, goT]
    have hg' : (ndi l x1).2.2.2.2.2.2.2.2.2.2.2.2.2[j]? = some k := hg
    have hj' : j < (ndi l x1).2.2.2.2.2.2.2.2.2.2.2.2.2.length := hj
    by_cases hs : s < 0
    · refine .inr ⟨?_, by rw [if_pos (.inl hs)]⟩
      rw [loopF_inr (r := .inl (-1)) (by simp [-getElem?_pos, B_spec_l3Tree_29, run_done, run_fail, run_ask, run_opt, run_inl, run_inr, Option.bind_some, apart_b, apart_i, apart_s, hs])]
    · by_cases hks : k = s
      · subst hks
        have hr := hrec k (by omega) h4
        by_cases ht : treeG (kidsF l) f k < 0
        · refine .inr ⟨?_, by rw [if_neg (by omega), if_pos ht]⟩
          rw [loopF_inr (r := .inl (-1)) (by simp [-getElem?_pos, B_spec_l3Tree_29, run_done, run_fail, run_ask, run_opt, run_inl, run_inr, Option.bind_some, apart_b, apart_i, apart_s, hs, hc, hx, cell_n, celi_n, celi_0, cell_0, cell_1, cell_2, cell_3, cell_4, cell_5, cell_6, cell_7, cell_8, cell_9, cell_10, cell_11, cell_12, cell_13, hg', hj', hr, ht])]
        · have hle := treeG_le (kidsF l) f k (by omega)
          have hw : IntKind.i64.wrap (treeG (kidsF l) f k - 1) = treeG (kidsF l) f k - 1 := wrap64 (by omega)
          have hw2 : IntKind.i64.wrap ((j : Int) - 1) = (j : Int) - 1 := wrap64 (by omega)
          rw [if_neg (by omega), if_neg ht]
          rw [loopF_inl (v' := (l.map encN, x1, treeG (kidsF l) f k - 1, (j : Int) - 1)) (by simp [-getElem?_pos, B_spec_l3Tree_29, run_done, run_fail, run_ask, run_opt, run_inl, run_inr, Option.bind_some, apart_b, apart_i, apart_s, hs, hc, hx, cell_n, celi_n, celi_0, cell_0, cell_1, cell_2, cell_3, cell_4, cell_5, cell_6, cell_7, cell_8, cell_9, cell_10, cell_11, cell_12, cell_13, hg', hj', hr, ht, hw, hw2])]
          exact ih _ (by omega) (by omega) (by omega) (by omega)
      · refine .inr ⟨?_, by rw [if_pos (.inr hks)]⟩
        rw [loopF_inr (r := .inl (-1)) (by simp [-getElem?_pos, B_spec_l3Tree_29, run_done, run_fail, run_ask, run_opt, run_inl, run_inr, Option.bind_some, apart_b, apart_i, apart_s, hs, hc, hx, cell_n, celi_n, celi_0, cell_0, cell_1, cell_2, cell_3, cell_4, cell_5, cell_6, cell_7, cell_8, cell_9, cell_10, cell_11, cell_12, cell_13, hg', hj', hks])]
theorem ev_spec_l3Tree (l : List Nd) (hl : l.length ≤ 140737488351232) (hk : ∀ c ∈ l, (kd c).length ≤ 140737488351232) : ∀ (f : Nat) (x : Int), 0 ≤ x → x < l.length → x < f → Ev (F_spec_l3Tree · (l.map encN) x) (treeG (kidsF l) f x)
  | 0, x, h0, h1, h2 => by omega
  | f + 1, x, h0, h1, h2 => by
    obtain ⟨n0, hn0⟩ := ev_below (F := fun y n => F_spec_l3Tree n (l.map encN) y) (f := fun y => treeG (kidsF l) f y) x (fun y h3 h4 => ev_spec_l3Tree l hl hk f y h3 (by omega) (by omega))
    refine ⟨n0 + (kd (ndi l x)).length + 5, fun n hn => ?_⟩
    obtain ⟨m, rfl, hm⟩ := up1 hn
    have hc := ndi_get (l := l) (i := x) ⟨h0, h1⟩
    have hkx := hk _ (ndi_mem (l := l) ⟨h0, h1⟩)
    have hw : IntKind.i64.wrap (x - 1) = x - 1 := wrap64 (by omega)
    have hw2 : IntKind.i64.wrap (((kd (ndi l x)).length : Int) - 1) = ((kd (ndi l x)).length : Int) - 1 := wrap64 (by omega)
    have h := tree_loop l x f m ⟨h0, h1⟩ hl hkx (hn0 m (by omega)) (kd (ndi l x)).length m (x - 1) (Nat.le_refl _) (by omega) (by omega) (by omega)
    have e : (kidsF l x).take (kd (ndi l x)).length = kidsF l x := List.take_length
    rw [e] at h
    rw [show treeG (kidsF l) (f + 1) x = goT (treeG (kidsF l) f) (kidsF l x).reverse (x - 1) from rfl]
    unfold kd at h hw2
    dsimp only
    simp only [F_spec_l3Tree, T_spec_l3Tree, run_done, run_fail, run_ask, run_opt, run_inl, run_inr, Option.bind_some, apart_b, apart_i, apart_s]
    rcases h with ⟨y, g1, g2, g3, g4⟩ | ⟨g1, g2⟩
    · have hw3 : IntKind.i64.wrap (y + 1) = y + 1 := wrap64 (by omega)
      rw [g2]
      simp [-getElem?_pos, run_done, run_fail, run_ask, run_opt, run_inl, run_inr, Option.bind_some, apart_b, apart_i, apart_s, hc, h0, h1, cell_n, celi_n, celi_0, cell_0, cell_1, cell_2, cell_3, cell_4, cell_5, cell_6, cell_7, cell_8, cell_9, cell_10, cell_11, cell_12, cell_13, hw, hw2, g1, hw3]
    · rw [g2]
      simp [-getElem?_pos, run_done, run_fail, run_ask, run_opt, run_inl, run_inr, Option.bind_some, apart_b, apart_i, apart_s, hc, h0, h1, cell_n, celi_n, celi_0, cell_0, cell_1, cell_2, cell_3, cell_4, cell_5, cell_6, cell_7, cell_8, cell_9, cell_10, cell_11, cell_12, cell_13, hw, hw2, g1]
theorem deepG_lef (kids : Int → List Int) : ∀ (f : Nat) (n : Int), 0 ≤ deepG kids f n ∧ deepG kids f n ≤ f
  | 0, n => by rw [deepG]; omega
  | f + 1, n => by
    have : ∀ l : List Int, 0 ≤ maxL (l.map fun k => deepG kids f k) ∧ maxL (l.map fun k => deepG kids f k) ≤ f := by
      intro l
      induction l with
      | nil => exact ⟨Int.le_refl 0, Int.natCast_nonneg f⟩
      | cons a r ih => have := deepG_lef kids f a; simp only [List.map_cons, maxL]; omega
    have := this (kids n)
    rw [deepG]
    omega
theorem deep_loop (l : List Nd) (x1 : Int) (f n : Nat) (hx : 0 ≤ x1 ∧ x1 < l.length) (hf : f ≤ 1000) (hk : (kd (ndi l x1)).length ≤ 140737488351232)
    (hrec : ∀ k ∈ kidsF l x1, F_spec_l3Deep n (l.map encN) k = some (deepG (kidsF l) f k)) :
    ∀ (m i M : Nat) (a : Int), (kd (ndi l x1)).length = i + m → m + 1 ≤ M → 0 ≤ a →
      loopF (B_spec_l3Deep_29 (F_spec_l3Deep n) n) M (l.map encN, x1, a, (i : Int)) = some (max a (maxL (((kidsF l x1).drop i).map fun k => deepG (kidsF l) f k)))
  | m, i, 0, a, h1, h2, h3 => by omega
  | 0, i, M + 1, a, h1, h2, h3 => by
    have hc := ndi_get hx
    have hi : ¬ i < (ndi l x1).2.2.2.2.2.2.2.2.2.2.2.2.2.length := by unfold kd at h1; omega
    rw [loopF_inr (r := a) (by simp [-getElem?_pos, B_spec_l3Deep_29, run_done, run_fail, run_ask, run_opt, run_inl, run_inr, Option.bind_some, apart_b, apart_i, apart_s, hc, hx, cell_n, celi_n, celi_0, cell_0, cell_1, cell_2, cell_3, cell_4, cell_5, cell_6, cell_7, cell_8, cell_9, cell_10, cell_11, cell_12, cell_13, hi])]
    rw [List.drop_eq_nil_of_le (by unfold kidsF; omega)]
    simp only [List.map_nil, maxL]
    congr 1
    omega
  | m + 1, i, M + 1, a, h1, h2, h3 => by
    have hc := ndi_get hx
    have hj : i < (kd (ndi l x1)).length := by omega
    have hg : (kidsF l x1)[i]? = some (kidsF l x1)[i] := List.getElem?_eq_getElem hj
    rw [drop_cons hg]
    have hr := hrec _ (List.mem_of_getElem? hg)
    generalize (kidsF l x1)[i] = k at hg hr
    have hg' : (ndi l x1).2.2.2.2.2.2.2.2.2.2.2.2.2[i]? = some k := hg
    have hj' : i < (ndi l x1).2.2.2.2.2.2.2.2.2.2.2.2.2.length := hj
    have hj'' : (i : Int) < ((ndi l x1).2.2.2.2.2.2.2.2.2.2.2.2.2.length : Int) := by omega
    have hw : IntKind.i64.wrap ((i : Int) + 1) = ((i + 1 : Nat) : Int) := by rw [wrap64 (by omega)]; omega
    have hd := deepG_lef (kidsF l) f k
    rw [loopF_inl (v' := (l.map encN, x1, (if deepG (kidsF l) f k > a then deepG (kidsF l) f k else a), ((i + 1 : Nat) : Int))) (by simp [-getElem?_pos, B_spec_l3Deep_29, run_done, run_fail, run_ask, run_opt, run_inl, run_inr, Option.bind_some, apart_b, apart_i, apart_s, hc, hx, cell_n, celi_n, celi_0, cell_0, cell_1, cell_2, cell_3, cell_4, cell_5, cell_6, cell_7, cell_8, cell_9, cell_10, cell_11, cell_12, cell_13, hg', hj', hr, hw])]
    rw [deep_loop l x1 f n hx hf hk hrec m (i + 1) M _ (by omega) (by omega) (by split <;> omega)]
    simp only [List.map_cons, maxL]
    congr 1
    split <;> omega
theorem ev_spec_l3Deep (l : List Nd) (hl : l.length ≤ 60) (hk : ∀ c ∈ l, (kd c).length ≤ 140737488351232) (hin : ∀ i : Int, 0 ≤ i → i < l.length → kidsIn (areaF l) (callF l) (kidsF l) i) : ∀ (f : Nat) (x : Int), f ≤ 1000 → 0 ≤ x → x < l.length → x < f → Ev (F_spec_l3Deep · (l.map encN) x) (deepG (kidsF l) f x)
  | 0, x, hf, h0, h1, h2 => by omega
  | f + 1, x, hf, h0, h1, h2 => by
    obtain ⟨n0, hn0⟩ := ev_list (F := fun y n => F_spec_l3Deep n (l.map encN) y) (f := fun y => deepG (kidsF l) f y) (kidsF l x) (fun y hy => by
      have := hin x h0 h1 y hy
      exact ev_spec_l3Deep l hl hk hin f y (by omega) (by omega) (by omega) (by omega))
    refine ⟨n0 + (kd (ndi l x)).length + 5, fun n hn => ?_⟩
    obtain ⟨m, rfl, hm⟩ := up1 hn
    have h := deep_loop l x f m ⟨h0, h1⟩ (by omega) (hk _ (ndi_mem (l := l) ⟨h0, h1⟩)) (hn0 m (by omega)) (kd (ndi l x)).length 0 m 0 (by omega) (by omega) (by omega)
    have hd := deepG_lef (kidsF l) (f + 1) x
    have e : max 0 (maxL ((kidsF l x).map fun k => deepG (kidsF l) f k)) + 1 = deepG (kidsF l) (f + 1) x := by
      rw [deepG]
      have : ∀ q : List Int, 0 ≤ maxL q := by
        intro q
        induction q with
        | nil => exact Int.le_refl 0
        | cons a r ih => simp only [maxL]; omega
      have := this ((kidsF l x).map fun k => deepG (kidsF l) f k)
      omega
    rw [List.drop_zero] at h
    simp only [Int.natCast_zero] at h
    have hw : IntKind.i64.wrap (max 0 (maxL ((kidsF l x).map fun k => deepG (kidsF l) f k)) + 1) = deepG (kidsF l) (f + 1) x := by rw [e, wrap64 (by omega)]
    simp only [F_spec_l3Deep, T_spec_l3Deep, run_done, run_fail, run_ask, run_opt, run_inl, run_inr, Option.bind_some, apart_b, apart_i, apart_s, h, hw]
/-- a node whose kids stand below it, part's cells in calls alone -/
def inB (l : List Nd) (i : Int) : Bool := (kidsF l i).all fun k => decide (0 ≤ k ∧ k ≤ i - 1) && !(areaF l k && !callF l i)
theorem inB_iff {l : List Nd} {i : Int} : inB l i = true ↔ kidsIn (areaF l) (callF l) (kidsF l) i := by
  unfold inB kidsIn
  rw [List.all_eq_true]
  refine forall_congr' fun k => forall_congr' fun hk => ?_
  cases areaF l k <;> cases callF l i <;> simp
theorem in_loop (l : List Nd) (x1 : Int) (n : Nat) (hx : 0 ≤ x1 ∧ x1 < l.length) (hl : l.length ≤ 60) (hk : (kd (ndi l x1)).length ≤ 140737488351232) :
    ∀ (m i M : Nat), (kd (ndi l x1)).length = i + m → m + 1 ≤ M →
      loopF (B_spec_FormulaOk_475 (n + 1)) M (l.map encN, x1, (i : Int)) = some (if ((kidsF l x1).drop i).all (fun k => decide (0 ≤ k ∧ k ≤ x1 - 1) && !(areaF l k && !callF l x1)) = true then .inr (l.map encN, x1) else .inl false)
  | m, i, 0, h1, h2 => by omega
  | 0, i, M + 1, h1, h2 => by
    have hc := ndi_get hx
    have hi : ¬ i < (ndi l x1).2.2.2.2.2.2.2.2.2.2.2.2.2.length := by unfold kd at h1; omega
    rw [loopF_inr (r := .inr (l.map encN, x1)) (by simp [-getElem?_pos, B_spec_FormulaOk_475, run_done, run_fail, run_ask, run_opt, run_inl, run_inr, Option.bind_some, apart_b, apart_i, apart_s, hc, hx, cell_n, celi_n, celi_0, cell_0, cell_1, cell_2, cell_3, cell_4, cell_5, cell_6, cell_7, cell_8, cell_9, cell_10, cell_11, cell_12, cell_13, hi])]
    rw [List.drop_eq_nil_of_le (by unfold kidsF; omega)]
    rfl
  | m + 1, i, M + 1, h1, h2 => by
    have hc := ndi_get hx
    have hj : i < (kd (ndi l x1)).length := by omega
    have hg : (kidsF l x1)[i]? = some (kidsF l x1)[i] := List.getElem?_eq_getElem hj
    rw [drop_cons hg]
    generalize (kidsF l x1)[i] = k at hg
    have hg' : (ndi l x1).2.2.2.2.2.2.2.2.2.2.2.2.2[i]? = some k := hg
    have hj' : i < (ndi l x1).2.2.2.2.2.2.2.2.2.2.2.2.2.length := hj
    have hw : IntKind.i64.wrap ((i : Int) + 1) = ((i + 1 : Nat) : Int) := by rw [wrap64 (by omega)]; omega
    have hw2 : IntKind.i64.wrap (x1 - 1) = x1 - 1 := wrap64 (by omega)
    have hin : F_spec_l1In (n + 1) k 0 (x1 - 1) = some (decide (0 ≤ k ∧ k ≤ x1 - 1)) := by
      simp only [F_spec_l1In, T_spec_l1In, run_done, run_fail, run_ask, run_opt, run_inl, run_inr, Option.bind_some, apart_b, apart_i, apart_s]
      by_cases h : k ≥ 0 <;> simp [h]
    rw [List.all_cons]
    by_cases hr : 0 ≤ k ∧ k ≤ x1 - 1
    · have hck := ndi_get (l := l) (i := k) ⟨hr.1, by omega⟩
      have hkl : k < (l.length : Int) := by omega
      by_cases ha : (ndi l k).1 = 3
      · by_cases hcl : (ndi l x1).1 = 6
        · rw [loopF_inl (v' := (l.map encN, x1, ((i + 1 : Nat) : Int))) (by simp [-getElem?_pos, B_spec_FormulaOk_475, run_done, run_fail, run_ask, run_opt, run_inl, run_inr, Option.bind_some, apart_b, apart_i, apart_s, hc, hx, cell_n, celi_n, celi_0, cell_0, cell_1, cell_2, cell_3, cell_4, cell_5, cell_6, cell_7, cell_8, cell_9, cell_10, cell_11, cell_12, cell_13, hg', hj', hw, hw2, hin, hr, hck, hkl, ha, hcl])]
          rw [in_loop l x1 n hx hl hk m (i + 1) M (by omega) (by omega)]
          simp [hr, areaF, callF, ha, hcl]
        · rw [loopF_inr (r := .inl false) (by simp [-getElem?_pos, B_spec_FormulaOk_475, run_done, run_fail, run_ask, run_opt, run_inl, run_inr, Option.bind_some, apart_b, apart_i, apart_s, hc, hx, cell_n, celi_n, celi_0, cell_0, cell_1, cell_2, cell_3, cell_4, cell_5, cell_6, cell_7, cell_8, cell_9, cell_10, cell_11, cell_12, cell_13, hg', hj', hw, hw2, hin, hr, hck, hkl, ha, hcl])]
          simp [hr, areaF, callF, ha, hcl]
      · rw [loopF_inl (v' := (l.map encN, x1, ((i + 1 : Nat) : Int))) (by simp [-getElem?_pos, B_spec_FormulaOk_475, run_done, run_fail, run_ask, run_opt, run_inl, run_inr, Option.bind_some, apart_b, apart_i, apart_s, hc, hx, cell_n, celi_n, celi_0, cell_0, cell_1, cell_2, cell_3, cell_4, cell_5, cell_6, cell_7, cell_8, cell_9, cell_10, cell_11, cell_12, cell_13, hg', hj', hw, hw2, hin, hr, hck, hkl, ha])]
        rw [in_loop l x1 n hx hl hk m (i + 1) M (by omega) (by omega)]
        simp [hr, areaF, callF, ha]
    · rw [loopF_inr (r := .inl false) (by simp [-getElem?_pos, B_spec_FormulaOk_475, run_done, run_fail, run_ask, run_opt, run_inl, run_inr, Option.bind_some, apart_b, apart_i, apart_s, hc, hx, cell_n, celi_n, celi_0, cell_0, cell_1, cell_2, cell_3, cell_4, cell_5, cell_6, cell_7, cell_8, cell_9, cell_10, cell_11, cell_12, cell_13, hg', hj', hw2, hin, hr])]
      simp [hr]
def okNodes (l : List Nd) (i m : Nat) : Bool := (List.range' i m).all fun (i : Nat) => ownF l (i : Int) && inB l (i : Int)
theorem okNodes_iff {l : List Nd} : okNodes l 0 l.length = true ↔ ∀ i : Int, 0 ≤ i → i < l.length → ownF l i = true ∧ kidsIn (areaF l) (callF l) (kidsF l) i := by
  unfold okNodes
  rw [List.all_eq_true]
  constructor
  · intro h i h0 h1
    have := h i.toNat (by rw [List.mem_range']; exact ⟨i.toNat, by omega, by omega⟩)
    rw [show ((i.toNat : Nat) : Int) = i by omega, Bool.and_eq_true, inB_iff] at this
    exact this
  · intro h i hi
    rw [List.mem_range'] at hi
    obtain ⟨j, hj, rfl⟩ := hi
    rw [Bool.and_eq_true, inB_iff]
    exact h _ (by omega) (by omega)
theorem ok_loop (l : List Nd) (n : Nat) (hl : l.length ≤ 60) (hk : ∀ c ∈ l, (kd c).length ≤ 140737488351232) (hn : ∀ c ∈ l, (kd c).length + 2 ≤ n)
    (hok : ∀ c ∈ l, F_spec_l3NodeOk n c.1 c.2.1 c.2.2.1 c.2.2.2.1 c.2.2.2.2.1 c.2.2.2.2.2.1 c.2.2.2.2.2.2.1 c.2.2.2.2.2.2.2.1 c.2.2.2.2.2.2.2.2.1 c.2.2.2.2.2.2.2.2.2.1 c.2.2.2.2.2.2.2.2.2.2.1 c.2.2.2.2.2.2.2.2.2.2.2.1 c.2.2.2.2.2.2.2.2.2.2.2.2.1 ((c.2.2.2.2.2.2.2.2.2.2.2.2.2).map encI) = some (nodeB c)) :
    ∀ (m i M : Nat), l.length = i + m → m + 1 ≤ M →
      loopF (B_spec_FormulaOk_29 n) M (l.map encN, (i : Int)) = some (if okNodes l i m = true then .inr (l.map encN) else .inl false)
  | m, i, 0, h1, h2 => by omega
  | 0, i, M + 1, h1, h2 => by
    have hi : ¬ (i : Int) < (l.length : Int) := by omega
    rw [loopF_inr (r := .inr (l.map encN)) (by simp [-getElem?_pos, B_spec_FormulaOk_29, run_done, run_fail, run_ask, run_opt, run_inl, run_inr, Option.bind_some, apart_b, apart_i, apart_s, hi])]
    rfl
  | m + 1, i, M + 1, h1, h2 => by
    have hi : (i : Int) < (l.length : Int) := by omega
    have hx : 0 ≤ (i : Int) ∧ (i : Int) < l.length := ⟨by omega, hi⟩
    have hc := ndi_get hx
    have hm := ndi_mem hx
    have ho := hok _ hm
    have hw : IntKind.i64.wrap ((i : Int) + 1) = ((i + 1 : Nat) : Int) := by rw [wrap64 (by omega)]; omega
    have hnn := hn _ hm
    obtain ⟨q, rfl⟩ : ∃ q, n = q + 1 := ⟨n - 1, by omega⟩
    have hlp := in_loop l i q hx hl (hk _ hm) (kd (ndi l i)).length 0 (q + 1) (by omega) (by omega)
    rw [List.drop_zero, show ((kidsF l (i : Int)).all fun k => decide (0 ≤ k ∧ k ≤ (i : Int) - 1) && !(areaF l k && !callF l (i : Int))) = inB l i from rfl] at hlp
    simp only [Int.natCast_zero] at hlp
    have e : okNodes l i (m + 1) = (ownF l i && inB l i && okNodes l (i + 1) m) := by unfold okNodes; rw [List.range'_succ, List.all_cons]
    rw [e]
    rw [Int.toNat_natCast] at hc
    cases hnb : nodeB (ndi l i) with
    | false =>
      rw [hnb] at ho
      rw [loopF_inr (r := .inl false) (by simp [-getElem?_pos, B_spec_FormulaOk_29, run_done, run_fail, run_ask, run_opt, run_inl, run_inr, Option.bind_some, apart_b, apart_i, apart_s, hi, hc, cell_n, celi_n, celi_0, cell_0, cell_1, cell_2, cell_3, cell_4, cell_5, cell_6, cell_7, cell_8, cell_9, cell_10, cell_11, cell_12, cell_13, ho])]
      simp [ownF, hnb]
    | true =>
      rw [hnb] at ho
      cases hib : inB l i with
      | false =>
        rw [hib] at hlp
        rw [loopF_inr (r := .inl false) (by simp [-getElem?_pos, B_spec_FormulaOk_29, run_done, run_fail, run_ask, run_opt, run_inl, run_inr, Option.bind_some, apart_b, apart_i, apart_s, hi, hc, cell_n, celi_n, celi_0, cell_0, cell_1, cell_2, cell_3, cell_4, cell_5, cell_6, cell_7, cell_8, cell_9, cell_10, cell_11, cell_12, cell_13, ho, hlp])]
        simp
      | true =>
        rw [hib] at hlp
        rw [loopF_inl (v' := (l.map encN, ((i + 1 : Nat) : Int))) (by simp [-getElem?_pos, B_spec_FormulaOk_29, run_done, run_fail, run_ask, run_opt, run_inl, run_inr, Option.bind_some, apart_b, apart_i, apart_s, hi, hc, cell_n, celi_n, celi_0, cell_0, cell_1, cell_2, cell_3, cell_4, cell_5, cell_6, cell_7, cell_8, cell_9, cell_10, cell_11, cell_12, cell_13, ho, hlp, hw])]
        rw [ok_loop l (q + 1) hl hk hn hok m (i + 1) M (by omega) (by omega)]
        simp [ownF, hnb]
/-- a right formula -/
def formB (l : List Nd) : Bool := decide (1 ≤ l.length ∧ l.length ≤ 60) && (okNodes l 0 l.length && (decide (treeG (kidsF l) l.length ((l.length : Int) - 1) = 0) && (!areaF l ((l.length : Int) - 1) && decide (deepG (kidsF l) l.length ((l.length : Int) - 1) ≤ 12))))
theorem ev_spec_FormulaOk (l : List Nd) (hk : ∀ c ∈ l, (kd c).length ≤ 140737488351232 ∧ c.2.2.2.2.1.size ≤ 140737488351232) : Ev (F_spec_FormulaOk · (l.map encN)) (formB l) := by
  by_cases h1 : 1 ≤ l.length
  · by_cases h60 : l.length ≤ 60
    · have hk1 : ∀ c ∈ l, (kd c).length ≤ 140737488351232 := fun c hc => (hk c hc).1
      obtain ⟨n1, g1⟩ := ev_list (F := fun (c : Nd) n => F_spec_l3NodeOk n c.1 c.2.1 c.2.2.1 c.2.2.2.1 c.2.2.2.2.1 c.2.2.2.2.2.1 c.2.2.2.2.2.2.1 c.2.2.2.2.2.2.2.1 c.2.2.2.2.2.2.2.2.1 c.2.2.2.2.2.2.2.2.2.1 c.2.2.2.2.2.2.2.2.2.2.1 c.2.2.2.2.2.2.2.2.2.2.2.1 c.2.2.2.2.2.2.2.2.2.2.2.2.1 ((c.2.2.2.2.2.2.2.2.2.2.2.2.2).map encI)) (f := nodeB) l (fun c hc => ev_spec_l3NodeOk c (hk c hc).2)
      obtain ⟨n2, g2⟩ := ev_list (F := fun (c : Nd) n => if (kd c).length + 2 ≤ n then some () else none) (f := fun _ => ()) l (fun c hc => ⟨(kd c).length + 2, fun n hn => if_pos hn⟩)
      obtain ⟨n3, g3⟩ := ev_spec_l3Tree l (by omega) hk1 l.length ((l.length : Int) - 1) (by omega) (by omega) (by omega)
      obtain ⟨n4, g4⟩ : ∃ n0, okNodes l 0 l.length = true → ∀ n, n0 ≤ n → F_spec_l3Deep n (l.map encN) ((l.length : Int) - 1) = some (deepG (kidsF l) l.length ((l.length : Int) - 1)) := by
        by_cases ho : okNodes l 0 l.length = true
        · obtain ⟨n4, g4⟩ := ev_spec_l3Deep l h60 hk1 (fun (i : Int) h0 h1 => (okNodes_iff.1 ho i h0 h1).2) l.length ((l.length : Int) - 1) (by omega) (by omega) (by omega) (by omega)
          exact ⟨n4, fun _ => g4⟩
        · exact ⟨0, fun h => absurd h ho⟩
      refine ⟨n1 + n2 + n3 + n4 + l.length + 5, fun n hn => ?_⟩
      obtain ⟨m, rfl, hm⟩ := up1 hn
      have hlp := ok_loop l m h60 hk1 (fun c hc => by
        have := g2 m (by omega) c hc
        split at this
        · assumption
        · cases this) (g1 m (by omega)) l.length 0 m (by omega) (by omega)
      have g3 := g3 m (by omega)
      dsimp only at g3
      simp only [Int.natCast_zero] at hlp
      have hw : IntKind.i64.wrap ((l.length : Int) - 1) = (l.length : Int) - 1 := wrap64 (by omega)
      have hx : 0 ≤ (l.length : Int) - 1 ∧ (l.length : Int) - 1 < l.length := by omega
      have hc := ndi_get hx
      have a1 : ¬ (l.length : Int) < 1 := by omega
      have a2 : ¬ (l.length : Int) > 60 := by omega
      generalize hxe : (l.length : Int) - 1 = x at hw hx hc g3 g4 ⊢
      simp only [F_spec_FormulaOk, T_spec_FormulaOk, run_done, run_fail, run_ask, run_opt, run_inl, run_inr, Option.bind_some, apart_b, apart_i, apart_s, List.length_map, decide_eq_true_eq, a1, a2, if_false, hlp]
      unfold formB
      rw [hxe]
      cases ho : okNodes l 0 l.length with
      | false => simp [run_done, run_fail, run_ask, run_opt, run_inl, run_inr, Option.bind_some, apart_b, apart_i, apart_s]
      | true =>
        have g4 := g4 ho m (by omega)
        simp only [if_true, run_done, run_fail, run_ask, run_opt, run_inl, run_inr, Option.bind_some, apart_b, apart_i, apart_s, List.length_map, hxe, hw, g3]
        by_cases ht : treeG (kidsF l) l.length x = 0
        · by_cases ha : (ndi l x).1 = 3
          · simp [-getElem?_pos, run_done, run_fail, run_ask, run_opt, run_inl, run_inr, Option.bind_some, apart_b, apart_i, apart_s, ht, hx, hc, cell_n, celi_n, celi_0, cell_0, cell_1, cell_2, cell_3, cell_4, cell_5, cell_6, cell_7, cell_8, cell_9, cell_10, cell_11, cell_12, cell_13, ha, areaF]
          · simp [-getElem?_pos, run_done, run_fail, run_ask, run_opt, run_inl, run_inr, Option.bind_some, apart_b, apart_i, apart_s, ht, hx, hc, cell_n, celi_n, celi_0, cell_0, cell_1, cell_2, cell_3, cell_4, cell_5, cell_6, cell_7, cell_8, cell_9, cell_10, cell_11, cell_12, cell_13, ha, areaF, g4, h1, h60]
        · simp [-getElem?_pos, run_done, run_fail, run_ask, run_opt, run_inl, run_inr, Option.bind_some, apart_b, apart_i, apart_s, ht]
    · refine ⟨1, fun n hn => ?_⟩
      obtain ⟨m, rfl, hm⟩ := up1 (n0 := 0) hn
      have a1 : ¬ (l.length : Int) < 1 := by omega
      have a2 : (l.length : Int) > 60 := by omega
      simp [-getElem?_pos, F_spec_FormulaOk, T_spec_FormulaOk, run_done, run_fail, run_ask, run_opt, run_inl, run_inr, Option.bind_some, apart_b, apart_i, apart_s, a1, a2, formB, h60]
  · refine ⟨1, fun n hn => ?_⟩
    obtain ⟨m, rfl, hm⟩ := up1 (n0 := 0) hn
    have a1 : (l.length : Int) < 1 := by omega
    simp [-getElem?_pos, F_spec_FormulaOk, T_spec_FormulaOk, run_done, run_fail, run_ask, run_opt, run_inl, run_inr, Option.bind_some, apart_b, apart_i, apart_s, a1, formB, h1]
theorem from_loop (l : List Nd) (x1 d : Int) (f n : Nat) (hx : 0 ≤ x1 ∧ x1 < l.length) (hl : l.length ≤ 140737488351232) (hd : 0 ≤ d ∧ d ≤ 1000) (hk : (kd (ndi l x1)).length ≤ 140737488351232)
    (hrec : ∀ y : Int, 0 ≤ y → y < x1 → F_impl_from n (l.map encN) y (d + 1) = some (fromG (ownF l) (areaF l) (callF l) (kidsF l) f y)) :
    ∀ (j M : Nat) (s : Int), j ≤ (kd (ndi l x1)).length → j + 1 ≤ M → 0 ≤ s → s ≤ x1 →
      loopF (B_impl_from_61 (F_impl_from n) n) M (l.map encN, x1, d, s, (j : Int) - 1) = some (.inr (goF (areaF l) (callF l) (fromG (ownF l) (areaF l) (callF l) (kidsF l) f) x1 ((kidsF l x1).take j).reverse s)) ∨
      (loopF (B_impl_from_61 (F_impl_from n) n) M (l.map encN, x1, d, s, (j : Int) - 1) = some (.inl (-1)) ∧ goF (areaF l) (callF l) (fromG (ownF l) (areaF l) (callF l) (kidsF l) f) x1 ((kidsF l x1).take j).reverse s = -1)
  | 0, 0, s, h1, h2, h3, h4 => by omega
  | 0, M + 1, s, h1, h2, h3, h4 => by
    refine .inl ?_
    rw [loopF_inr (r := .inr s) (by simp [-getElem?_pos, B_impl_from_61, run_done, run_fail, run_ask, run_opt, run_inl, run_inr, Option.bind_some, apart_b, apart_i, apart_s])]
    simp [goF]
  | j + 1, 0, s, h1, h2, h3, h4 => by omega
  | j + 1, M + 1, s, h1, h2, h3, h4 => by
    have hc := ndi_get hx
    have hj : j < (kd (ndi l x1)).length := by omega
    have hg : (kidsF l x1)[j]? = some (kidsF l x1)[j] := List.getElem?_eq_getElem hj
    have ih := from_loop l x1 d f n hx hl hd hk hrec j M
    rw [take_rev hg]
    generalize (kidsF l x1)[j] = k at hg
    have hi : (((j + 1 : Nat) : Int) - 1) = (j : Int) := by omega
    rw [hi, goF]
    have hg' : (ndi l x1).2.2.2.2.2.2.2.2.2.2.2.2.2[j]? = some k := hg
    have hj' : j < (ndi l x1).2.2.2.2.2.2.2.2.2.2.2.2.2.length := hj
    have hws : IntKind.i64.wrap (s - 1) = s - 1 := wrap64 (by omega)
    by_cases hks : k = s - 1
    · by_cases hk0 : k < 0
      · refine .inr ⟨?_, by rw [if_pos (.inr (.inl hk0))]⟩
        rw [loopF_inr (r := .inl (-1)) (by simp [-getElem?_pos, B_impl_from_61, run_done, run_fail, run_ask, run_opt, run_inl, run_inr, Option.bind_some, apart_b, apart_i, apart_s, hc, hx, cell_n, celi_n, celi_0, cell_0, cell_1, cell_2, cell_3, cell_4, cell_5, cell_6, cell_7, cell_8, cell_9, cell_10, cell_11, cell_12, cell_13, hg', hj', hks, hws, show s - 1 < 0 by omega])]
      · have hws' : IntKind.i64.wrap (s - 1) = k := by rw [hws, hks]
        have hkx : 0 ≤ k ∧ k < l.length := by omega
        have hck := ndi_get hkx
        by_cases hac : areaF l k = true ∧ callF l x1 = false
        · have ha : (ndi l k).1 = 3 := by simpa [areaF] using hac.1
          have hb : ¬ (ndi l x1).1 = 6 := by simpa [callF] using hac.2
          refine .inr ⟨?_, by rw [if_pos (.inr (.inr hac))]⟩
          rw [loopF_inr (r := .inl (-1)) (by simp [-getElem?_pos, B_impl_from_61, run_done, run_fail, run_ask, run_opt, run_inl, run_inr, Option.bind_some, apart_b, apart_i, apart_s, hc, hx, cell_n, celi_n, celi_0, cell_0, cell_1, cell_2, cell_3, cell_4, cell_5, cell_6, cell_7, cell_8, cell_9, cell_10, cell_11, cell_12, cell_13, hg', hj', hws', hk0, hck, hkx, ha, hb])]
        · have hr := hrec k (by omega) (by omega)
          have hwd : IntKind.i64.wrap (d + 1) = d + 1 := wrap64 (by omega)
          have hw2 : IntKind.i64.wrap ((j : Int) - 1) = (j : Int) - 1 := wrap64 (by omega)
          have hno : ¬ (k ≠ s - 1 ∨ k < 0 ∨ (areaF l k = true ∧ callF l x1 = false)) := fun h => by
            rcases h with h | h | h
            · exact h hks
            · exact hk0 h
            · exact hac h
          have hcase : ¬ (ndi l k).1 = 3 ∨ ((ndi l k).1 = 3 ∧ (ndi l x1).1 = 6) := by
            by_cases ha : (ndi l k).1 = 3
            · refine .inr ⟨ha, ?_⟩
              refine Decidable.byContradiction fun hb => hac ⟨by simp [areaF, ha], by simp [callF, hb]⟩
            · exact .inl ha
          rw [if_neg hno]
          by_cases ht : fromG (ownF l) (areaF l) (callF l) (kidsF l) f k < 0
          · refine .inr ⟨?_, by rw [if_pos ht]⟩
            rcases hcase with ha | ⟨ha, hb⟩
            · rw [loopF_inr (r := .inl (-1)) (by simp [-getElem?_pos, B_impl_from_61, run_done, run_fail, run_ask, run_opt, run_inl, run_inr, Option.bind_some, apart_b, apart_i, apart_s, hc, hx, cell_n, celi_n, celi_0, cell_0, cell_1, cell_2, cell_3, cell_4, cell_5, cell_6, cell_7, cell_8, cell_9, cell_10, cell_11, cell_12, cell_13, hg', hj', hws', hk0, hck, hkx, ha, hwd, hr, ht])]
            · rw [loopF_inr (r := .inl (-1)) (by simp [-getElem?_pos, B_impl_from_61, run_done, run_fail, run_ask, run_opt, run_inl, run_inr, Option.bind_some, apart_b, apart_i, apart_s, hc, hx, cell_n, celi_n, celi_0, cell_0, cell_1, cell_2, cell_3, cell_4, cell_5, cell_6, cell_7, cell_8, cell_9, cell_10, cell_11, cell_12, cell_13, hg', hj', hws', hk0, hck, hkx, ha, hb, hwd, hr, ht])]
          · rw [if_neg ht]
            have hb1 := (from_ok (ownF l) (areaF l) (callF l) (kidsF l) f (k.toNat + 1) k (by omega) (by omega) (by omega)).1
            have hstep : loopF (B_impl_from_61 (F_impl_from n) n) (M + 1) (l.map encN, x1, d, s, (j : Int)) = loopF (B_impl_from_61 (F_impl_from n) n) M (l.map encN, x1, d, fromG (ownF l) (areaF l) (callF l) (kidsF l) f k, (j : Int) - 1) := by
              rcases hcase with ha | ⟨ha, hb⟩
              · rw [loopF_inl (v' := (l.map encN, x1, d, fromG (ownF l) (areaF l) (callF l) (kidsF l) f k, (j : Int) - 1)) (by simp [-getElem?_pos, B_impl_from_61, run_done, run_fail, run_ask, run_opt, run_inl, run_inr, Option.bind_some, apart_b, apart_i, apart_s, hc, hx, cell_n, celi_n, celi_0, cell_0, cell_1, cell_2, cell_3, cell_4, cell_5, cell_6, cell_7, cell_8, cell_9, cell_10, cell_11, cell_12, cell_13, hg', hj', hws', hk0, hck, hkx, ha, hwd, hr, ht, hw2])]
              · rw [loopF_inl (v' := (l.map encN, x1, d, fromG (ownF l) (areaF l) (callF l) (kidsF l) f k, (j : Int) - 1)) (by simp [-getElem?_pos, B_impl_from_61, run_done, run_fail, run_ask, run_opt, run_inl, run_inr, Option.bind_some, apart_b, apart_i, apart_s, hc, hx, cell_n, celi_n, celi_0, cell_0, cell_1, cell_2, cell_3, cell_4, cell_5, cell_6, cell_7, cell_8, cell_9, cell_10, cell_11, cell_12, cell_13, hg', hj', hws', hk0, hck, hkx, ha, hb, hwd, hr, ht, hw2])]
            rw [hstep]
            exact ih _ (by omega) (by omega) (by omega) (by omega)
    · refine .inr ⟨?_, by rw [if_pos (.inl hks)]⟩
      rw [loopF_inr (r := .inl (-1)) (by simp [-getElem?_pos, B_impl_from_61, run_done, run_fail, run_ask, run_opt, run_inl, run_inr, Option.bind_some, apart_b, apart_i, apart_s, hc, hx, cell_n, celi_n, celi_0, cell_0, cell_1, cell_2, cell_3, cell_4, cell_5, cell_6, cell_7, cell_8, cell_9, cell_10, cell_11, cell_12, cell_13, hg', hj', hws, hks])]
theorem ev_impl_from (l : List Nd) (hl : l.length ≤ 140737488351232) (hk : ∀ c ∈ l, (kd c).length ≤ 140737488351232 ∧ c.2.2.2.2.1.size ≤ 140737488351232) : ∀ (f : Nat) (x d : Int), x < l.length → d = 12 - f → 0 ≤ d → Ev (F_impl_from · (l.map encN) x d) (fromG (ownF l) (areaF l) (callF l) (kidsF l) f x)
  | 0, x, d, h1, h2, h3 => by
    refine ⟨1, fun n hn => ?_⟩
    obtain ⟨m, rfl, hm⟩ := up1 (n0 := 0) hn
    have a : d ≥ 12 := by omega
    by_cases h : x < 0 <;> simp [-getElem?_pos, F_impl_from, T_impl_from, run_done, run_fail, run_ask, run_opt, run_inl, run_inr, Option.bind_some, apart_b, apart_i, apart_s, h, a, fromG]
  | f + 1, x, d, h1, h2, h3 => by
    by_cases h0 : x < 0
    · refine ⟨1, fun n hn => ?_⟩
      obtain ⟨m, rfl, hm⟩ := up1 (n0 := 0) hn
      simp [-getElem?_pos, F_impl_from, T_impl_from, run_done, run_fail, run_ask, run_opt, run_inl, run_inr, Option.bind_some, apart_b, apart_i, apart_s, h0, fromG]
    · have hx : 0 ≤ x ∧ x < l.length := by omega
      have hc := ndi_get hx
      have hm' := ndi_mem hx
      obtain ⟨n0, hn0⟩ := ev_below (F := fun y n => F_impl_from n (l.map encN) y (d + 1)) (f := fun y => fromG (ownF l) (areaF l) (callF l) (kidsF l) f y) x (fun y h3 h4 => ev_impl_from l hl hk f y (d + 1) (by omega) (by omega) (by omega))
      obtain ⟨n1, g1⟩ := ev_impl_isOwn (ndi l x) (hk _ hm').2
      refine ⟨n0 + n1 + (kd (ndi l x)).length + 5, fun n hn => ?_⟩
      obtain ⟨m, rfl, hm⟩ := up1 hn
      have g1 := g1 m (by omega)
      have h := from_loop l x d f m hx hl (by omega) (hk _ hm').1 (hn0 m (by omega)) (kd (ndi l x)).length m x (Nat.le_refl _) (by omega) (by omega) (by omega)
      have e : (kidsF l x).take (kd (ndi l x)).length = kidsF l x := List.take_length
      rw [e] at h
      have hw2 : IntKind.i64.wrap (((kd (ndi l x)).length : Int) - 1) = ((kd (ndi l x)).length : Int) - 1 := by
        have := (hk _ hm').1
        exact wrap64 (by omega)
      have a : ¬ d ≥ 12 := by omega
      unfold kd at h hw2
      dsimp only at g1 ⊢
      simp only [F_impl_from, T_impl_from, fromG, run_done, run_fail, run_ask, run_opt, run_inl, run_inr, Option.bind_some, apart_b, apart_i, apart_s]
      cases hnb : nodeB (ndi l x) with
      | false =>
        rw [hnb] at g1
        simp [-getElem?_pos, run_done, run_fail, run_ask, run_opt, run_inl, run_inr, Option.bind_some, apart_b, apart_i, apart_s, h0, a, hc, hx, cell_n, celi_n, celi_0, cell_0, cell_1, cell_2, cell_3, cell_4, cell_5, cell_6, cell_7, cell_8, cell_9, cell_10, cell_11, cell_12, cell_13, g1, ownF, hnb]
      | true =>
        rw [hnb] at g1
        rcases h with h | ⟨h, h'⟩
        · simp [-getElem?_pos, run_done, run_fail, run_ask, run_opt, run_inl, run_inr, Option.bind_some, apart_b, apart_i, apart_s, h0, a, hc, hx, cell_n, celi_n, celi_0, cell_0, cell_1, cell_2, cell_3, cell_4, cell_5, cell_6, cell_7, cell_8, cell_9, cell_10, cell_11, cell_12, cell_13, g1, ownF, hnb, hw2, h]
        · simp only [h']
          simp [-getElem?_pos, run_done, run_fail, run_ask, run_opt, run_inl, run_inr, Option.bind_some, apart_b, apart_i, apart_s, h0, a, hc, hx, cell_n, celi_n, celi_0, cell_0, cell_1, cell_2, cell_3, cell_4, cell_5, cell_6, cell_7, cell_8, cell_9, cell_10, cell_11, cell_12, cell_13, g1, ownF, hnb, hw2, h]
theorem form_iff {l : List Nd} : formB l = (decide (1 ≤ l.length ∧ l.length ≤ 60) && (!areaF l ((l.length : Int) - 1) && decide (fromG (ownF l) (areaF l) (callF l) (kidsF l) 12 ((l.length : Int) - 1) = 0))) := by
  rw [Bool.eq_iff_iff]
  unfold formB
  simp only [Bool.and_eq_true, decide_eq_true_eq]
  constructor
  · intro ⟨h1, h2, h3, h4, h5⟩
    refine ⟨h1, h4, ?_⟩
    rw [from_of (ownF l) (areaF l) (callF l) (kidsF l) 12 l.length l.length ((l.length : Int) - 1) (by omega) (by omega) (by omega) (fun i i0 i1 => okNodes_iff.1 h2 i i0 (by omega)) (by omega) (by simpa using h5)]
    exact h3
  · intro ⟨h1, h4, h5⟩
    obtain ⟨b1, b2, b3, b4⟩ := from_ok (ownF l) (areaF l) (callF l) (kidsF l) 12 l.length ((l.length : Int) - 1) (by omega) (by omega) (by omega)
    rw [h5] at b2 b3
    refine ⟨h1, okNodes_iff.2 (fun i i0 i1 => b3 i i0 (by omega)), b2, h4, ?_⟩
    have := b4 l.length (fun i i0 i1 => (b3 i i0 i1).2) (by omega)
    simpa using this
theorem ev_impl_FormulaOk (l : List Nd) (hl : l.length ≤ 140737488351232) (hk : ∀ c ∈ l, (kd c).length ≤ 140737488351232 ∧ c.2.2.2.2.1.size ≤ 140737488351232) : Ev (F_impl_FormulaOk · (l.map encN)) (formB l) := by
  rw [form_iff]
  by_cases h : 1 ≤ l.length ∧ l.length ≤ 60
  · obtain ⟨n1, g1⟩ := ev_impl_from l hl hk 12 ((l.length : Int) - 1) 0 (by omega) (by omega) (by omega)
    obtain ⟨n2, g2⟩ := ev_impl_within (l.length : Int) 1 60
    refine ⟨n1 + n2 + 1, fun n hn => ?_⟩
    obtain ⟨m, rfl, hm⟩ := up1 hn
    have g1 := g1 m (by omega)
    have g2 := g2 m (by omega)
    dsimp only at g1 g2 ⊢
    have hw : IntKind.i64.wrap ((l.length : Int) - 1) = (l.length : Int) - 1 := wrap64 (by omega)
    have hx : 0 ≤ (l.length : Int) - 1 ∧ (l.length : Int) - 1 < l.length := by omega
    have hc := ndi_get hx
    have h' : (1 : Int) ≤ l.length ∧ (l.length : Int) ≤ 60 := by omega
    generalize hxe : (l.length : Int) - 1 = x at hw hx hc g1 ⊢
    by_cases ha : (ndi l x).1 = 3
    · simp [-getElem?_pos, F_impl_FormulaOk, T_impl_FormulaOk, run_done, run_fail, run_ask, run_opt, run_inl, run_inr, Option.bind_some, apart_b, apart_i, apart_s, hxe, g2, h', hw, hx, hc, cell_n, celi_n, celi_0, cell_0, cell_1, cell_2, cell_3, cell_4, cell_5, cell_6, cell_7, cell_8, cell_9, cell_10, cell_11, cell_12, cell_13, ha, areaF]
    · by_cases hf : fromG (ownF l) (areaF l) (callF l) (kidsF l) 12 x = 0 <;> simp [-getElem?_pos, F_impl_FormulaOk, T_impl_FormulaOk, run_done, run_fail, run_ask, run_opt, run_inl, run_inr, Option.bind_some, apart_b, apart_i, apart_s, hxe, g1, g2, h, h', hw, hx, hc, cell_n, celi_n, celi_0, cell_0, cell_1, cell_2, cell_3, cell_4, cell_5, cell_6, cell_7, cell_8, cell_9, cell_10, cell_11, cell_12, cell_13, ha, areaF, hf]
  · obtain ⟨n2, g2⟩ := ev_impl_within (l.length : Int) 1 60
    refine ⟨n2 + 1, fun n hn => ?_⟩
    obtain ⟨m, rfl, hm⟩ := up1 hn
    have g2 := g2 m (by omega)
    dsimp only at g2 ⊢
    have h' : ¬ ((1 : Int) ≤ l.length ∧ (l.length : Int) ≤ 60) := by omega
    simp [-getElem?_pos, F_impl_FormulaOk, T_impl_FormulaOk, run_done, run_fail, run_ask, run_opt, run_inl, run_inr, Option.bind_some, apart_b, apart_i, apart_s, g2, h, h']
theorem law (rows : List (List PV)) (w : rows.length * 120 ≤ 140737488351232 ∧ ∀ r ∈ rows, okR [.i .i64, .i .i64, .i .i64, .i .i64, .s, .i .i64, .i .i64, .b, .b, .i .i64, .i .i64, .b, .b, .sl 8 [.i .i64]] r) : Ev (F_laws_FnExactFormulaOk · rows) true := by
  obtain ⟨l, rfl, hs⟩ := rows_nd w.2
  have hl : l.length * 120 ≤ 140737488351232 := by simpa using w.1
  have hk : ∀ c ∈ l, (kd c).length ≤ 140737488351232 ∧ c.2.2.2.2.1.size ≤ 140737488351232 := fun c hc => ⟨by have := (hs c hc).2; omega, (hs c hc).1⟩
  obtain ⟨n1, h1⟩ := ev_laws_toFNodeS l hl (fun c hc => (hs c hc).2)
  obtain ⟨n2, h2⟩ := ev_spec_FormulaOk l hk
  obtain ⟨n3, h3⟩ := ev_impl_FormulaOk l (by omega) hk
  obtain ⟨n4, h4⟩ := ev_laws_eqFNodeS l (by omega) (fun c hc => (hk c hc).1)
  refine ⟨n1 + n2 + n3 + n4 + l.length + 8, fun n hn => ?_⟩
  obtain ⟨m, rfl, hm⟩ := up1 hn
  obtain ⟨r, hr⟩ := ev_laws_szFNodeS l (by omega) 1048576 m (by omega)
  have h1 := h1 m (by omega)
  have h2 := h2 m (by omega)
  have h3 := h3 m (by omega)
  have h4 := h4 m (by omega)
  dsimp only at h1 h2 h3 h4
  simp only [F_laws_FnExactFormulaOk, T_laws_FnExactFormulaOk, run_done, run_fail, run_ask, run_opt, run_inl, run_inr, Option.bind_some, apart_b, apart_i, apart_s, hr, h1, h2, h3, h4]
  split
  · rfl
  · simp
end Go.Proofs.Ytaannlnlddbgdab.KFnExactFormulaOk
