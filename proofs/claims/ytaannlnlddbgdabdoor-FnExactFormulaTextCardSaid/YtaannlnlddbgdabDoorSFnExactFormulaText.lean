/-
  What the functions that FnExactFormulaText calls answer, said of their trees. No condition beside those that stand in the statements.
-/
import Derived.Test.YtaannlnlddbgdabDoorTFnExactFormulaText
import Derived.Test.YtaannlnlddbgdabDoorE32
import Derived.Lib.Strings
namespace Go.Proofs.YtaannlnlddbgdabDoor.KFnExactFormulaText
open Go.Eng
set_option linter.unusedVariables false
set_option linter.unusedSimpArgs false
def Ev {R : Type} (F : Nat → Option R) (r : R) : Prop := ∃ n0, ∀ n, n0 ≤ n → F n = some r
theorem tl_len (s : ByteArray) : s.toList.length = s.size := by rw [Go.Lib.toList_data]; rfl
theorem toList_nil : (ByteArray.mk #[]).toList = [] := by decide +kernel
theorem wf64 {x : Int} (h : (Lit.int .i64 x).wf = true) : -9223372036854775808 ≤ x ∧ x ≤ 9223372036854775807 := by
  simp only [Lit.wf, Bool.and_eq_true, decide_eq_true_eq] at h
  have h1 : IntKind.i64.min = -9223372036854775808 := by decide
  have h2 : IntKind.i64.max = 9223372036854775807 := by decide
  omega
theorem wrap64 {x : Int} (h : -9223372036854775808 ≤ x ∧ x ≤ 9223372036854775807) : IntKind.i64.wrap x = x := by
  unfold IntKind.wrap
  have e1 : (2 : Int) ^ (64 - 1) = 9223372036854775808 := by decide
  have e2 : (2 : Int) ^ 64 = 18446744073709551616 := by decide
  simp only [IntKind.signed, IntKind.bits, Bool.true_and, decide_eq_true_eq, e1, e2]
  split <;> omega
theorem wrap64_in (x : Int) : -9223372036854775808 ≤ IntKind.i64.wrap x ∧ IntKind.i64.wrap x ≤ 9223372036854775807 := by
  unfold IntKind.wrap
  have e1 : (2 : Int) ^ (64 - 1) = 9223372036854775808 := by decide
  have e2 : (2 : Int) ^ 64 = 18446744073709551616 := by decide
  simp only [IntKind.signed, IntKind.bits, Bool.true_and, decide_eq_true_eq, e1, e2]
  split <;> omega
theorem get_of_lt {s : ByteArray} {i : Nat} (h : i < s.size) : ∃ c, s.toList[i]? = some c := ⟨_, List.getElem?_eq_getElem (by rw [tl_len]; exact h)⟩
theorem drop_cons {α : Type} {s : List α} {i : Nat} {c : α} (h : s[i]? = some c) : s.drop i = c :: s.drop (i + 1) := by
  obtain ⟨h1, rfl⟩ := List.getElem?_eq_some_iff.1 h
  exact List.drop_eq_getElem_cons h1
theorem loopF_inl {V R : Type} {B : V → Tr (V ⊕ R)} {m : Nat} {v v' : V} (h : (B v).run = some (.inl v')) : loopF B (m + 1) v = loopF B m v' := by simp only [loopF, h]
theorem loopF_inr {V R : Type} {B : V → Tr (V ⊕ R)} {m : Nat} {v : V} {r : R} (h : (B v).run = some (.inr r)) : loopF B (m + 1) v = some r := by simp only [loopF, h]
theorem up1 {n n0 : Nat} (h : n0 + 1 ≤ n) : ∃ m, n = m + 1 ∧ n0 ≤ m := ⟨n - 1, by omega, by omega⟩
theorem run_done {α : Type} (x : α) : (Tr.done x).run = some x := rfl
theorem run_fail {α : Type} : (Tr.fail : Tr α).run = none := rfl
theorem run_ask {α : Type} (b : Bool) (t f : Tr α) : (Tr.ask b t f).run = if b = true then t.run else f.run := by cases b <;> rfl
theorem run_opt {α β : Type} (o : Option β) (k : β → Tr α) : (Tr.opt o k).run = o.bind fun x => (k x).run := by cases o <;> rfl
theorem run_inl {α β γ : Type} (x : β) (k : β → Tr α) (l : γ → Tr α) : (Tr.alt (.inl x) k l).run = (k x).run := rfl
theorem run_inr {α β γ : Type} (x : γ) (k : β → Tr α) (l : γ → Tr α) : (Tr.alt (.inr x) k l).run = (l x).run := rfl
theorem ev_list {α R : Type} {F : α → Nat → Option R} {f : α → R} : ∀ (l : List α), (∀ c ∈ l, Ev (F c) (f c)) → ∃ n0, ∀ n, n0 ≤ n → ∀ c ∈ l, F c n = some (f c)
  | [], _ => ⟨0, fun n _ c hc => by cases hc⟩
  | a :: l, h => by
    obtain ⟨n1, h1⟩ := h a (List.mem_cons_self ..)
    obtain ⟨n2, h2⟩ := ev_list l fun c hc => h c (List.mem_cons_of_mem _ hc)
    exact ⟨n1 + n2, fun n hn c hc => by
      rcases List.mem_cons.1 hc with rfl | hc
      · exact h1 n (by omega)
      · exact h2 n (by omega) c hc⟩
/-- a list that is written anew, place by place -/
theorem conv_loop {R : Type} {B : List (List PV) × Nat × Int × List (List PV) → Tr ((List (List PV) × Nat × Int × List (List PV)) ⊕ R)} {rows : List (List PV)} {z : List PV} {r : List (List PV) → R}
    (hs : ∀ (i : Nat) (acc : List (List PV)) (e : List PV), rows[i]? = some e → acc.length = rows.length → acc[i]? = some z → (B (rows, rows.length, (i : Int), acc)).run = some (.inl (rows, rows.length, ((i + 1 : Nat) : Int), acc.set i e)))
    (he : ∀ acc : List (List PV), acc.length = rows.length → (B (rows, rows.length, (rows.length : Int), acc)).run = some (.inr (r acc))) :
    ∀ (m i M : Nat), rows.length = i + m → m + 1 ≤ M → loopF B M (rows, rows.length, (i : Int), rows.take i ++ zrows z m) = some (r rows)
  | m, i, 0, h1, h2 => by omega
  | 0, i, M + 1, h1, h2 => by
    have hi : i = rows.length := by omega
    subst hi
    have e : rows.take rows.length ++ zrows z 0 = rows := by simp [zrows]
    rw [e, loopF_inr (he rows rfl)]
  | m + 1, i, M + 1, h1, h2 => by
    have hl : i < rows.length := by omega
    have hg := List.getElem?_eq_getElem hl
    have hlen : (rows.take i ++ zrows z (m + 1)).length = rows.length := by simp [zrows]; omega
    have hz : (rows.take i ++ zrows z (m + 1))[i]? = some z := by
      rw [List.getElem?_append_right (by simp; omega)]
      simp [zrows, Nat.min_eq_left (Nat.le_of_lt hl)]
    rw [loopF_inl (hs i _ _ hg hlen hz)]
    have e : (rows.take i ++ zrows z (m + 1)).set i rows[i] = rows.take (i + 1) ++ zrows z m := by
      have hx : zrows z (m + 1) = z :: zrows z m := by simp [zrows, List.replicate_succ]
      rw [hx, List.set_append_right (h := by simp; omega)]
      have : i - (rows.take i).length = 0 := by simp; omega
      rw [this, List.set_cons_zero, show rows.take (i + 1) = rows.take i ++ [rows[i]] from by rw [List.take_add_one, hg]; rfl, List.append_assoc]
      rfl
    rw [e]
    exact conv_loop hs he m (i + 1) M (by omega) (by omega)
theorem conv_all {R : Type} {B : List (List PV) × Nat × Int × List (List PV) → Tr ((List (List PV) × Nat × Int × List (List PV)) ⊕ R)} {rows : List (List PV)} {z : List PV} {r : List (List PV) → R} {M : Nat}
    (hs : ∀ (i : Nat) (acc : List (List PV)) (e : List PV), rows[i]? = some e → acc.length = rows.length → acc[i]? = some z → (B (rows, rows.length, (i : Int), acc)).run = some (.inl (rows, rows.length, ((i + 1 : Nat) : Int), acc.set i e)))
    (he : ∀ acc : List (List PV), acc.length = rows.length → (B (rows, rows.length, (rows.length : Int), acc)).run = some (.inr (r acc))) (hM : rows.length + 1 ≤ M) :
    loopF B M (rows, rows.length, 0, zrows z rows.length) = some (r rows) := by
  have := conv_loop (B := B) hs he rows.length 0 M (by omega) hM
  simpa using this
/-- a list held against itself -/
theorem eq_loop {R : Type} {B : List (List PV) × List (List PV) × Int → Tr ((List (List PV) × List (List PV) × Int) ⊕ R)} {rows : List (List PV)} {r : R}
    (hs : ∀ (i : Nat) (e : List PV), rows[i]? = some e → (B (rows, rows, (i : Int))).run = some (.inl (rows, rows, ((i + 1 : Nat) : Int)))) (he : (B (rows, rows, (rows.length : Int))).run = some (.inr r)) :
    ∀ (m i M : Nat), rows.length = i + m → m + 1 ≤ M → loopF B M (rows, rows, (i : Int)) = some r
  | m, i, 0, h1, h2 => by omega
  | 0, i, M + 1, h1, h2 => by
    have hi : i = rows.length := by omega
    subst hi
    rw [loopF_inr he]
  | m + 1, i, M + 1, h1, h2 => by
    have hg := List.getElem?_eq_getElem (l := rows) (i := i) (by omega)
    rw [loopF_inl (hs i _ hg)]
    exact eq_loop hs he m (i + 1) M (by omega) (by omega)
/-- a list's size, as far as it is not too great -/
theorem sz_loop {R : Type} {B : List (List PV) × Int × Int → Tr ((List (List PV) × Int × Int) ⊕ R)} {rows : List (List PV)}
    (hs : ∀ (i : Nat) (e : List PV) (x : Int), rows[i]? = some e → (∃ y, (B (rows, x, (i : Int))).run = some (.inl (rows, y, ((i + 1 : Nat) : Int)))) ∨ ∃ r, (B (rows, x, (i : Int))).run = some (.inr r)) (he : ∀ x, ∃ r, (B (rows, x, (rows.length : Int))).run = some (.inr r)) :
    ∀ (m i M : Nat) (x : Int), rows.length = i + m → m + 1 ≤ M → ∃ r, loopF B M (rows, x, (i : Int)) = some r
  | m, i, 0, x, h1, h2 => by omega
  | 0, i, M + 1, x, h1, h2 => by
    have hi : i = rows.length := by omega
    subst hi
    obtain ⟨r, hr⟩ := he x
    exact ⟨r, loopF_inr hr⟩
  | m + 1, i, M + 1, x, h1, h2 => by
    have hg := List.getElem?_eq_getElem (l := rows) (i := i) (by omega)
    rcases hs i _ x hg with ⟨y, hy⟩ | ⟨r, hr⟩
    · rw [loopF_inl hy]
      exact sz_loop hs he m (i + 1) M y (by omega) (by omega)
    · exact ⟨r, loopF_inr hr⟩
/-- rows of a shape, as a list of what stands in them -/
theorem rows_map {α : Type} {enc : α → List PV} {P : α → Prop} {sh : List Sh} (hd : ∀ e, okR sh e → ∃ a, e = enc a ∧ P a) : ∀ {rows : List (List PV)}, (∀ e ∈ rows, okR sh e) → ∃ l : List α, rows = l.map enc ∧ ∀ a ∈ l, P a
  | [], _ => ⟨[], rfl, fun a h => by cases h⟩
  | e :: rows, h => by
    obtain ⟨a, rfl, ha⟩ := hd e (h e (List.mem_cons_self ..))
    obtain ⟨l, rfl, hl⟩ := rows_map hd fun e he => h e (List.mem_cons_of_mem _ he)
    exact ⟨a :: l, rfl, fun b hb => by
      rcases List.mem_cons.1 hb with rfl | hb
      · exact ha
      · exact hl b hb⟩
theorem opt_eq {α β : Type} {o : Option β} {x : β} {k : β → Tr α} {y : Option α} (h : o = some x) (h2 : (k x).run = y) : (Tr.opt o k).run = y := by rw [h]; exact h2
theorem ask_t {α : Type} {b : Bool} {t f : Tr α} {y : Option α} (h : b = true) (h2 : t.run = y) : (Tr.ask b t f).run = y := by rw [h]; exact h2
theorem ask_f {α : Type} {b : Bool} {t f : Tr α} {y : Option α} (h : b = false) (h2 : f.run = y) : (Tr.ask b t f).run = y := by rw [h]; exact h2
theorem apart_b (b : Bool) : apartR (⟨(.c (.p (.b b))), [], []⟩ : Res) = true := rfl
theorem apart_i (x : Int) : apartR (⟨(.c (.p (.i .i64 x))), [], []⟩ : Res) = true := rfl
theorem apart_s (x : ByteArray) : apartR (⟨(.c (.p (.s x))), [], []⟩ : Res) = true := rfl
theorem ev_spec_l1In (x lo hi : Int) : Ev (F_spec_l1In · x lo hi) (decide (lo ≤ x ∧ x ≤ hi)) := by
  refine ⟨1, fun n hn => ?_⟩
  obtain ⟨m, rfl, hm⟩ := up1 hn
  simp only [F_spec_l1In, T_spec_l1In, run_done, run_fail, run_ask, run_opt, run_inl, run_inr, Option.bind_some, apart_b, apart_i, apart_s]
  by_cases h : x ≥ lo <;> simp [h]
theorem ev_impl_within (x lo hi : Int) : Ev (F_impl_within · x lo hi) (decide (lo ≤ x ∧ x ≤ hi)) := by
  refine ⟨1, fun n hn => ?_⟩
  obtain ⟨m, rfl, hm⟩ := up1 hn
  simp only [F_impl_within, T_impl_within, run_done, run_fail, run_ask, run_opt, run_inl, run_inr, Option.bind_some, apart_b, apart_i, apart_s]
  by_cases h : x ≥ lo <;> simp [h]
/-- the bytes from 32 to 126 -/
def okc (c : UInt8) : Bool := decide (32 ≤ c.toNat ∧ c.toNat ≤ 126)
def plainN (s : ByteArray) (most : Int) : Bool := s.toList.all okc && decide ((s.size : Int) ≤ most)
def okV (k n : Int) (s : ByteArray) : Bool :=
  if k = 2 then decide (n = 0) && plainN s 200 else (s.toList == []) && (if k = 0 then decide (n = 0) else if k = 1 then decide (-1000000000000000 ≤ n ∧ n ≤ 1000000000000000) else if k = 3 then decide (0 ≤ n ∧ n ≤ 1) else if k = 4 then decide (1 ≤ n ∧ n ≤ 5) else false)
theorem l2Plain_loop (n : Nat) (s : ByteArray) (hb : s.size ≤ 140737488351232) : ∀ (m i M : Nat), s.size = i + m → m + 1 ≤ M →
    loopF (B_spec_l2Plain_13 n) M (s, (i : Int)) = some (if (s.toList.drop i).all okc then .inr s else .inl false)
  | m, i, 0, h1, h2 => by omega
  | 0, i, M + 1, h1, h2 => by
    rw [loopF_inr (r := .inr s) (by simp [B_spec_l2Plain_13, run_done, run_fail, run_ask, run_opt, run_inl, run_inr, Option.bind_some, apart_b, apart_i, apart_s, show ¬ ((i : Int) < s.size) by omega])]
    rw [List.drop_eq_nil_of_le (by rw [tl_len]; omega)]
    rfl
  | m + 1, i, M + 1, h1, h2 => by
    obtain ⟨c, hc⟩ := get_of_lt (s := s) (i := i) (by omega)
    have hi : (i : Int) < s.size := by omega
    rw [drop_cons hc]
    by_cases c1 : (c.toNat : Int) < 32
    · rw [loopF_inr (r := .inl false) (by simp [B_spec_l2Plain_13, run_done, run_fail, run_ask, run_opt, run_inl, run_inr, Option.bind_some, apart_b, apart_i, apart_s, hi, hc, c1])]
      have : okc c = false := by simp [okc]; omega
      simp [this]
    · by_cases c2 : (c.toNat : Int) > 126
      · rw [loopF_inr (r := .inl false) (by simp [B_spec_l2Plain_13, run_done, run_fail, run_ask, run_opt, run_inl, run_inr, Option.bind_some, apart_b, apart_i, apart_s, hi, hc, c1, c2])]
        have : okc c = false := by simp [okc]; omega
        simp [this]
      · have hw : IntKind.i64.wrap ((i : Int) + 1) = ((i + 1 : Nat) : Int) := by rw [wrap64 (by omega)]; omega
        rw [loopF_inl (v' := (s, ((i + 1 : Nat) : Int))) (by simp [B_spec_l2Plain_13, run_done, run_fail, run_ask, run_opt, run_inl, run_inr, Option.bind_some, apart_b, apart_i, apart_s, hi, hc, c1, c2, hw])]
        rw [l2Plain_loop n s hb m (i + 1) M (by omega) (by omega)]
        have : okc c = true := by simp [okc]; omega
        simp [this]
theorem ev_spec_l2Plain (s : ByteArray) (hb : s.size ≤ 140737488351232) : Ev (F_spec_l2Plain · s) (plainN s 200) := by
  refine ⟨s.size + 2, fun n hn => ?_⟩
  obtain ⟨m, rfl, hm⟩ := up1 hn
  have h := l2Plain_loop m s hb s.size 0 m (by omega) (by omega)
  simp only [F_spec_l2Plain, T_spec_l2Plain, run_done, run_fail, run_ask, run_opt, run_inl, run_inr, Option.bind_some, apart_b, apart_i, apart_s]
  simp only [Int.natCast_zero, List.drop_zero] at h
  rw [h]
  cases hc : s.toList.all okc <;> simp [run_done, run_fail, run_ask, run_opt, run_inl, run_inr, Option.bind_some, apart_b, apart_i, apart_s, plainN, hc]
theorem isText_loop (n : Nat) (s : ByteArray) (y : Int) (hb : s.size ≤ 140737488351232) : ∀ (m i M : Nat), s.size = i + m → m + 1 ≤ M →
    loopF (B_impl_isText_13 n) M (s, y, (s.size : Int), (i : Int)) = some (if (s.toList.drop i).all okc then .inr (s, y) else .inl false)
  | m, i, 0, h1, h2 => by omega
  | 0, i, M + 1, h1, h2 => by
    rw [loopF_inr (r := .inr (s, y)) (by simp [B_impl_isText_13, run_done, run_fail, run_ask, run_opt, run_inl, run_inr, Option.bind_some, apart_b, apart_i, apart_s, show ¬ ((i : Int) < s.size) by omega])]
    rw [List.drop_eq_nil_of_le (by rw [tl_len]; omega)]
    rfl
  | m + 1, i, M + 1, h1, h2 => by
    obtain ⟨c, hc⟩ := get_of_lt (s := s) (i := i) (by omega)
    have hi : (i : Int) < s.size := by omega
    rw [drop_cons hc]
    by_cases c1 : (c.toNat : Int) < 32
    · rw [loopF_inr (r := .inl false) (by simp [B_impl_isText_13, run_done, run_fail, run_ask, run_opt, run_inl, run_inr, Option.bind_some, apart_b, apart_i, apart_s, hi, hc, c1])]
      have : okc c = false := by simp [okc]; omega
      simp [this]
    · by_cases c2 : (c.toNat : Int) > 126
      · rw [loopF_inr (r := .inl false) (by simp [B_impl_isText_13, run_done, run_fail, run_ask, run_opt, run_inl, run_inr, Option.bind_some, apart_b, apart_i, apart_s, hi, hc, c1, c2])]
        have : okc c = false := by simp [okc]; omega
        simp [this]
      · have hw : IntKind.i64.wrap ((i : Int) + 1) = ((i + 1 : Nat) : Int) := by rw [wrap64 (by omega)]; omega
        rw [loopF_inl (v' := (s, y, (s.size : Int), ((i + 1 : Nat) : Int))) (by simp [B_impl_isText_13, run_done, run_fail, run_ask, run_opt, run_inl, run_inr, Option.bind_some, apart_b, apart_i, apart_s, hi, hc, c1, c2, hw])]
        rw [isText_loop n s y hb m (i + 1) M (by omega) (by omega)]
        have : okc c = true := by simp [okc]; omega
        simp [this]
theorem ev_impl_isText (s : ByteArray) (y : Int) (hb : s.size ≤ 140737488351232) : Ev (F_impl_isText · s y) (plainN s y) := by
  refine ⟨s.size + 2, fun n hn => ?_⟩
  obtain ⟨m, rfl, hm⟩ := up1 hn
  have h := isText_loop m s y hb s.size 0 m (by omega) (by omega)
  simp only [F_impl_isText, T_impl_isText, run_done, run_fail, run_ask, run_opt, run_inl, run_inr, Option.bind_some, apart_b, apart_i, apart_s]
  simp only [Int.natCast_zero, List.drop_zero] at h
  rw [h]
  cases hc : s.toList.all okc <;> simp [run_done, run_fail, run_ask, run_opt, run_inl, run_inr, Option.bind_some, apart_b, apart_i, apart_s, plainN, hc]
theorem ev_spec_ValueOk (k x : Int) (s : ByteArray) (hb : s.size ≤ 140737488351232) : Ev (F_spec_ValueOk · k x s) (okV k x s) := by
  obtain ⟨n1, h1⟩ := ev_spec_l1In x (-1000000000000000) 1000000000000000
  obtain ⟨n2, h2⟩ := ev_spec_l1In x 0 1
  obtain ⟨n3, h3⟩ := ev_spec_l1In x 1 5
  obtain ⟨n4, h4⟩ := ev_spec_l2Plain s hb
  refine ⟨n1 + n2 + n3 + n4 + 1, fun n hn => ?_⟩
  obtain ⟨m, rfl, hm⟩ := up1 hn
  have h1 := h1 m (by omega)
  dsimp only at h1
  have h2 := h2 m (by omega)
  dsimp only at h2
  have h3 := h3 m (by omega)
  dsimp only at h3
  have h4 := h4 m (by omega)
  dsimp only at h4
  simp only [F_spec_ValueOk, T_spec_ValueOk, run_done, run_fail, run_ask, run_opt, run_inl, run_inr, Option.bind_some, apart_b, apart_i, apart_s, h1, h2, h3, h4]
  simp only [okV, toList_nil]
  by_cases k2 : k = 2
  · subst k2
    by_cases x0 : x = 0 <;> simp [x0]
  · by_cases k0 : k = 0
    · subst k0
      by_cases x0 : x = 0 <;> simp [x0]
    · by_cases k1 : k = 1
      · subst k1
        by_cases hx : -1000000000000000 ≤ x ∧ x ≤ 1000000000000000 <;> simp [hx]
      · by_cases k3 : k = 3
        · subst k3
          by_cases hx : 0 ≤ x ∧ x ≤ 1 <;> simp [hx]
        · by_cases k4 : k = 4
          · subst k4
            by_cases hx : 1 ≤ x ∧ x ≤ 5 <;> simp [hx]
          · simp [k0, k1, k2, k3, k4]
theorem ev_impl_ValueOk (k x : Int) (s : ByteArray) (hb : s.size ≤ 140737488351232) : Ev (F_impl_ValueOk · k x s) (okV k x s) := by
  obtain ⟨n1, h1⟩ := ev_impl_within x (-1000000000000000) 1000000000000000
  obtain ⟨n2, h2⟩ := ev_impl_within x 0 1
  obtain ⟨n3, h3⟩ := ev_impl_within x 1 5
  obtain ⟨n4, h4⟩ := ev_impl_isText s 200 hb
  refine ⟨n1 + n2 + n3 + n4 + 1, fun n hn => ?_⟩
  obtain ⟨m, rfl, hm⟩ := up1 hn
  have h1 := h1 m (by omega)
  dsimp only at h1
  have h2 := h2 m (by omega)
  dsimp only at h2
  have h3 := h3 m (by omega)
  dsimp only at h3
  have h4 := h4 m (by omega)
  dsimp only at h4
  simp only [F_impl_ValueOk, T_impl_ValueOk, run_done, run_fail, run_ask, run_opt, run_inl, run_inr, Option.bind_some, apart_b, apart_i, apart_s, h1, h2, h3, h4]
  simp only [okV, toList_nil]
  by_cases k2 : k = 2
  · subst k2
    by_cases x0 : x = 0 <;> simp [x0]
  · by_cases he : s.toList = []
    · by_cases k0 : k = 0
      · subst k0
        by_cases x0 : x = 0 <;> simp [x0, he]
      · by_cases k1 : k = 1
        · subst k1; simp [he]
        · by_cases k3 : k = 3
          · subst k3; simp [he]
          · by_cases k4 : k = 4
            · subst k4; simp [he]
            · simp [k0, k1, k2, k3, k4, he]
    · simp [k2, he]
abbrev V3 := Int × Int × ByteArray
def em : ByteArray := ⟨#[]⟩
/-- a value as a number; else what is answered -/
def num (k x : Int) (s : ByteArray) : Int ⊕ V3 := if okV k x s = true then (if k = 0 ∨ k = 1 then .inl x else if k = 4 then .inr (k, x, s) else .inr (4, 2, em)) else .inr (4, 2, em)
def fin64 (z : Int) : V3 := if -1000000000000000 ≤ z ∧ z ≤ 1000000000000000 then (1, z, em) else (4, 4, em)
def arith (op : Int → Int → V3) (k x : Int) (s : ByteArray) (k' x' : Int) (s' : ByteArray) : V3 := match num k x s with
  | .inr e => e
  | .inl a => match num k' x' s' with
    | .inr e => e
    | .inl b => op a b
theorem num_inr {k x : Int} {s : ByteArray} {e : V3} (h : num k x s = .inr e) : e.1 = 4 := by
  unfold num at h
  split at h
  · split at h
    · cases h
    · split at h
      · cases h; assumption
      · cases h; rfl
  · cases h; rfl
theorem num_ne {k x : Int} {s : ByteArray} {e : V3} (h : num k x s = .inr e) : ¬ e.1 = 0 := by rw [num_inr h]; decide
theorem num_inl {k x : Int} {s : ByteArray} {a : Int} (h : num k x s = .inl a) : -1000000000000000 ≤ a ∧ a ≤ 1000000000000000 := by
  unfold num at h
  split at h
  · rename_i ho
    split at h
    · rename_i hk
      cases h
      unfold okV at ho
      rcases hk with rfl | rfl
      · simp at ho; omega
      · simp at ho; exact ho.2
    · split at h <;> cases h
  · cases h
theorem ev_laws_szValue (k x : Int) (s : ByteArray) (left : Int) : ∃ r, Ev (F_laws_szValue · k x s left) r := by
  by_cases h : IntKind.i64.wrap (left - s.size) < 0
  · refine ⟨-1, ?_⟩
    refine ⟨1, fun n hn => ?_⟩
    obtain ⟨m, rfl, hm⟩ := up1 hn
    simp only [F_laws_szValue, T_laws_szValue, run_done, run_fail, run_ask, run_opt, run_inl, run_inr, Option.bind_some, apart_b, apart_i, apart_s]
    simp [h]
  · refine ⟨IntKind.i64.wrap (left - s.size), ?_⟩
    refine ⟨1, fun n hn => ?_⟩
    obtain ⟨m, rfl, hm⟩ := up1 hn
    simp only [F_laws_szValue, T_laws_szValue, run_done, run_fail, run_ask, run_opt, run_inl, run_inr, Option.bind_some, apart_b, apart_i, apart_s]
    simp [h]
theorem ev_laws_toValue (k x : Int) (s : ByteArray) : Ev (F_laws_toValue · k x s) (k, x, s) := by
  refine ⟨1, fun n hn => ?_⟩
  obtain ⟨m, rfl, hm⟩ := up1 hn
  simp only [F_laws_toValue, T_laws_toValue, run_done, run_fail, run_ask, run_opt, run_inl, run_inr, Option.bind_some, apart_b, apart_i, apart_s]
theorem ev_laws_eqValue (k x : Int) (s : ByteArray) : Ev (F_laws_eqValue · k x s k x s) true := by
  refine ⟨1, fun n hn => ?_⟩
  obtain ⟨m, rfl, hm⟩ := up1 hn
  simp only [F_laws_eqValue, T_laws_eqValue, run_done, run_fail, run_ask, run_opt, run_inl, run_inr, Option.bind_some, apart_b, apart_i, apart_s]
  simp
def absI (x : Int) : Int := if x < 0 then -x else x
def timesV (a b : Int) : V3 := if a = 0 ∨ b = 0 then fin64 0 else if absI a > Int.tdiv 1000000000000000 (absI b) then (4, 4, em) else fin64 (IntKind.i64.wrap (a * b))
theorem tdiv_in {b : Int} (h : 1 ≤ b) : 0 ≤ Int.tdiv 1000000000000000 b ∧ Int.tdiv 1000000000000000 b ≤ 1000000000000000 := by
  rw [Int.tdiv_eq_ediv_of_nonneg (by decide)]
  exact ⟨Int.ediv_nonneg (by decide) (by omega), Int.ediv_le_self _ (by decide)⟩
theorem ev_laws_toRef (x y : Int) : Ev (F_laws_toRef · x y) (x, y) := by
  refine ⟨1, fun n hn => ?_⟩
  obtain ⟨m, rfl, hm⟩ := up1 hn
  simp only [F_laws_toRef, T_laws_toRef, run_done, run_fail, run_ask, run_opt, run_inl, run_inr, Option.bind_some, apart_b, apart_i, apart_s]
theorem ev_laws_eqRef (x y z w : Int) : Ev (F_laws_eqRef · x y z w) (decide (x = z ∧ y = w)) := by
  refine ⟨1, fun n hn => ?_⟩
  obtain ⟨m, rfl, hm⟩ := up1 hn
  simp only [F_laws_eqRef, T_laws_eqRef, run_done, run_fail, run_ask, run_opt, run_inl, run_inr, Option.bind_some, apart_b, apart_i, apart_s]
  by_cases h : x = z <;> by_cases h' : y = w <;> simp [h, h']
def okRef (c r : Int) : Bool := decide (1 ≤ c ∧ c ≤ 52) && decide (1 ≤ r ∧ r ≤ 99)
def okArea (a b c d : Int) : Bool := okRef a b && okRef c d && decide (a ≤ c) && decide (b ≤ d)
theorem ev_spec_RefOk (c r : Int) : Ev (F_spec_RefOk · c r) (okRef c r) := by
  obtain ⟨n1, h1⟩ := ev_spec_l1In c 1 52
  obtain ⟨n2, h2⟩ := ev_spec_l1In r 1 99
  refine ⟨n1 + n2 + 1, fun n hn => ?_⟩
  obtain ⟨m, rfl, hm⟩ := up1 hn
  have h1 := h1 m (by omega)
  dsimp only at h1
  have h2 := h2 m (by omega)
  dsimp only at h2
  simp only [F_spec_RefOk, T_spec_RefOk, run_done, run_fail, run_ask, run_opt, run_inl, run_inr, Option.bind_some, apart_b, apart_i, apart_s, h1, h2]
  unfold okRef
  cases decide (1 ≤ c ∧ c ≤ 52) <;> simp
theorem ev_impl_RefOk (c r : Int) : Ev (F_impl_RefOk · c r) (okRef c r) := by
  obtain ⟨n1, h1⟩ := ev_impl_within c 1 52
  obtain ⟨n2, h2⟩ := ev_impl_within r 1 99
  refine ⟨n1 + n2 + 1, fun n hn => ?_⟩
  obtain ⟨m, rfl, hm⟩ := up1 hn
  have h1 := h1 m (by omega)
  dsimp only at h1
  have h2 := h2 m (by omega)
  dsimp only at h2
  simp only [F_impl_RefOk, T_impl_RefOk, run_done, run_fail, run_ask, run_opt, run_inl, run_inr, Option.bind_some, apart_b, apart_i, apart_s, h1, h2]
  unfold okRef
  cases decide (1 ≤ c ∧ c ≤ 52) <;> simp
theorem ev_spec_AreaOk (a b c d : Int) : Ev (F_spec_AreaOk · a b c d) (okArea a b c d) := by
  obtain ⟨n1, h1⟩ := ev_spec_RefOk a b
  obtain ⟨n2, h2⟩ := ev_spec_RefOk c d
  refine ⟨n1 + n2 + 1, fun n hn => ?_⟩
  obtain ⟨m, rfl, hm⟩ := up1 hn
  have h1 := h1 m (by omega)
  dsimp only at h1
  have h2 := h2 m (by omega)
  dsimp only at h2
  simp only [F_spec_AreaOk, T_spec_AreaOk, run_done, run_fail, run_ask, run_opt, run_inl, run_inr, Option.bind_some, apart_b, apart_i, apart_s, h1, h2]
  unfold okArea
  cases okRef a b <;> cases okRef c d <;> by_cases h : a ≤ c <;> simp [h]
theorem ev_impl_AreaOk (a b c d : Int) : Ev (F_impl_AreaOk · a b c d) (okArea a b c d) := by
  obtain ⟨n1, h1⟩ := ev_impl_RefOk a b
  obtain ⟨n2, h2⟩ := ev_impl_RefOk c d
  refine ⟨n1 + n2 + 1, fun n hn => ?_⟩
  obtain ⟨m, rfl, hm⟩ := up1 hn
  have h1 := h1 m (by omega)
  dsimp only at h1
  have h2 := h2 m (by omega)
  dsimp only at h2
  simp only [F_impl_AreaOk, T_impl_AreaOk, run_done, run_fail, run_ask, run_opt, run_inl, run_inr, Option.bind_some, apart_b, apart_i, apart_s, h1, h2]
  unfold okArea
  cases okRef a b <;> cases okRef c d <;> by_cases h : a ≤ c <;> simp [h]
abbrev A5 := Int × Int × Int × Int × Bool
def common (x0 x1 x2 x3 x4 x5 x6 x7 : Int) : A5 :=
  if okArea x0 x1 x2 x3 = true ∧ okArea x4 x5 x6 x7 = true ∧ okArea (if x4 > x0 then x4 else x0) (if x5 > x1 then x5 else x1) (if x6 < x2 then x6 else x2) (if x7 < x3 then x7 else x3) = true then
    ((if x4 > x0 then x4 else x0), (if x5 > x1 then x5 else x1), (if x6 < x2 then x6 else x2), (if x7 < x3 then x7 else x3), true) else (0, 0, 0, 0, false)
def cmpI (x y : Int) : Int := if x < y then -1 else if x > y then 1 else 0
def cmpS (x y : ByteArray) : Int := if Op.bytesLess x.toList y.toList = true then -1 else if x.toList = y.toList then 0 else 1
def firstNZ : List Int → Int
  | [] => 0
  | x :: r => if x ≠ 0 then x else firstNZ r
def ordV (k x : Int) (s : ByteArray) (k' x' : Int) (s' : ByteArray) : Int := firstNZ [cmpI k k', cmpI x x', cmpS s s']
def heldB (op o : Int) : Bool := if op = 6 then o == 0 else if op = 7 then o != 0 else if op = 8 then decide (o < 0) else if op = 9 then decide (o ≤ 0) else if op = 10 then decide (o > 0) else decide (o ≥ 0)
def held (op k x : Int) (s : ByteArray) (k' x' : Int) (s' : ByteArray) : Int × Int × ByteArray :=
  if okV k x s = true ∧ okV k' x' s' = true ∧ 6 ≤ op ∧ op ≤ 11 then
    (if k = 4 then (k, x, s) else if k' = 4 then (k', x', s') else (3, if heldB op (ordV (if k = 0 then k' else k) x s (if k' = 0 then k else k') x' s') = true then 1 else 0, em))
  else (4, 2, em)
abbrev CVt := Int × Int × Int × Int × ByteArray
def encCV (c : CVt) : List PV := [.i .i64 c.1, .i .i64 c.2.1, .i .i64 c.2.2.1, .i .i64 c.2.2.2.1, .s c.2.2.2.2]
theorem rows_cv {rows : List (List PV)} (h : ∀ e ∈ rows, okR [.i .i64, .i .i64, .i .i64, .i .i64, .s] e) : ∃ l : List CVt, rows = l.map encCV ∧ ∀ c ∈ l, c.2.2.2.2.size ≤ 140737488351232 := by
  refine rows_map (fun e h => ?_) h
  obtain ⟨c0, t0, rfl, p0, h⟩ := okR_cons h
  obtain ⟨c1, t1, rfl, p1, h1⟩ := okR_cons h
  obtain ⟨c2, t2, rfl, p2, h2⟩ := okR_cons h1
  obtain ⟨c3, t3, rfl, p3, h3⟩ := okR_cons h2
  obtain ⟨c4, t4, rfl, p4, h4⟩ := okR_cons h3
  obtain rfl := okR_nil h4
  obtain ⟨x0, rfl, _⟩ := okP_i p0
  obtain ⟨x1, rfl, _⟩ := okP_i p1
  obtain ⟨x2, rfl, _⟩ := okP_i p2
  obtain ⟨x3, rfl, _⟩ := okP_i p3
  obtain ⟨x4, rfl, w⟩ := okP_s p4
  exact ⟨(x0, x1, x2, x3, x4), rfl, w⟩
theorem cv_get {l : List CVt} {i : Nat} {e : List PV} (h : (l.map encCV)[i]? = some e) : ∃ c, l[i]? = some c ∧ e = encCV c := by
  rw [List.getElem?_map] at h
  obtain ⟨c, h1, h2⟩ := Option.map_eq_some_iff.1 h
  exact ⟨c, h1, h2.symm⟩
theorem un_laws_szValue (n : Nat) (k x : Int) (s : ByteArray) (left : Int) : ∃ r, F_laws_szValue (n + 1) k x s left = some r := by
  simp only [F_laws_szValue, T_laws_szValue, run_done, run_fail, run_ask, run_opt, run_inl, run_inr, Option.bind_some, apart_b, apart_i, apart_s]
  by_cases h : IntKind.i64.wrap (left - s.size) < 0
  · exact ⟨-1, by simp [h]⟩
  · exact ⟨IntKind.i64.wrap (left - s.size), by simp [h]⟩
theorem un_laws_eqValue (n : Nat) (k x : Int) (s : ByteArray) : F_laws_eqValue (n + 1) k x s k x s = some true := by
  simp only [F_laws_eqValue, T_laws_eqValue, run_done, run_fail, run_ask, run_opt, run_inl, run_inr, Option.bind_some, apart_b, apart_i, apart_s]
  simp
def ahead (a b c d : Int) : Bool := decide (b < d ∨ (b = d ∧ a < c))
/-- a value at its place -/
def cvOk (l : List CVt) (i : Nat) (c : CVt) : Bool := okRef c.1 c.2.1 && okV c.2.2.1 c.2.2.2.1 c.2.2.2.2 && (match i with | 0 => true | j + 1 => match l[j]? with | some p => ahead p.1 p.2.1 c.1 c.2.1 | none => true)
def cvFrom (l : List CVt) : Nat → List CVt → Bool
  | _, [] => true
  | i, c :: r => cvOk l i c && cvFrom l (i + 1) r
def cvsOk (l : List CVt) : Bool := cvFrom l 0 l && decide ((l.length : Int) ≤ 120)
theorem ahead_cmp (a b c d : Int) : decide (firstNZ [cmpI b d, cmpI a c] ≥ 0) = !(ahead a b c d) := by
  unfold firstNZ firstNZ firstNZ cmpI ahead
  by_cases h1 : b < d
  · simp [h1]
  · by_cases h2 : b > d
    · have : ¬ b = d := by omega
      simp [h1, h2, this]
    · have : b = d := by omega
      subst this
      by_cases h3 : a < c
      · simp [h3]
      · by_cases h4 : a > c <;> simp [h3, h4]
/-- what stands at a place -/
def cvAt (c r : Int) : List CVt → V3
  | [] => (0, 0, em)
  | p :: l => if p.1 = c ∧ p.2.1 = r then (p.2.2.1, p.2.2.2.1, p.2.2.2.2) else cvAt c r l
def cvIn (c r : Int) : List CVt → Bool
  | [] => false
  | p :: l => decide (p.1 = c ∧ p.2.1 = r) || cvIn c r l
theorem cvAt_out (c r : Int) : ∀ {l : List CVt}, cvIn c r l = false → cvAt c r l = (0, 0, em)
  | [], _ => rfl
  | p :: l, h => by
    simp only [cvIn, Bool.or_eq_false_iff, decide_eq_false_iff_not] at h
    simp only [cvAt, if_neg h.1, cvAt_out c r h.2]
abbrev Ch := Int × Int × ByteArray × ByteArray
def encCh (c : Ch) : List PV := [.i .i64 c.1, .i .i64 c.2.1, .s c.2.2.1, .s c.2.2.2]
theorem rows_ch {rows : List (List PV)} (h : ∀ e ∈ rows, okR [.i .i64, .i .i64, .s, .s] e) : ∃ l : List Ch, rows = l.map encCh ∧ ∀ c ∈ l, True := by
  refine rows_map (fun e h => ?_) h
  obtain ⟨c0, t0, rfl, p0, h⟩ := okR_cons h
  obtain ⟨c1, t1, rfl, p1, h1⟩ := okR_cons h
  obtain ⟨c2, t2, rfl, p2, h2⟩ := okR_cons h1
  obtain ⟨c3, t3, rfl, p3, h3⟩ := okR_cons h2
  obtain rfl := okR_nil h3
  obtain ⟨x0, rfl, _⟩ := okP_i p0
  obtain ⟨x1, rfl, _⟩ := okP_i p1
  obtain ⟨x2, rfl, _⟩ := okP_s p2
  obtain ⟨x3, rfl, _⟩ := okP_s p3
  exact ⟨(x0, x1, x2, x3), rfl, trivial⟩
theorem ch_get {l : List Ch} {i : Nat} {e : List PV} (h : (l.map encCh)[i]? = some e) : ∃ c, l[i]? = some c ∧ e = encCh c := by
  rw [List.getElem?_map] at h
  obtain ⟨c, h1, h2⟩ := Option.map_eq_some_iff.1 h
  exact ⟨c, h1, h2.symm⟩
theorem apart_ch (m sz ty : Nat) (l : List Ch) : apartR (⟨(.c (.own 0 0 0 m)), [], [⟨0, sz, ty, (.row (l.map encCh))⟩]⟩ : Res) = true := by
  simp [apartR, AV.cvs, flatO, flatB, encCh, CV.flat]
def swp (c : Ch) : Ch := (c.1, c.2.1, c.2.2.2, c.2.2.1)
def turnedL (l : List Ch) : List Ch := (l.map swp).reverse
theorem ev_of {R : Type} {F : Nat → Option R} {r : R} {k : Nat} (h : ∀ n, k ≤ n → F n = some r) : Ev F r := ⟨k, h⟩
theorem wf8 {x : Int} (h : (Lit.int .u8 x).wf = true) : 0 ≤ x ∧ x ≤ 255 := by
  simp only [Lit.wf, Bool.and_eq_true, decide_eq_true_eq] at h
  have h1 : IntKind.u8.min = 0 := by decide
  have h2 : IntKind.u8.max = 255 := by decide
  omega
theorem wrapu_in (x : Int) : 0 ≤ IntKind.u64.wrap x ∧ IntKind.u64.wrap x ≤ 18446744073709551615 := by
  unfold IntKind.wrap
  have e2 : (2 : Int) ^ 64 = 18446744073709551616 := by decide
  simp only [IntKind.signed, IntKind.bits, Bool.false_and, Bool.false_eq_true, if_false, e2]
  omega
theorem wrapu {x : Int} (h : 0 ≤ x ∧ x ≤ 18446744073709551615) : IntKind.u64.wrap x = x := by
  unfold IntKind.wrap
  have e2 : (2 : Int) ^ 64 = 18446744073709551616 := by decide
  simp only [IntKind.signed, IntKind.bits, Bool.false_and, Bool.false_eq_true, if_false, e2]
  omega
/-- a reader's bytes -/
def RdOk (l : List (List PV)) : Prop := l.length ≤ 1048576 ∧ ∀ e ∈ l, ∃ b : Int, e = [.i .u8 b] ∧ 0 ≤ b ∧ b ≤ 255
theorem rdOk_of {l : List (List PV)} (w : ∀ r ∈ l, okR [.i .u8] r) (h : ¬ (l.length : Int) > 1048576) : RdOk l := by
  refine ⟨by omega, fun e he => ?_⟩
  obtain ⟨x, r, rfl, h1, h2⟩ := okR_cons (w e he)
  obtain ⟨n, rfl, h3⟩ := okP_i h1
  obtain rfl := okR_nil h2
  exact ⟨n, rfl, wf8 h3⟩
def rng (a : Int) : Nat → List Int
  | 0 => []
  | n + 1 => a :: rng (a + 1) n
theorem rng_len : ∀ (n : Nat) (a : Int), (rng a n).length = n
  | 0, a => rfl
  | n + 1, a => by simp [rng, rng_len n]
def encRf (x : Int × Int) : List PV := [.i .i64 x.1, .i .i64 x.2]
def rowC (a : Int) (n : Nat) (r : Int) : List (Int × Int) := (rng a n).map fun x => (x, r)
def cellsP (a b c d : Int) : List (Int × Int) := (rng b (d - b + 1).toNat).flatMap fun r => rowC a (c - a + 1).toNat r
def cellsL (a b c d : Int) : List (Int × Int) := if okArea a b c d = true then cellsP a b c d else []
theorem okArea_in {a b c d : Int} (h : okArea a b c d = true) : (1 ≤ a ∧ a ≤ 52) ∧ (1 ≤ b ∧ b ≤ 99) ∧ (1 ≤ c ∧ c ≤ 52) ∧ (1 ≤ d ∧ d ≤ 99) ∧ a ≤ c ∧ b ≤ d := by
  simp only [okArea, okRef, Bool.and_eq_true, decide_eq_true_eq] at h
  obtain ⟨⟨⟨⟨h1, h2⟩, h3, h4⟩, h5⟩, h6⟩ := h
  exact ⟨h1, h2, h3, h4, h5, h6⟩
theorem okArea_of {a b c d : Int} (h : (1 ≤ a ∧ a ≤ 52) ∧ (1 ≤ b ∧ b ≤ 99) ∧ (1 ≤ c ∧ c ≤ 52) ∧ (1 ≤ d ∧ d ≤ 99) ∧ a ≤ c ∧ b ≤ d) : okArea a b c d = true := by
  obtain ⟨h1, h2, h3, h4, h5, h6⟩ := h
  simp only [okArea, okRef, Bool.and_eq_true, decide_eq_true_eq]
  exact ⟨⟨⟨⟨h1, h2⟩, h3, h4⟩, h5⟩, h6⟩
def decS (x : Int) : ByteArray := ⟨(Lib.itoa x).toArray⟩
theorem ba_app (a b : ByteArray) : (a ++ b).data.toList = a.data.toList ++ b.data.toList := by
  rw [ByteArray.data_append, Array.toList_append]
theorem ba_eq {a b : ByteArray} (h : a.data.toList = b.data.toList) : a = b := by
  cases a; cases b
  congr 1
  exact Array.toList_inj.1 h
theorem ba_eqL {a b : ByteArray} (h : a.toList = b.toList) : a = b := ba_eq (by rw [← Go.Lib.toList_data, ← Go.Lib.toList_data]; exact h)
theorem ba_size (a : ByteArray) : a.size = a.data.toList.length := by rw [Array.length_toList]; rfl
theorem u8w {q : Nat} (h : q < 10) : IntKind.u8.wrap (IntKind.i64.wrap (48 + (q : Int))) = ((48 + q : Nat) : Int) := by
  rw [wrap64 (by omega)]
  unfold IntKind.wrap
  have e2 : (2 : Int) ^ 8 = 256 := by decide
  simp only [IntKind.signed, IntKind.bits, Bool.false_and, Bool.false_eq_true, if_false, e2]
  omega
theorem nd_le : ∀ (k v : Nat), 1 ≤ v → v < 10 ^ k → Lib.nDigits v ≤ k := by
  intro k
  induction k with
  | zero => intro v hv hv'; simp at hv'; omega
  | succ k ih =>
    intro v hv hv'
    by_cases h10 : v < 10
    · rw [Lib.nDigits_small h10]; omega
    · rw [Lib.nDigits_big h10]
      have := ih (v / 10) (by omega) (by rw [Nat.pow_succ] at hv'; omega)
      omega
theorem dec_len (u : Nat) (h : u ≤ 1000000000000000000) : (Lib.decDigits u).length ≤ 19 := by
  have p : (10 : Nat) ^ 19 = 10000000000000000000 := by decide
  rw [Lib.decDigits_length]
  rcases Nat.lt_or_ge u 1 with h6 | h6
  · have : u = 0 := by omega
    subst this
    rw [Lib.nDigits_small (by decide)]
    decide
  · exact nd_le 19 u h6 (by omega)
def nameS (x : Int) : ByteArray := if x = 1 then ⟨#[35, 68, 73, 86, 33]⟩ else if x = 2 then ⟨#[35, 84, 89, 80, 69, 33]⟩ else if x = 3 then ⟨#[35, 82, 69, 70, 33]⟩ else if x = 4 then ⟨#[35, 79, 86, 69, 82, 33]⟩ else if x = 5 then ⟨#[35, 67, 89, 67, 76, 69, 33]⟩ else ⟨#[]⟩
theorem lt6 {x : Int} (h : 0 ≤ x ∧ x ≤ 5) : x = 0 ∨ x = 1 ∨ x = 2 ∨ x = 3 ∨ x = 4 ∨ x = 5 := by omega
def boolS (x : Int) : ByteArray := if x = 1 then ⟨#[84, 82, 85, 69]⟩ else ⟨#[70, 65, 76, 83, 69]⟩
theorem okV_1 {x : Int} {s : ByteArray} (h : okV 1 x s = true) : -1000000000000000 ≤ x ∧ x ≤ 1000000000000000 := by
  simp [okV] at h; exact h.2
theorem okV_2 {x : Int} {s : ByteArray} (h : okV 2 x s = true) : x = 0 ∧ (s.size : Int) ≤ 200 ∧ s.toList.all okc = true := by
  simp only [okV, plainN, if_true, Bool.and_eq_true, decide_eq_true_eq] at h
  exact ⟨h.1, h.2.2, h.2.1⟩
theorem okV_3 {x : Int} {s : ByteArray} (h : okV 3 x s = true) : 0 ≤ x ∧ x ≤ 1 := by
  simp [okV] at h; exact h.2
theorem okV_4 {x : Int} {s : ByteArray} (h : okV 4 x s = true) : 1 ≤ x ∧ x ≤ 5 := by
  simp [okV] at h; exact h.2
/-- a value's text -/
def vtext (k x : Int) (s : ByteArray) : ByteArray := if k = 1 then decS x else if k = 2 then ⟨#[39]⟩ ++ s else if k = 3 then boolS x else if k = 4 then nameS x else ⟨#[]⟩
theorem decS_size {x : Int} (h : -1000000000000000000 ≤ x ∧ x ≤ 1000000000000000000) : (decS x).size ≤ 20 := by
  rw [ba_size]
  show (Lib.itoa x).length ≤ 20
  unfold Lib.itoa
  split
  · have := dec_len x.natAbs (by omega); simp; omega
  · have := dec_len x.toNat (by omega); omega
theorem vtext_size {k x : Int} {s : ByteArray} (h : okV k x s = true) : (vtext k x s).size ≤ 300 := by
  unfold vtext
  split
  · rename_i k1; subst k1; have := okV_1 h; have := decS_size (x := x) (by omega); omega
  · split
    · rename_i k2; subst k2
      have := okV_2 h
      rw [ByteArray.size_append]
      show 1 + s.size ≤ 300
      omega
    · split
      · unfold boolS; split <;> decide
      · split
        · unfold nameS
          repeat' split
          all_goals decide
        · decide
/-- a value as a text; else what is answered -/
def word (k x : Int) (s : ByteArray) : ByteArray ⊕ V3 := if okV k x s = true then (if k = 4 then .inr (k, x, s) else if k = 2 then .inl s else .inl (vtext k x s)) else .inr (4, 2, em)
theorem word_inr {k x : Int} {s : ByteArray} {e : V3} (h : word k x s = .inr e) : e.1 = 4 ∧ num k x s = .inr e := by
  unfold word at h
  unfold num
  by_cases ho : okV k x s = true
  · rw [if_pos ho] at h ⊢
    split at h
    · rename_i k4
      cases h
      subst k4
      simp
    · split at h <;> cases h
  · rw [if_neg ho] at h ⊢
    cases h
    exact ⟨rfl, rfl⟩
theorem word_size {k x : Int} {s : ByteArray} {t : ByteArray} (h : word k x s = .inl t) : t.size ≤ 300 := by
  unfold word at h
  split at h
  · rename_i ho
    split at h
    · cases h
    · split at h
      · rename_i k2; cases h; subst k2; have := okV_2 ho; omega
      · cases h; exact vtext_size ho
  · cases h
def joinV (a b : ByteArray) : V3 := if ((a.size : Int) + b.size) > 200 then (4, 4, em) else (2, 0, a ++ b)
def joined (k x : Int) (s : ByteArray) (k' x' : Int) (s' : ByteArray) : V3 := match word k x s with
  | .inr e => e
  | .inl a => match word k' x' s' with
    | .inr e => e
    | .inl b => joinV a b
/-- a column's letters -/
def colS (x : Int) : ByteArray := if x < 1 ∨ x > 52 then ⟨#[]⟩ else if x ≤ 26 then ⟨#[UInt8.ofNat (64 + x.toNat)]⟩ else ⟨#[65, UInt8.ofNat (65 + (x.toNat - 1) % 26)]⟩
theorem colS_size (x : Int) : (colS x).size ≤ 2 := by
  unfold colS
  split
  · decide
  · split
    · exact (show (1 : Nat) ≤ 2 by decide)
    · exact (show (2 : Nat) ≤ 2 by decide)
theorem u8wrap {q : Int} (h : 0 ≤ q ∧ q < 256) : IntKind.u8.wrap q = q := by
  unfold IntKind.wrap
  have e2 : (2 : Int) ^ 8 = 256 := by decide
  simp only [IntKind.signed, IntKind.bits, Bool.false_and, Bool.false_eq_true, if_false, e2]
  omega
/-- a place's text -/
def placeS (c r : Int) (fc fr : Bool) : ByteArray := if okRef c r = true then ⟨((if fc = true then [36] else []) ++ (colS c).data.toList ++ (if fr = true then [36] else []) ++ (decS r).data.toList).toArray⟩ else ⟨#[]⟩
theorem decS_size' {x : Int} (h : 1 ≤ x ∧ x ≤ 99) : (decS x).size ≤ 20 := by
  rw [ba_size]
  show (Lib.itoa x).length ≤ 20
  unfold Lib.itoa
  rw [if_neg (by omega)]
  have := dec_len x.toNat (by omega)
  omega
theorem okRef_in {c r : Int} (h : okRef c r = true) : (1 ≤ c ∧ c ≤ 52) ∧ (1 ≤ r ∧ r ≤ 99) := by
  simpa [okRef] using h
def isDig (c : UInt8) : Bool := decide (48 ≤ c.toNat) && decide (c.toNat ≤ 57)
def dvalN (acc : Nat) (l : List UInt8) : Nat := l.foldl (fun a c => a * 10 + (c.toNat - 48)) acc
theorem dval_nil (acc : Nat) : dvalN acc [] = acc := rfl
theorem dval_cons (acc : Nat) (c : UInt8) (r : List UInt8) : dvalN acc (c :: r) = dvalN (acc * 10 + (c.toNat - 48)) r := by simp only [dvalN, List.foldl_cons]
theorem dval_app (l : List UInt8) (acc : Nat) (c : UInt8) : dvalN acc (l ++ [c]) = dvalN acc l * 10 + (c.toNat - 48) := by
  simp only [dvalN, List.foldl_append, List.foldl_cons, List.foldl_nil]
theorem dval_ge : ∀ (l : List UInt8) (acc : Nat), acc ≤ dvalN acc l
  | [], acc => by rw [dval_nil]; exact Nat.le_refl _
  | c :: r, acc => by
    have h := dval_ge r (acc * 10 + (c.toNat - 48))
    have h2 : acc ≤ acc * 10 + (c.toNat - 48) := by omega
    rw [dval_cons]
    exact Nat.le_trans h2 h
theorem dig_of {d : Nat} (h : d < 10) : (UInt8.ofNat (48 + d)).toNat = 48 + d := by
  rw [UInt8.toNat_ofNat']; omega
theorem isDig_of {d : Nat} (h : d < 10) : isDig (UInt8.ofNat (48 + d)) = true := by
  unfold isDig
  rw [dig_of h]
  simp
  omega
theorem dec_props : ∀ u : Nat, (Lib.decDigits u).all isDig = true ∧ dvalN 0 (Lib.decDigits u) = u ∧ Lib.decDigits u ≠ [] ∧ (10 ≤ u → (Lib.decDigits u).head? ≠ some 48) ∧ (1 ≤ u → (Lib.decDigits u).head? ≠ some 48) := by
  intro u
  induction u using Nat.strongRecOn with
  | _ u ih =>
    by_cases h : u < 10
    · rw [Lib.decDigits, dif_pos h]
      have h1 : ∀ k, 1 ≤ k → k < 10 → UInt8.ofNat (48 + k) ≠ 48 := fun k hk hk' e => by
        have := congrArg UInt8.toNat e
        rw [dig_of hk'] at this
        have h2 : (48 : UInt8).toNat = 48 := rfl
        omega
      refine ⟨by simp only [List.all_cons, List.all_nil, isDig_of h, Bool.and_true], by rw [dval_cons, dval_nil, dig_of h]; omega, by simp, fun _ => by omega, fun hu => ?_⟩
      simp only [List.head?_cons, ne_eq, Option.some.injEq]
      exact h1 u hu h
    · obtain ⟨i1, i2, i3, i4, i5⟩ := ih (u / 10) (by omega)
      rw [Lib.decDigits, dif_neg h]
      have hd : u % 10 < 10 := by omega
      have hh : (Lib.decDigits (u / 10) ++ [UInt8.ofNat (48 + u % 10)]).head? = (Lib.decDigits (u / 10)).head? := by
        cases hq : Lib.decDigits (u / 10) with
        | nil => exact absurd hq i3
        | cons a b => rfl
      refine ⟨by simp only [List.all_append, i1, List.all_cons, List.all_nil, isDig_of hd, Bool.and_true], by rw [dval_app, i2, dig_of hd]; omega, by simp, fun _ => ?_, fun _ => ?_⟩
      · rw [hh]; exact i5 (by omega)
      · rw [hh]; exact i5 (by omega)
/-- digits, no nought ahead of others -/
def canon (l : List UInt8) : Bool := !(l == []) && l.all isDig && (!(l.head? == some 48) || l.length == 1)
theorem dec_canon (u : Nat) : canon (Lib.decDigits u) = true := by
  obtain ⟨h1, h2, h3, h4, h5⟩ := dec_props u
  simp only [canon, h1, Bool.and_true, Bool.and_eq_true, Bool.not_eq_true', beq_eq_false_iff_ne, Bool.or_eq_true]
  refine ⟨h3, ?_⟩
  by_cases hu : u < 10
  · right; rw [Lib.decDigits, dif_pos hu]; rfl
  · left; exact h4 (by omega)
theorem canon_dec : ∀ (n : Nat) (l : List UInt8), l.length = n → canon l = true → Lib.decDigits (dvalN 0 l) = l
  | 0, l, hn, h => by
    have := List.eq_nil_of_length_eq_zero hn
    subst this
    simp [canon] at h
  | n + 1, l, hn, h => by
    simp only [canon, Bool.and_eq_true, Bool.not_eq_true', beq_eq_false_iff_ne, Bool.or_eq_true, beq_iff_eq] at h
    obtain ⟨⟨h1, h2⟩, h3⟩ := h
    obtain ⟨ini, c, rfl⟩ : ∃ ini c, l = ini ++ [c] := ⟨l.dropLast, l.getLast h1, (List.dropLast_concat_getLast h1).symm⟩
    simp only [List.all_append, Bool.and_eq_true, List.all_cons, List.all_nil, Bool.and_true] at h2
    obtain ⟨h2, hc⟩ := h2
    simp only [isDig, Bool.and_eq_true, decide_eq_true_eq] at hc
    have ec : UInt8.ofNat (48 + (c.toNat - 48)) = c := by
      have : 48 + (c.toNat - 48) = c.toNat := by omega
      rw [this]; simp
    rw [dval_app]
    cases ini with
    | nil =>
      rw [dval_nil, Nat.zero_mul, Nat.zero_add, List.nil_append, Lib.decDigits, dif_pos (by omega), ec]
    | cons a b =>
      have hl : (a :: b).length = n := by simp at hn ⊢; omega
      have h48 : ¬ a = 48 := by
        rcases h3 with h3 | h3
        · simpa using h3
        · simp at h3
      have hcn : canon (a :: b) = true := by
        simp only [canon, h2, Bool.and_true, Bool.and_eq_true, Bool.not_eq_true', beq_eq_false_iff_ne, Bool.or_eq_true]
        exact ⟨by simp, .inl (by simpa using h48)⟩
      have ih := canon_dec n (a :: b) hl hcn
      have hp : 1 ≤ dvalN 0 (a :: b) := by
        rcases Nat.eq_zero_or_pos (dvalN 0 (a :: b)) with h0 | h0
        · rw [h0, Lib.decDigits, dif_pos (by decide)] at ih
          have : a = 48 := by
            have := congrArg List.head? ih
            simpa using this.symm
          exact absurd this h48
        · exact h0
      rw [Lib.decDigits, dif_neg (by omega)]
      have e1 : (dvalN 0 (a :: b) * 10 + (c.toNat - 48)) / 10 = dvalN 0 (a :: b) := by omega
      have e2 : (dvalN 0 (a :: b) * 10 + (c.toNat - 48)) % 10 = c.toNat - 48 := by omega
      rw [e1, e2, ih, ec]
/-- what the law's reader of numbers answers -/
def l1I (l : List UInt8) (most : Int) : Int × Bool := if (l.length : Int) ≤ most ∧ canon l = true then ((dvalN 0 l : Int), true) else (0, false)
theorem dval_lt : ∀ (l : List UInt8) (acc k : Nat), l.all isDig = true → acc < 10 ^ k → dvalN acc l < 10 ^ (k + l.length)
  | [], acc, k, _, h => by rw [dval_nil]; simpa using h
  | c :: r, acc, k, hd, h => by
    simp only [List.all_cons, Bool.and_eq_true] at hd
    have hc := hd.1
    simp only [isDig, Bool.and_eq_true, decide_eq_true_eq] at hc
    have := dval_lt r (acc * 10 + (c.toNat - 48)) (k + 1) hd.2 (by rw [Nat.pow_succ]; omega)
    rw [dval_cons, List.length_cons, show k + (r.length + 1) = k + 1 + r.length by omega]
    exact this
theorem parseM_ok : ∀ (l : List UInt8) (acc : Nat), l.all isDig = true → dvalN acc l ≤ 1000000000000000000 → Lib.parseUintM (2 ^ 64 - 1) acc l = .ok (dvalN acc l)
  | [], acc, _, _ => by simp only [Lib.parseUintM, dval_nil]
  | c :: r, acc, hd, h => by
    simp only [List.all_cons, Bool.and_eq_true] at hd
    have hc := hd.1
    simp only [isDig, Bool.and_eq_true, decide_eq_true_eq] at hc
    rw [dval_cons] at h ⊢
    have g1 := dval_ge r (acc * 10 + (c.toNat - 48))
    have p : (2 : Nat) ^ 64 - 1 = 18446744073709551615 := by decide
    simp only [Lib.parseUintM]
    rw [if_pos hc, if_neg (by omega), if_neg (by rw [p]; omega)]
    exact parseM_ok r _ hd.2 h
theorem parse_dec {u : Nat} (h : u ≤ 1000000000000000000) : Lib.parseUintB 64 (Lib.decDigits u) = .ok u := by
  obtain ⟨h1, h2, h3, _, _⟩ := dec_props u
  unfold Lib.parseUintB
  rw [if_neg h3, parseM_ok _ 0 h1 (by rw [h2]; exact h), h2]
theorem dec_cons (u : Nat) : ∃ c r, Lib.decDigits u = c :: r ∧ isDig c = true := by
  obtain ⟨h1, _, h3, _, _⟩ := dec_props u
  cases hq : Lib.decDigits u with
  | nil => exact absurd hq h3
  | cons c r =>
    rw [hq] at h1
    simp only [List.all_cons, Bool.and_eq_true] at h1
    exact ⟨c, r, rfl, h1.1⟩
theorem parse_itoa {x : Int} (h : -1000000000000000 ≤ x ∧ x ≤ 1000000000000000) : Lib.parseIntB 64 (Lib.itoa x) = .ok x := by
  have p : (2 : Nat) ^ (64 - 1) = 9223372036854775808 := by decide
  by_cases hx : x < 0
  · have e : Lib.itoa x = 45 :: Lib.decDigits x.natAbs := by unfold Lib.itoa; rw [if_pos hx]
    have c45 : (45 : UInt8).toNat = 45 := rfl
    rw [e]
    simp only [Lib.parseIntB, c45, or_true, if_true, parse_dec (u := x.natAbs) (by omega), p]
    rw [if_neg (by simp), if_neg (by omega)]
    congr 1
    omega
  · have e : Lib.itoa x = Lib.decDigits x.toNat := by unfold Lib.itoa; rw [if_neg hx]
    obtain ⟨c, r, hcr, hd⟩ := dec_cons x.toNat
    simp only [isDig, Bool.and_eq_true, decide_eq_true_eq] at hd
    rw [e, hcr]
    simp only [Lib.parseIntB]
    rw [if_neg (by omega), ← hcr, parse_dec (u := x.toNat) (by omega)]
    simp only [p]
    rw [if_neg (by omega), if_neg (by omega), if_neg (by omega)]
    congr 1
    omega
/-- a number that is read: it is its own text -/
def numR (l : List UInt8) : Option Int := if l.head? = some 45 then (if (l1I (l.drop 1) 16).2 = true ∧ (l1I (l.drop 1) 16).1 ≠ 0 then some (-(l1I (l.drop 1) 16).1) else none) else (if (l1I l 16).2 = true then some (l1I l 16).1 else none)
theorem l1I_true {l : List UInt8} (h : (l1I l 16).2 = true) : l.length ≤ 16 ∧ canon l = true ∧ (l1I l 16).1 = (dvalN 0 l : Int) ∧ Lib.decDigits (dvalN 0 l) = l := by
  unfold l1I at h ⊢
  split at h
  · rename_i hc
    rw [if_pos hc]
    exact ⟨by omega, hc.2, rfl, canon_dec _ l rfl hc.2⟩
  · cases h
theorem l1I_dec {u : Nat} (h : u ≤ 1000000000000000) : l1I (Lib.decDigits u) 16 = ((u : Int), true) := by
  obtain ⟨h1, h2, h3, _, _⟩ := dec_props u
  have hl : (Lib.decDigits u).length ≤ 16 := by
    rw [Lib.decDigits_length]
    have : Lib.nDigits 1000000000000000 = 16 := Lib.nDigits_unique 15 _ (by decide) (by decide)
    rcases Nat.lt_or_ge 16 (Lib.nDigits u) with h4 | h4
    · have h5 : u < 10 ^ 16 := by have : (10 : Nat) ^ 16 = 10000000000000000 := by decide
                                  omega
      exfalso
      rcases Nat.lt_or_ge u 1 with h6 | h6
      · have : u = 0 := by omega
        subst this
        rw [Lib.nDigits_small (by decide)] at h4
        omega
      · have key : ∀ (k v : Nat), 1 ≤ v → v < 10 ^ k → Lib.nDigits v ≤ k := by
          intro k
          induction k with
          | zero => intro v hv hv'; simp at hv'; omega
          | succ k ih =>
            intro v hv hv'
            by_cases h10 : v < 10
            · rw [Lib.nDigits_small h10]; omega
            · rw [Lib.nDigits_big h10]
              have := ih (v / 10) (by omega) (by rw [Nat.pow_succ] at hv'; omega)
              omega
        have := key 16 u h6 h5
        omega
    · exact h4
  unfold l1I
  rw [if_pos ⟨by omega, dec_canon u⟩, h2]
theorem numR_some {l : List UInt8} {x : Int} (h : numR l = some x) : l = Lib.itoa x := by
  unfold numR at h
  split at h
  · rename_i h45
    split at h
    · rename_i hc
      cases h
      obtain ⟨a1, a2, a3, a4⟩ := l1I_true hc.1
      have hne := hc.2
      rw [a3] at hne ⊢
      unfold Lib.itoa
      rw [if_pos (by omega)]
      have : (-(dvalN 0 (l.drop 1) : Int)).natAbs = dvalN 0 (l.drop 1) := by omega
      rw [this, a4]
      cases l with
      | nil => cases h45
      | cons c r => simp at h45; simp [h45]
    · cases h
  · split at h
    · rename_i hc
      cases h
      obtain ⟨a1, a2, a3, a4⟩ := l1I_true hc
      rw [a3]
      unfold Lib.itoa
      rw [if_neg (by omega), Int.toNat_natCast, a4]
    · cases h
theorem numR_itoa {x : Int} (h : -1000000000000000 ≤ x ∧ x ≤ 1000000000000000) : numR (Lib.itoa x) = some x := by
  unfold numR
  by_cases hx : x < 0
  · have e : Lib.itoa x = 45 :: Lib.decDigits x.natAbs := by unfold Lib.itoa; rw [if_pos hx]
    have e2 := l1I_dec (u := x.natAbs) (by omega)
    rw [e, List.head?_cons, if_pos rfl, List.drop_succ_cons, List.drop_zero, e2, if_pos ⟨rfl, by show ((x.natAbs : Nat) : Int) ≠ 0; omega⟩]
    congr 1
    show -((x.natAbs : Nat) : Int) = x
    omega
  · have e : Lib.itoa x = Lib.decDigits x.toNat := by unfold Lib.itoa; rw [if_neg hx]
    have e2 := l1I_dec (u := x.toNat) (by omega)
    obtain ⟨c, r, hcr, hd⟩ := dec_cons x.toNat
    have h45 : ¬ (Lib.decDigits x.toNat).head? = some 45 := by
      rw [hcr]
      simp only [List.head?_cons, Option.some.injEq]
      intro hc
      subst hc
      simp [isDig] at hd
    rw [e, if_neg h45, e2, if_pos rfl]
    congr 1
    show ((x.toNat : Nat) : Int) = x
    omega
theorem numR_in {l : List UInt8} {x : Int} (h : numR l = some x) : -10000000000000000 ≤ x ∧ x ≤ 10000000000000000 := by
  have p16 : (10 : Nat) ^ 16 = 10000000000000000 := by decide
  have key : ∀ {q : List UInt8}, (l1I q 16).2 = true → (0 ≤ (l1I q 16).1 ∧ (l1I q 16).1 ≤ 10000000000000000) := fun {q} hq => by
    obtain ⟨a1, a2, a3, a4⟩ := l1I_true hq
    rw [a3]
    simp only [canon, Bool.and_eq_true] at a2
    have := dval_lt q 0 0 a2.1.2 (by decide)
    have h2 : (10 : Nat) ^ (0 + q.length) ≤ 10 ^ 16 := Nat.pow_le_pow_right (by decide) (by omega)
    omega
  unfold numR at h
  split at h
  · split at h
    · rename_i hc; cases h; have := key hc.1; omega
    · cases h
  · split at h
    · rename_i hc; cases h; have := key hc; omega
    · cases h
def parseN (s : ByteArray) : Int := match L_strconv_ParseInt s 10 64 with
  | some (.inl v) => v
  | some (.inr v) => v
  | none => 0
theorem parseN_itoa {s : ByteArray} {x : Int} (hs : s.toList = Lib.itoa x) (h : -1000000000000000 ≤ x ∧ x ≤ 1000000000000000) : parseN s = x := by
  have hd : s.data.toList = Lib.itoa x := by rw [← Go.Lib.toList_data]; exact hs
  have hsz : s.size ≤ 281474976710656 := by
    rw [← tl_len, hs]
    unfold Lib.itoa
    split
    · have := dec_len x.natAbs (by omega); simp; omega
    · have := dec_len x.toNat (by omega); omega
  unfold parseN L_strconv_ParseInt
  rw [if_pos ⟨rfl, rfl, hsz⟩, hd, parse_itoa h]
/-- which error's name a text is -/
def idxN (s : ByteArray) : Int := if (nameS 5).toList = s.toList then 5 else if (nameS 4).toList = s.toList then 4 else if (nameS 3).toList = s.toList then 3 else if (nameS 2).toList = s.toList then 2 else if (nameS 1).toList = s.toList then 1 else 0
theorem idxN_in (s : ByteArray) : 0 ≤ idxN s ∧ idxN s ≤ 5 := by
  unfold idxN
  repeat' split
  all_goals decide
theorem idxN_ne {s : ByteArray} (h : ¬ idxN s = 0) : nameS (idxN s) = s := by
  unfold idxN at h ⊢
  by_cases h5 : (nameS 5).toList = s.toList
  · rw [if_pos h5]; exact ba_eqL h5
  rw [if_neg h5] at h ⊢
  by_cases h4 : (nameS 4).toList = s.toList
  · rw [if_pos h4]; exact ba_eqL h4
  rw [if_neg h4] at h ⊢
  by_cases h3 : (nameS 3).toList = s.toList
  · rw [if_pos h3]; exact ba_eqL h3
  rw [if_neg h3] at h ⊢
  by_cases h2 : (nameS 2).toList = s.toList
  · rw [if_pos h2]; exact ba_eqL h2
  rw [if_neg h2] at h ⊢
  by_cases h1 : (nameS 1).toList = s.toList
  · rw [if_pos h1]; exact ba_eqL h1
  rw [if_neg h1] at h
  exact absurd rfl h
theorem five {i : Int} (h : 1 ≤ i ∧ i ≤ 5) : i = 1 ∨ i = 2 ∨ i = 3 ∨ i = 4 ∨ i = 5 := by omega
/-- what a text may be the text of -/
def candV (s : ByteArray) : V3 :=
  if s.toList.head? = some 39 then (2, 0, ⟨s.toList.tail.toArray⟩) else
  if s.toList = [70, 65, 76, 83, 69] then (3, 0, em) else if s.toList = [84, 82, 85, 69] then (3, 1, em) else
  if s.toList.head? = some 35 then (if idxN s = 0 then (0, 0, em) else (4, idxN s, em)) else
  if s.toList = [] then (0, 0, em) else (1, parseN s, em)
/-- a text, read as a value: it is that value's text -/
def readV (s : ByteArray) : Int × Int × ByteArray × Bool := if okV (candV s).1 (candV s).2.1 (candV s).2.2 = true ∧ (vtext (candV s).1 (candV s).2.1 (candV s).2.2).toList = s.toList then ((candV s).1, (candV s).2.1, (candV s).2.2, true) else (0, 0, ⟨#[]⟩, false)
theorem beqI (c : UInt8) (k : Nat) (hk : k < 256) : ((c.toNat : Int) == (k : Int)) = (some c == some (UInt8.ofNat k)) := by
  by_cases e : c = UInt8.ofNat k
  · subst e
    have : (UInt8.ofNat k).toNat = k := by rw [UInt8.toNat_ofNat']; omega
    simp [this]
  · have h1 : ¬ (c.toNat : Int) = (k : Int) := fun h => e (by
      have : c.toNat = k := by omega
      rw [← this]; simp)
    have h2 : ¬ some c = some (UInt8.ofNat k) := fun h => e (by simpa using h)
    rw [beq_eq_false_iff_ne.2 h1, beq_eq_false_iff_ne.2 h2]
theorem toList_mk (l : List UInt8) : (⟨l.toArray⟩ : ByteArray).toList = l := by rw [Go.Lib.toList_data]
theorem l1Dec_loop (n : Nat) : ∀ (f u : Nat) (s : ByteArray), u < 10 ^ (f + 1) → u ≤ 9223372036854775807 → s.size + f ≤ 1000 → ∃ (q : Nat) (t : ByteArray), q < 10 ∧ t.size ≤ s.size + f ∧ UInt8.ofNat (48 + q) :: t.data.toList = Lib.decDigits u ++ s.data.toList ∧ ∀ M, f + 1 ≤ M → loopF (B_spec_l1Dec_30 n) M ((u : Int), s) = some ((q : Int), t)
  | f, u, s, h1, h2, h3 => by
    by_cases h : u < 10
    · refine ⟨u, s, h, by omega, by rw [Lib.decDigits, dif_pos h]; rfl, fun M hM => ?_⟩
      obtain ⟨M, rfl⟩ : ∃ k, M = k + 1 := ⟨M - 1, by omega⟩
      have hc : ¬ (u : Int) ≥ 10 := by omega
      rw [loopF_inr (r := ((u : Int), s)) (by simp [B_spec_l1Dec_30, run_done, run_fail, run_ask, run_opt, run_inl, run_inr, Option.bind_some, apart_b, apart_i, apart_s, hc])]
    · cases f with
      | zero => simp at h1; omega
      | succ f =>
        have e1 : Int.tmod (u : Int) 10 = ((u % 10 : Nat) : Int) := by rw [Int.tmod_eq_emod_of_nonneg (by omega)]; omega
        have e2 : IntKind.i64.wrap (Int.tdiv (u : Int) 10) = ((u / 10 : Nat) : Int) := by
          rw [Int.tdiv_eq_ediv_of_nonneg (by omega), wrap64 (by omega)]; omega
        have e3 := u8w (q := u % 10) (by omega)
        have h4 : u / 10 < 10 ^ (f + 1) := by
          have : 10 ^ (f + 1 + 1) = 10 ^ (f + 1) * 10 := Nat.pow_succ 10 (f + 1)
          omega
        let d : ByteArray := ⟨#[UInt8.ofNat (48 + u % 10)]⟩
        have hd : d.size = 1 := rfl
        have hs : (d ++ s).size = s.size + 1 := by rw [ByteArray.size_append]; omega
        obtain ⟨q, t, g1, g2, g3, g4⟩ := l1Dec_loop n f (u / 10) (d ++ s) h4 (by omega) (by omega)
        refine ⟨q, t, g1, by omega, ?_, fun M hM => ?_⟩
        · rw [g3, ba_app, Lib.decDigits.eq_1 u, dif_neg h]
          simp [d]
        · obtain ⟨M, rfl⟩ : ∃ k, M = k + 1 := ⟨M - 1, by omega⟩
          have hc : (u : Int) ≥ 10 := by omega
          have hz : d.size + s.size ≤ 9223372036854775807 := by omega
          rw [loopF_inl (v' := (((u / 10 : Nat) : Int), d ++ s)) (by
            simp only [B_spec_l1Dec_30, run_done, run_fail, run_ask, run_opt, run_inl, run_inr, Option.bind_some, apart_b, apart_i, apart_s, e1, e2, e3, bytesOf, Option.map_some, Int.toNat_natCast]
            rw [if_pos (by simpa using hc), if_pos (by simp), if_pos (decide_eq_true hz)])]
          exact g4 M (by omega)
theorem un_l1Dec_pos (u : Nat) (h : u ≤ 1000000000000000000) : ∀ n, 25 ≤ n → F_spec_l1Dec n (u : Int) = some (decS u) := by
  intro n hn
  obtain ⟨m, rfl, hm⟩ := up1 hn
  have p : (10 : Nat) ^ (18 + 1) = 10000000000000000000 := by decide
  obtain ⟨q, t, g1, g2, g3, g4⟩ := l1Dec_loop m 18 u ⟨#[]⟩ (by omega) (by omega) (by show 0 + 18 ≤ 1000; decide)
  have g4 := g4 m (by omega)
  have e3 := u8w g1
  have hc : ¬ (u : Int) < 0 := by omega
  have hz : (⟨#[UInt8.ofNat (48 + q)]⟩ : ByteArray).size + t.size ≤ 9223372036854775807 := by
    have g2 : t.size ≤ 0 + 18 := g2
    show 1 + t.size ≤ _
    omega
  simp only [F_spec_l1Dec, T_spec_l1Dec, run_done, run_fail, run_ask, run_opt, run_inl, run_inr, Option.bind_some, apart_b, apart_i, apart_s, g4, e3, bytesOf, Option.map_some, Int.toNat_natCast]
  rw [if_neg (by simp), if_pos (by simp), if_pos (decide_eq_true hz)]
  congr 1
  apply ba_eq
  rw [ba_app]
  have e : Lib.itoa (u : Int) = Lib.decDigits u := by unfold Lib.itoa; rw [if_neg hc]; simp
  show UInt8.ofNat (48 + q) :: t.data.toList = Lib.itoa (u : Int)
  rw [g3, e]
  simp
theorem ev_spec_l1Dec (x : Int) (h : -1000000000000000000 ≤ x ∧ x ≤ 1000000000000000000) : Ev (F_spec_l1Dec · x) (decS x) := by
  by_cases hx : x < 0
  · refine ⟨30, fun n hn => ?_⟩
    obtain ⟨m, rfl, hm⟩ := up1 hn
    have e1 : IntKind.i64.wrap (0 - x) = ((x.natAbs : Nat) : Int) := by rw [wrap64 (by omega)]; omega
    have g := un_l1Dec_pos x.natAbs (by omega) m (by omega)
    have hl := dec_len x.natAbs (by omega)
    have e0 : Lib.itoa ((x.natAbs : Nat) : Int) = Lib.decDigits x.natAbs := by unfold Lib.itoa; rw [if_neg (by omega)]; simp
    have hz : (⟨#[45]⟩ : ByteArray).size + (decS ((x.natAbs : Nat) : Int)).size ≤ 9223372036854775807 := by
      have : (decS ((x.natAbs : Nat) : Int)).size = (Lib.decDigits x.natAbs).length := by rw [ba_size]; simp [decS, e0]
      show 1 + _ ≤ _
      omega
    simp only [F_spec_l1Dec, T_spec_l1Dec, run_done, run_fail, run_ask, run_opt, run_inl, run_inr, Option.bind_some, apart_b, apart_i, apart_s, e1, g]
    rw [if_pos (by simpa using hx), if_pos (decide_eq_true hz)]
    congr 1
    apply ba_eq
    rw [ba_app]
    have e : Lib.itoa x = 45 :: Lib.decDigits x.natAbs := by unfold Lib.itoa; rw [if_pos hx]
    show 45 :: (Lib.itoa ((x.natAbs : Nat) : Int)) = Lib.itoa x
    rw [e, e0]
  · obtain ⟨u, rfl⟩ : ∃ u : Nat, x = u := ⟨x.toNat, by omega⟩
    exact ⟨25, un_l1Dec_pos u (by omega)⟩
theorem ev_FormatInt (x : Int) (h : -9223372036854775808 ≤ x ∧ x ≤ 9223372036854775807) : Ev (F_strconv_FormatInt · x 10) (decS x) := by
  refine ⟨1, fun n hn => ?_⟩
  obtain ⟨m, rfl, hm⟩ := up1 hn
  show L_strconv_FormatInt x 10 = _
  unfold L_strconv_FormatInt
  rw [if_pos ⟨rfl, h⟩]
  rfl
theorem ev_impl_decimal (x : Int) (h : -9223372036854775808 ≤ x ∧ x ≤ 9223372036854775807) : Ev (F_impl_decimal · x) (decS x) := by
  obtain ⟨n1, h1⟩ := ev_FormatInt x h
  refine ⟨n1 + 1, fun n hn => ?_⟩
  obtain ⟨m, rfl, hm⟩ := up1 hn
  have h1 := h1 m (by omega)
  dsimp only at h1
  simp only [F_impl_decimal, T_impl_decimal, run_done, run_fail, run_ask, run_opt, run_inl, run_inr, Option.bind_some, apart_b, apart_i, apart_s, h1]
theorem ev_spec_l2Name (x : Int) (h : 0 ≤ x ∧ x ≤ 5) : Ev (F_spec_l2Name · x) (nameS x) := by
  refine ⟨1, fun n hn => ?_⟩
  obtain ⟨m, rfl, hm⟩ := up1 hn
  simp only [F_spec_l2Name, T_spec_l2Name, run_done, run_fail, run_ask, run_opt, run_inl, run_inr, Option.bind_some, apart_b, apart_i, apart_s]
  rcases lt6 h with rfl | rfl | rfl | rfl | rfl | rfl <;> simp [cellS, nameS]
theorem ev_impl_errorText (x : Int) (h : 0 ≤ x ∧ x ≤ 5) : Ev (F_impl_errorText · x) (nameS x) := by
  refine ⟨1, fun n hn => ?_⟩
  obtain ⟨m, rfl, hm⟩ := up1 hn
  simp only [F_impl_errorText, T_impl_errorText, run_done, run_fail, run_ask, run_opt, run_inl, run_inr, Option.bind_some, apart_b, apart_i, apart_s]
  rcases lt6 h with rfl | rfl | rfl | rfl | rfl | rfl <;> simp [cellS, nameS]
theorem ev_spec_l2Bool (x : Int) : Ev (F_spec_l2Bool · x) (boolS x) := by
  refine ⟨1, fun n hn => ?_⟩
  obtain ⟨m, rfl, hm⟩ := up1 hn
  simp only [F_spec_l2Bool, T_spec_l2Bool, run_done, run_fail, run_ask, run_opt, run_inl, run_inr, Option.bind_some, apart_b, apart_i, apart_s]
  by_cases h : x = 1 <;> simp [boolS, h]
theorem ev_spec_ValueText (k x : Int) (s : ByteArray) (hb : s.size ≤ 140737488351232) : Ev (F_spec_ValueText · k x s) (if okV k x s = true then vtext k x s else ⟨#[]⟩) := by
  cases ho : okV k x s with
  | false =>
    obtain ⟨n1, h1⟩ := ev_spec_ValueOk k x s hb
    refine ⟨n1 + 1, fun n hn => ?_⟩
    obtain ⟨m, rfl, hm⟩ := up1 hn
    have h1 := h1 m (by omega)
    dsimp only at h1
    simp only [F_spec_ValueText, T_spec_ValueText, run_done, run_fail, run_ask, run_opt, run_inl, run_inr, Option.bind_some, apart_b, apart_i, apart_s, h1]
    simp [ho]
  | true =>
    by_cases k1 : k = 1
    · subst k1
      have := okV_1 ho
      obtain ⟨n1, h1⟩ := ev_spec_ValueOk 1 x s hb
      obtain ⟨n2, h2⟩ := ev_spec_l1Dec x (by omega)
      refine ⟨n1 + n2 + 1, fun n hn => ?_⟩
      obtain ⟨m, rfl, hm⟩ := up1 hn
      have h1 := h1 m (by omega)
      dsimp only at h1
      have h2 := h2 m (by omega)
      dsimp only at h2
      simp only [F_spec_ValueText, T_spec_ValueText, run_done, run_fail, run_ask, run_opt, run_inl, run_inr, Option.bind_some, apart_b, apart_i, apart_s, h1, h2]
      simp [ho, vtext]
    · by_cases k2 : k = 2
      · subst k2
        have := okV_2 ho
        have hz : (⟨#[39]⟩ : ByteArray).size + s.size ≤ 9223372036854775807 := by show 1 + s.size ≤ _; omega
        obtain ⟨n1, h1⟩ := ev_spec_ValueOk 2 x s hb
        refine ⟨n1 + 1, fun n hn => ?_⟩
        obtain ⟨m, rfl, hm⟩ := up1 hn
        have h1 := h1 m (by omega)
        dsimp only at h1
        simp only [F_spec_ValueText, T_spec_ValueText, run_done, run_fail, run_ask, run_opt, run_inl, run_inr, Option.bind_some, apart_b, apart_i, apart_s, h1]
        simp [ho, vtext, hz]
      · by_cases k3 : k = 3
        · subst k3
          obtain ⟨n1, h1⟩ := ev_spec_ValueOk 3 x s hb
          obtain ⟨n2, h2⟩ := ev_spec_l2Bool x
          refine ⟨n1 + n2 + 1, fun n hn => ?_⟩
          obtain ⟨m, rfl, hm⟩ := up1 hn
          have h1 := h1 m (by omega)
          dsimp only at h1
          have h2 := h2 m (by omega)
          dsimp only at h2
          simp only [F_spec_ValueText, T_spec_ValueText, run_done, run_fail, run_ask, run_opt, run_inl, run_inr, Option.bind_some, apart_b, apart_i, apart_s, h1, h2]
          simp [ho, vtext]
        · by_cases k4 : k = 4
          · subst k4
            have := okV_4 ho
            obtain ⟨n1, h1⟩ := ev_spec_ValueOk 4 x s hb
            obtain ⟨n2, h2⟩ := ev_spec_l2Name x (by omega)
            refine ⟨n1 + n2 + 1, fun n hn => ?_⟩
            obtain ⟨m, rfl, hm⟩ := up1 hn
            have h1 := h1 m (by omega)
            dsimp only at h1
            have h2 := h2 m (by omega)
            dsimp only at h2
            simp only [F_spec_ValueText, T_spec_ValueText, run_done, run_fail, run_ask, run_opt, run_inl, run_inr, Option.bind_some, apart_b, apart_i, apart_s, h1, h2]
            simp [ho, vtext]
          · obtain ⟨n1, h1⟩ := ev_spec_ValueOk k x s hb
            refine ⟨n1 + 1, fun n hn => ?_⟩
            obtain ⟨m, rfl, hm⟩ := up1 hn
            have h1 := h1 m (by omega)
            dsimp only at h1
            simp only [F_spec_ValueText, T_spec_ValueText, run_done, run_fail, run_ask, run_opt, run_inl, run_inr, Option.bind_some, apart_b, apart_i, apart_s, h1]
            simp [ho, vtext, k1, k2, k3, k4]
theorem ev_impl_valueText (k x : Int) (s : ByteArray) (ho : okV k x s = true) : Ev (F_impl_valueText · k x s) (vtext k x s) := by
  by_cases k1 : k = 1
  · subst k1
    have := okV_1 ho
    obtain ⟨n1, h1⟩ := ev_impl_decimal x (by omega)
    refine ⟨n1 + 1, fun n hn => ?_⟩
    obtain ⟨m, rfl, hm⟩ := up1 hn
    have h1 := h1 m (by omega)
    dsimp only at h1
    simp only [F_impl_valueText, T_impl_valueText, run_done, run_fail, run_ask, run_opt, run_inl, run_inr, Option.bind_some, apart_b, apart_i, apart_s, h1]
    simp [vtext]
  · by_cases k2 : k = 2
    · subst k2
      have := okV_2 ho
      have hz : (⟨#[39]⟩ : ByteArray).size + s.size ≤ 9223372036854775807 := by show 1 + s.size ≤ _; omega
      refine ⟨1, fun n hn => ?_⟩
      obtain ⟨m, rfl, hm⟩ := up1 hn
      simp only [F_impl_valueText, T_impl_valueText, run_done, run_fail, run_ask, run_opt, run_inl, run_inr, Option.bind_some, apart_b, apart_i, apart_s]
      simp [vtext, hz]
    · by_cases k3 : k = 3
      · subst k3
        have := okV_3 ho
        refine ⟨1, fun n hn => ?_⟩
        obtain ⟨m, rfl, hm⟩ := up1 hn
        simp only [F_impl_valueText, T_impl_valueText, run_done, run_fail, run_ask, run_opt, run_inl, run_inr, Option.bind_some, apart_b, apart_i, apart_s]
        have c : x = 0 ∨ x = 1 := by omega
        rcases c with rfl | rfl <;> simp [cellS, vtext, boolS]
      · by_cases k4 : k = 4
        · subst k4
          have := okV_4 ho
          obtain ⟨n1, h1⟩ := ev_impl_errorText x (by omega)
          refine ⟨n1 + 1, fun n hn => ?_⟩
          obtain ⟨m, rfl, hm⟩ := up1 hn
          have h1 := h1 m (by omega)
          dsimp only at h1
          simp only [F_impl_valueText, T_impl_valueText, run_done, run_fail, run_ask, run_opt, run_inl, run_inr, Option.bind_some, apart_b, apart_i, apart_s, h1]
          simp [vtext]
        · refine ⟨1, fun n hn => ?_⟩
          obtain ⟨m, rfl, hm⟩ := up1 hn
          simp only [F_impl_valueText, T_impl_valueText, run_done, run_fail, run_ask, run_opt, run_inl, run_inr, Option.bind_some, apart_b, apart_i, apart_s]
          simp [vtext, k1, k2, k3, k4]
theorem ev_impl_ColText (x : Int) : Ev (F_impl_ColText · x) (colS x) := by
  by_cases h : 1 ≤ x ∧ x ≤ 52
  · by_cases h26 : x ≤ 26
    · have w1 : IntKind.i64.wrap (65 + x) = 65 + x := wrap64 (by omega)
      have w2 : IntKind.i64.wrap (65 + x - 1) = 65 + x - 1 := wrap64 (by omega)
      have w3 : IntKind.u8.wrap (65 + x - 1) = 65 + x - 1 := u8wrap (by omega)
      have e : (65 + x - 1).toNat = 64 + x.toNat := by omega
      obtain ⟨n1, h1⟩ := ev_impl_within x 1 52
      refine ⟨n1 + 1, fun n hn => ?_⟩
      obtain ⟨m, rfl, hm⟩ := up1 hn
      have h1 := h1 m (by omega)
      dsimp only at h1
      simp only [F_impl_ColText, T_impl_ColText, run_done, run_fail, run_ask, run_opt, run_inl, run_inr, Option.bind_some, apart_b, apart_i, apart_s, h1]
      simp only [w1, w2, w3, bytesOf, Option.map_some, e]
      simp [h, h26, colS, show ¬ x < 1 by omega, show ¬ 52 < x by omega]
    · have w1 : IntKind.i64.wrap (x - 1) = x - 1 := wrap64 (by omega)
      have e1 : Int.tdiv (x - 1) 26 = 1 := by rw [Int.tdiv_eq_ediv_of_nonneg (by omega)]; omega
      have e2 : Int.tmod (x - 1) 26 = (((x.toNat - 1) % 26 : Nat) : Int) := by rw [Int.tmod_eq_emod_of_nonneg (by omega)]; omega
      have w2 : IntKind.u8.wrap (IntKind.i64.wrap (IntKind.i64.wrap (65 + IntKind.i64.wrap 1) - 1)) = 65 := by decide
      have w3 : IntKind.i64.wrap (65 + (((x.toNat - 1) % 26 : Nat) : Int)) = 65 + (((x.toNat - 1) % 26 : Nat) : Int) := wrap64 (by omega)
      have w4 : IntKind.u8.wrap (65 + (((x.toNat - 1) % 26 : Nat) : Int)) = 65 + (((x.toNat - 1) % 26 : Nat) : Int) := u8wrap (by omega)
      have e3 : (65 + (((x.toNat - 1) % 26 : Nat) : Int)).toNat = 65 + (x.toNat - 1) % 26 := by omega
      obtain ⟨n1, h1⟩ := ev_impl_within x 1 52
      refine ⟨n1 + 1, fun n hn => ?_⟩
      obtain ⟨m, rfl, hm⟩ := up1 hn
      have h1 := h1 m (by omega)
      dsimp only at h1
      simp only [F_impl_ColText, T_impl_ColText, run_done, run_fail, run_ask, run_opt, run_inl, run_inr, Option.bind_some, apart_b, apart_i, apart_s, h1]
      simp only [w1, e1, e2, w2, w3, w4, e3, bytesOf, Option.map_some]
      simp [h, h26, colS, show ¬ x < 1 by omega, show ¬ 52 < x by omega]
  · have hx : x < 1 ∨ x > 52 := by omega
    obtain ⟨n1, h1⟩ := ev_impl_within x 1 52
    refine ⟨n1 + 1, fun n hn => ?_⟩
    obtain ⟨m, rfl, hm⟩ := up1 hn
    have h1 := h1 m (by omega)
    dsimp only at h1
    simp only [F_impl_ColText, T_impl_ColText, run_done, run_fail, run_ask, run_opt, run_inl, run_inr, Option.bind_some, apart_b, apart_i, apart_s, h1]
    simp [h, colS, hx]
theorem colT_step (n x : Nat) (s : ByteArray) (h : 1 ≤ x ∧ x ≤ 1000) (hs : s.size ≤ 100) : (B_spec_ColText_30 n ((x : Int), s)).run = some (.inl ((((x - 1) / 26 : Nat) : Int), (⟨#[UInt8.ofNat (65 + (x - 1) % 26)]⟩ : ByteArray) ++ s)) := by
  have w1 : IntKind.i64.wrap ((x : Int) - 1) = ((x - 1 : Nat) : Int) := by rw [wrap64 (by omega)]; omega
  have e1 : Int.tdiv ((x - 1 : Nat) : Int) 26 = (((x - 1) / 26 : Nat) : Int) := by rw [Int.tdiv_eq_ediv_of_nonneg (by omega)]; omega
  have e2 : Int.tmod ((x - 1 : Nat) : Int) 26 = (((x - 1) % 26 : Nat) : Int) := by rw [Int.tmod_eq_emod_of_nonneg (by omega)]; omega
  have w2 : IntKind.i64.wrap (((x - 1) / 26 : Nat) : Int) = (((x - 1) / 26 : Nat) : Int) := wrap64 (by omega)
  have w3 : IntKind.i64.wrap (65 + (((x - 1) % 26 : Nat) : Int)) = 65 + (((x - 1) % 26 : Nat) : Int) := wrap64 (by omega)
  have w4 : IntKind.u8.wrap (65 + (((x - 1) % 26 : Nat) : Int)) = 65 + (((x - 1) % 26 : Nat) : Int) := u8wrap (by omega)
  have e3 : (65 + (((x - 1) % 26 : Nat) : Int)).toNat = 65 + (x - 1) % 26 := by omega
  have hz : (⟨#[UInt8.ofNat (65 + (x - 1) % 26)]⟩ : ByteArray).size + s.size ≤ 9223372036854775807 := by show 1 + s.size ≤ _; omega
  have hc : (x : Int) > 0 := by omega
  simp only [B_spec_ColText_30, run_done, run_fail, run_ask, run_opt, run_inl, run_inr, Option.bind_some, apart_b, apart_i, apart_s, w1, e1, e2, w2, w3, w4, e3, bytesOf, Option.map_some]
  rw [if_pos (decide_eq_true hc), if_pos (by simp), if_pos (decide_eq_true hz)]
theorem colT_end (n : Nat) (s : ByteArray) : (B_spec_ColText_30 n (((0 : Nat) : Int), s)).run = some (.inr s) := by
  simp [B_spec_ColText_30, run_done, run_fail, run_ask, run_opt, run_inl, run_inr, Option.bind_some, apart_b, apart_i, apart_s]
theorem ev_spec_ColText (x : Int) : Ev (F_spec_ColText · x) (colS x) := by
  by_cases h : 1 ≤ x ∧ x ≤ 52
  · obtain ⟨n1, h1⟩ := ev_spec_l1In x 1 52
    refine ⟨n1 + 10, fun n hn => ?_⟩
    obtain ⟨m, rfl, hm⟩ := up1 hn
    have h1 := h1 m (by omega)
    dsimp only at h1
    obtain ⟨u, rfl⟩ : ∃ u : Nat, x = u := ⟨x.toNat, by omega⟩
    obtain ⟨M, hM⟩ : ∃ M, m = M + 3 := ⟨m - 3, by omega⟩
    have key : loopF (B_spec_ColText_30 m) m ((u : Int), (⟨#[]⟩ : ByteArray)) = some (colS u) := by
      rw [hM, loopF_inl (colT_step _ u ⟨#[]⟩ (by omega) (by decide))]
      by_cases h26 : u ≤ 26
      · have e : (u - 1) / 26 = 0 := by omega
        have e2 : 65 + (u - 1) % 26 = 64 + u := by omega
        rw [e, loopF_inr (colT_end _ _), e2]
        congr 1
        apply ba_eq
        rw [ba_app]
        simp [colS, show ¬ (u : Int) < 1 by omega, show ¬ (52 : Int) < u by omega, show (u : Int) ≤ 26 by omega]
      · have e : (u - 1) / 26 = 1 := by omega
        have e4 : (⟨#[UInt8.ofNat (65 + (u - 1) % 26)]⟩ ++ (⟨#[]⟩ : ByteArray)).size ≤ 100 := by rw [ByteArray.size_append]; show 1 + 0 ≤ 100; decide
        rw [e, loopF_inl (colT_step _ 1 _ (by decide) e4)]
        have e3 : (1 - 1) / 26 = 0 := by decide
        rw [e3, loopF_inr (colT_end _ _)]
        congr 1
        apply ba_eq
        rw [ba_app, ba_app]
        simp [colS, show ¬ (u : Int) < 1 by omega, show ¬ (52 : Int) < u by omega, show ¬ (u : Int) ≤ 26 by omega]
    simp only [F_spec_ColText, T_spec_ColText, run_done, run_fail, run_ask, run_opt, run_inl, run_inr, Option.bind_some, apart_b, apart_i, apart_s, h1, key]
    simp [h]
  · have hx : x < 1 ∨ x > 52 := by omega
    obtain ⟨n1, h1⟩ := ev_spec_l1In x 1 52
    refine ⟨n1 + 1, fun n hn => ?_⟩
    obtain ⟨m, rfl, hm⟩ := up1 hn
    have h1 := h1 m (by omega)
    dsimp only at h1
    simp only [F_spec_ColText, T_spec_ColText, run_done, run_fail, run_ask, run_opt, run_inl, run_inr, Option.bind_some, apart_b, apart_i, apart_s, h1]
    simp [h, colS, hx]
theorem ev_spec_PlaceText (c r : Int) (fc fr : Bool) : Ev (F_spec_PlaceText · c r fc fr) (placeS c r fc fr) := by
  cases ho : okRef c r with
  | false =>
    obtain ⟨n1, h1⟩ := ev_spec_RefOk c r
    refine ⟨n1 + 1, fun n hn => ?_⟩
    obtain ⟨m, rfl, hm⟩ := up1 hn
    have h1 := h1 m (by omega)
    dsimp only at h1
    simp only [F_spec_PlaceText, T_spec_PlaceText, run_done, run_fail, run_ask, run_opt, run_inl, run_inr, Option.bind_some, apart_b, apart_i, apart_s, h1]
    simp [ho, placeS]
  | true =>
    have h := okRef_in ho
    have s1 := colS_size c
    have s2 := decS_size' h.2
    have d1 : (⟨#[36]⟩ : ByteArray).size = 1 := rfl
    have z1 : (⟨#[36]⟩ : ByteArray).size + (colS c).size ≤ 9223372036854775807 := by omega
    have z2 : ((⟨#[36]⟩ : ByteArray) ++ colS c).size + (⟨#[36]⟩ : ByteArray).size ≤ 9223372036854775807 := by rw [ByteArray.size_append]; omega
    have z3 : (((⟨#[36]⟩ : ByteArray) ++ colS c) ++ (⟨#[36]⟩ : ByteArray)).size + (decS r).size ≤ 9223372036854775807 := by rw [ByteArray.size_append, ByteArray.size_append]; omega
    have z4 : ((⟨#[36]⟩ : ByteArray) ++ colS c).size + (decS r).size ≤ 9223372036854775807 := by rw [ByteArray.size_append]; omega
    have z5 : (colS c).size + (⟨#[36]⟩ : ByteArray).size ≤ 9223372036854775807 := by omega
    have z6 : (colS c ++ (⟨#[36]⟩ : ByteArray)).size + (decS r).size ≤ 9223372036854775807 := by rw [ByteArray.size_append]; omega
    have z7 : (colS c).size + (decS r).size ≤ 9223372036854775807 := by omega
    obtain ⟨n1, h1⟩ := ev_spec_RefOk c r
    obtain ⟨n2, h2⟩ := ev_spec_ColText c
    obtain ⟨n3, h3⟩ := ev_spec_l1Dec r (by omega)
    refine ⟨n1 + n2 + n3 + 1, fun n hn => ?_⟩
    obtain ⟨m, rfl, hm⟩ := up1 hn
    have h1 := h1 m (by omega)
    dsimp only at h1
    have h2 := h2 m (by omega)
    dsimp only at h2
    have h3 := h3 m (by omega)
    dsimp only at h3
    simp only [F_spec_PlaceText, T_spec_PlaceText, run_done, run_fail, run_ask, run_opt, run_inl, run_inr, Option.bind_some, apart_b, apart_i, apart_s, h1, h2, h3]
    simp only [ho, decide_eq_true z1, decide_eq_true z2, decide_eq_true z3, decide_eq_true z4, decide_eq_true z5, decide_eq_true z6, decide_eq_true z7, if_true, Bool.not_true, Bool.false_eq_true, if_false]
    cases fc <;> cases fr <;> simp only [if_true, if_false, Bool.false_eq_true, Option.some.injEq] <;> apply ba_eq <;> simp [placeS, ho, ba_app]
theorem ev_impl_PlaceText (c r : Int) (fc fr : Bool) : Ev (F_impl_PlaceText · c r fc fr) (placeS c r fc fr) := by
  cases ho : okRef c r with
  | false =>
    obtain ⟨n1, h1⟩ := ev_impl_RefOk c r
    refine ⟨n1 + 1, fun n hn => ?_⟩
    obtain ⟨m, rfl, hm⟩ := up1 hn
    have h1 := h1 m (by omega)
    dsimp only at h1
    simp only [F_impl_PlaceText, T_impl_PlaceText, run_done, run_fail, run_ask, run_opt, run_inl, run_inr, Option.bind_some, apart_b, apart_i, apart_s, h1]
    simp [ho, placeS]
  | true =>
    have h := okRef_in ho
    have s1 := colS_size c
    have s2 := decS_size' h.2
    have d1 : (⟨#[36]⟩ : ByteArray).size = 1 := rfl
    have d0 : (⟨#[]⟩ : ByteArray).size = 0 := rfl
    have z1 : (⟨#[36]⟩ : ByteArray).size + (colS c).size ≤ 9223372036854775807 := by omega
    have z2 : ((⟨#[36]⟩ : ByteArray) ++ colS c).size + (⟨#[36]⟩ : ByteArray).size ≤ 9223372036854775807 := by rw [ByteArray.size_append]; omega
    have z3 : (((⟨#[36]⟩ : ByteArray) ++ colS c) ++ (⟨#[36]⟩ : ByteArray)).size + (decS r).size ≤ 9223372036854775807 := by rw [ByteArray.size_append, ByteArray.size_append]; omega
    have z4 : ((⟨#[36]⟩ : ByteArray) ++ colS c).size + (decS r).size ≤ 9223372036854775807 := by rw [ByteArray.size_append]; omega
    have y1 : (⟨#[]⟩ : ByteArray).size + (colS c).size ≤ 9223372036854775807 := by omega
    have y2 : ((⟨#[]⟩ : ByteArray) ++ colS c).size + (⟨#[36]⟩ : ByteArray).size ≤ 9223372036854775807 := by rw [ByteArray.size_append]; omega
    have y3 : (((⟨#[]⟩ : ByteArray) ++ colS c) ++ (⟨#[36]⟩ : ByteArray)).size + (decS r).size ≤ 9223372036854775807 := by rw [ByteArray.size_append, ByteArray.size_append]; omega
    have y4 : ((⟨#[]⟩ : ByteArray) ++ colS c).size + (decS r).size ≤ 9223372036854775807 := by rw [ByteArray.size_append]; omega
    obtain ⟨n1, h1⟩ := ev_impl_RefOk c r
    obtain ⟨n2, h2⟩ := ev_impl_ColText c
    obtain ⟨n3, h3⟩ := ev_impl_decimal r (by omega)
    refine ⟨n1 + n2 + n3 + 1, fun n hn => ?_⟩
    obtain ⟨m, rfl, hm⟩ := up1 hn
    have h1 := h1 m (by omega)
    dsimp only at h1
    have h2 := h2 m (by omega)
    dsimp only at h2
    have h3 := h3 m (by omega)
    dsimp only at h3
    simp only [F_impl_PlaceText, T_impl_PlaceText, run_done, run_fail, run_ask, run_opt, run_inl, run_inr, Option.bind_some, apart_b, apart_i, apart_s, h1, h2, h3]
    simp only [ho, decide_eq_true z1, decide_eq_true z2, decide_eq_true z3, decide_eq_true z4, decide_eq_true y1, decide_eq_true y2, decide_eq_true y3, decide_eq_true y4, if_true, Bool.not_true, Bool.false_eq_true, if_false]
    cases fc <;> cases fr <;> simp only [if_true, if_false, Bool.false_eq_true, Option.some.injEq] <;> apply ba_eq <;> simp [placeS, ho, ba_app]
theorem ev_laws_toPlace (c r : Int) (fc fr : Bool) : Ev (F_laws_toPlace · c r fc fr) (c, r, fc, fr) := by
  obtain ⟨n1, h1⟩ := ev_laws_toRef c r
  refine ⟨n1 + 1, fun n hn => ?_⟩
  obtain ⟨m, rfl, hm⟩ := up1 hn
  have h1 := h1 m (by omega)
  dsimp only at h1
  simp only [F_laws_toPlace, T_laws_toPlace, run_done, run_fail, run_ask, run_opt, run_inl, run_inr, Option.bind_some, apart_b, apart_i, apart_s, h1]
def rcK (s : ByteArray) : Nat → Int → Int
  | 0, _ => 0
  | k + 1, i => if (colS i).toList = s.toList then i else rcK s k (i + 1)
/-- the column of some letters; 0: none -/
def rcol (s : ByteArray) : Int := rcK s 52 1
theorem rcK_in (s : ByteArray) : ∀ (k : Nat) (i : Int), 1 ≤ rcK s k i → (colS (rcK s k i)).toList = s.toList
  | 0, i, h => by simp [rcK] at h
  | k + 1, i, h => by
    simp only [rcK] at h ⊢
    by_cases e : (colS i).toList = s.toList
    · rw [if_pos e]; exact e
    · rw [if_neg e] at h ⊢; exact rcK_in s k (i + 1) h
def isUp (c : UInt8) : Bool := decide (65 ≤ c.toNat) && decide (c.toNat ≤ 90)
/-- behind a sign that may stand ahead -/
def offS (l : List UInt8) : List UInt8 := if l.head? = some 36 then l.tail else l
def lettersS (l : List UInt8) : List UInt8 := l.takeWhile isUp
def behindS (l : List UInt8) : List UInt8 := l.dropWhile isUp
def readP (s : ByteArray) : Int × Int × Bool × Bool × Bool :=
  if (l1I (offS (behindS (offS s.toList))) 2).2 = true ∧ okRef (rcol ⟨(lettersS (offS s.toList)).toArray⟩) (l1I (offS (behindS (offS s.toList))) 2).1 = true then
    (rcol ⟨(lettersS (offS s.toList)).toArray⟩, (l1I (offS (behindS (offS s.toList))) 2).1, s.toList.head? == some 36, (behindS (offS s.toList)).head? == some 36, true) else (0, 0, false, false, false)
theorem readC_loop {R : Type} {B : ByteArray × Int → Tr ((ByteArray × Int) ⊕ (Int ⊕ Unit))} {s : ByteArray} (hs : ∀ i : Int, 1 ≤ i ∧ i ≤ 52 → (B (s, i)).run = some (if (colS i).toList = s.toList then .inr (.inl i) else .inl (s, i + 1))) (he : (B (s, 53)).run = some (.inr (.inr ()))) :
    ∀ (k : Nat) (i : Int) (M : Nat), 1 ≤ i → i + k = 53 → k + 1 ≤ M → loopF B M (s, i) = some (if rcK s k i = 0 then .inr () else .inl (rcK s k i))
  | k, i, 0, h1, h2, h3 => by omega
  | 0, i, M + 1, h1, h2, h3 => by
    have : i = 53 := by omega
    subst this
    rw [loopF_inr he]
    rfl
  | k + 1, i, M + 1, h1, h2, h3 => by
    have h := hs i ⟨h1, by omega⟩
    by_cases e : (colS i).toList = s.toList
    · rw [if_pos e] at h
      rw [loopF_inr h]
      simp only [rcK, if_pos e]
      rw [if_neg (by omega)]
    · rw [if_neg e] at h
      rw [loopF_inl h]
      simp only [rcK, if_neg e]
      exact readC_loop (R := R) hs he k (i + 1) M (by omega) (by omega) (by omega)
theorem ev_cols {F : Nat → Int → Option ByteArray} (h : ∀ i, Ev (F · i) (colS i)) : ∃ n0, ∀ n, n0 ≤ n → ∀ i, 1 ≤ i ∧ i ≤ 52 → F n i = some (colS i) := by
  obtain ⟨n0, h1⟩ := ev_list (F := fun (i : Nat) n => F n (i : Int)) (f := fun i => colS (i : Int)) (List.range 53) (fun i _ => h i)
  refine ⟨n0, fun n hn i hi => ?_⟩
  have := h1 n hn i.toNat (by rw [List.mem_range]; omega)
  rwa [Int.toNat_of_nonneg (by omega)] at this
theorem ba_len (b : ByteArray) : b.size = b.toList.length := (tl_len b).symm
theorem ext_take (b : ByteArray) (k : Nat) : (b.extract 0 k).toList = b.toList.take k := by
  rw [Go.Lib.toList_data, ByteArray.data_extract, Array.toList_extract, Go.Lib.toList_data]
  show (b.data.toList.drop 0).take (k - 0) = _
  simp
theorem ext_drop (b : ByteArray) (k : Nat) : (b.extract k b.size).toList = b.toList.drop k := by
  rw [Go.Lib.toList_data, ByteArray.data_extract, Array.toList_extract, Go.Lib.toList_data]
  have hl : b.data.toList.length = b.size := by rw [← ba_size]
  show (b.data.toList.drop k).take (b.size - k) = _
  rw [List.take_of_length_le (by rw [List.length_drop, hl]; exact Nat.le_refl _)]
theorem take_letters (l : List UInt8) : l.take (lettersS l).length = lettersS l := by
  have h := List.takeWhile_append_dropWhile (p := isUp) (l := l)
  have h2 : (List.takeWhile isUp l ++ List.dropWhile isUp l).take (List.takeWhile isUp l).length = List.takeWhile isUp l := List.take_left ..
  rw [h] at h2
  exact h2
theorem drop_letters (l : List UInt8) : l.drop (lettersS l).length = behindS l := by
  have h := List.takeWhile_append_dropWhile (p := isUp) (l := l)
  have h2 : (List.takeWhile isUp l ++ List.dropWhile isUp l).drop (List.takeWhile isUp l).length = List.dropWhile isUp l := List.drop_left ..
  rw [h] at h2
  exact h2
theorem letters_len (l : List UInt8) : (lettersS l).length ≤ l.length := by
  have h := congrArg List.length (List.takeWhile_append_dropWhile (p := isUp) (l := l))
  rw [List.length_append] at h
  unfold lettersS
  omega
theorem ev_laws_eqPlace (c r : Int) (fc fr : Bool) : Ev (F_laws_eqPlace · c r fc fr c r fc fr) true := by
  obtain ⟨n1, h1⟩ := ev_laws_eqRef c r c r
  refine ⟨n1 + 1, fun n hn => ?_⟩
  obtain ⟨m, rfl, hm⟩ := up1 hn
  have h1 := h1 m (by omega)
  dsimp only at h1
  simp only [F_laws_eqPlace, T_laws_eqPlace, run_done, run_fail, run_ask, run_opt, run_inl, run_inr, Option.bind_some, apart_b, apart_i, apart_s, h1]
  simp
theorem placeS_size (c r : Int) (fc fr : Bool) : (placeS c r fc fr).size ≤ 30 := by
  unfold placeS
  split
  · rename_i h
    have h1 := colS_size c
    have h2 := decS_size' (okRef_in h).2
    rw [ba_size]
    cases fc <;> cases fr <;> simp <;> omega
  · decide
abbrev Nd := Int × Int × Int × Int × ByteArray × Int × Int × Bool × Bool × Int × Int × Bool × Bool × List Int
def encI (x : Int) : List PV := [.i .i64 x]
def encN (c : Nd) : List PV := [.i .i64 c.1, .i .i64 c.2.1, .i .i64 c.2.2.1, .i .i64 c.2.2.2.1, .s c.2.2.2.2.1, .i .i64 c.2.2.2.2.2.1, .i .i64 c.2.2.2.2.2.2.1, .b c.2.2.2.2.2.2.2.1, .b c.2.2.2.2.2.2.2.2.1, .i .i64 c.2.2.2.2.2.2.2.2.2.1, .i .i64 c.2.2.2.2.2.2.2.2.2.2.1, .b c.2.2.2.2.2.2.2.2.2.2.2.1, .b c.2.2.2.2.2.2.2.2.2.2.2.2.1, .ls ((c.2.2.2.2.2.2.2.2.2.2.2.2.2).map encI)]
/-- a node's kids -/
def kd (c : Nd) : List Int := c.2.2.2.2.2.2.2.2.2.2.2.2.2
theorem encI_get {l : List Int} {i : Nat} {e : List PV} (h : (l.map encI)[i]? = some e) : ∃ c, l[i]? = some c ∧ e = encI c := by
  rw [List.getElem?_map] at h
  obtain ⟨c, h1, h2⟩ := Option.map_eq_some_iff.1 h
  exact ⟨c, h1, h2.symm⟩
theorem encN_get {l : List Nd} {i : Nat} {e : List PV} (h : (l.map encN)[i]? = some e) : ∃ c, l[i]? = some c ∧ e = encN c := by
  rw [List.getElem?_map] at h
  obtain ⟨c, h1, h2⟩ := Option.map_eq_some_iff.1 h
  exact ⟨c, h1, h2.symm⟩
theorem rows_nd {rows : List (List PV)} (h : ∀ e ∈ rows, okR [.i .i64, .i .i64, .i .i64, .i .i64, .s, .i .i64, .i .i64, .b, .b, .i .i64, .i .i64, .b, .b, .sl 8 [.i .i64]] e) : ∃ l : List Nd, rows = l.map encN ∧ ∀ c ∈ l, c.2.2.2.2.1.size ≤ 140737488351232 ∧ (kd c).length * 8 ≤ 140737488351232 := by
  refine rows_map (fun e h => ?_) h
  obtain ⟨c0, t0, rfl, p0, h0⟩ := okR_cons h
  obtain ⟨c1, t1, rfl, p1, h1⟩ := okR_cons h0
  obtain ⟨c2, t2, rfl, p2, h2⟩ := okR_cons h1
  obtain ⟨c3, t3, rfl, p3, h3⟩ := okR_cons h2
  obtain ⟨c4, t4, rfl, p4, h4⟩ := okR_cons h3
  obtain ⟨c5, t5, rfl, p5, h5⟩ := okR_cons h4
  obtain ⟨c6, t6, rfl, p6, h6⟩ := okR_cons h5
  obtain ⟨c7, t7, rfl, p7, h7⟩ := okR_cons h6
  obtain ⟨c8, t8, rfl, p8, h8⟩ := okR_cons h7
  obtain ⟨c9, t9, rfl, p9, h9⟩ := okR_cons h8
  obtain ⟨c10, t10, rfl, p10, h10⟩ := okR_cons h9
  obtain ⟨c11, t11, rfl, p11, h11⟩ := okR_cons h10
  obtain ⟨c12, t12, rfl, p12, h12⟩ := okR_cons h11
  obtain ⟨c13, t13, rfl, p13, h13⟩ := okR_cons h12
  obtain rfl := okR_nil h13
  obtain ⟨x0, rfl, w0⟩ := okP_i p0
  obtain ⟨x1, rfl, w1⟩ := okP_i p1
  obtain ⟨x2, rfl, w2⟩ := okP_i p2
  obtain ⟨x3, rfl, w3⟩ := okP_i p3
  obtain ⟨x4, rfl, w4⟩ := okP_s p4
  obtain ⟨x5, rfl, w5⟩ := okP_i p5
  obtain ⟨x6, rfl, w6⟩ := okP_i p6
  obtain ⟨x7, rfl⟩ := okP_b p7
  obtain ⟨x8, rfl⟩ := okP_b p8
  obtain ⟨x9, rfl, w9⟩ := okP_i p9
  obtain ⟨x10, rfl, w10⟩ := okP_i p10
  obtain ⟨x11, rfl⟩ := okP_b p11
  obtain ⟨x12, rfl⟩ := okP_b p12
  obtain ⟨x13, rfl, w13⟩ := okP_sl p13
  obtain ⟨ks, rfl, _⟩ := rows_map (enc := encI) (P := fun _ => True) (fun e h => by
    obtain ⟨a, t, rfl, p, h⟩ := okR_cons h
    obtain rfl := okR_nil h
    obtain ⟨y, rfl, _⟩ := okP_i p
    exact ⟨y, rfl, trivial⟩) w13.2
  exact ⟨(x0, x1, x2, x3, x4, x5, x6, x7, x8, x9, x10, x11, x12, ks), rfl, w4, by simpa [kd] using w13.1⟩
theorem un_laws_szInt64S (n : Nat) (rows : List (List PV)) (left : Int) : ∃ r, F_laws_szInt64S (n + 1) rows left = some r := by
  simp only [F_laws_szInt64S, T_laws_szInt64S, run_done, run_fail, run_ask, run_opt, run_inl, run_inr, Option.bind_some, apart_b, apart_i, apart_s]
  by_cases h : IntKind.i64.wrap (left - rows.length) < 0
  · exact ⟨-1, by simp [h]⟩
  · exact ⟨IntKind.i64.wrap (left - rows.length), by simp [h]⟩
theorem un_laws_szFNode (n : Nat) (c : Nd) (left : Int) : ∃ r, F_laws_szFNode (n + 2) c.1 c.2.1 c.2.2.1 c.2.2.2.1 c.2.2.2.2.1 c.2.2.2.2.2.1 c.2.2.2.2.2.2.1 c.2.2.2.2.2.2.2.1 c.2.2.2.2.2.2.2.2.1 c.2.2.2.2.2.2.2.2.2.1 c.2.2.2.2.2.2.2.2.2.2.1 c.2.2.2.2.2.2.2.2.2.2.2.1 c.2.2.2.2.2.2.2.2.2.2.2.2.1 ((c.2.2.2.2.2.2.2.2.2.2.2.2.2).map encI) left = some r := by
  obtain ⟨r, h⟩ := un_laws_szValue n c.2.2.1 c.2.2.2.1 c.2.2.2.2.1 left
  obtain ⟨r2, h2⟩ := un_laws_szInt64S n ((c.2.2.2.2.2.2.2.2.2.2.2.2.2).map encI) r
  simp only [F_laws_szFNode, T_laws_szFNode, run_done, run_fail, run_ask, run_opt, run_inl, run_inr, Option.bind_some, apart_b, apart_i, apart_s, h, h2]
  by_cases h0 : r < 0
  · exact ⟨-1, by simp [h0]⟩
  · by_cases h1 : r2 < 0
    · exact ⟨-1, by simp [h0, h1]⟩
    · exact ⟨r2, by simp [h0, h1]⟩
theorem ev_laws_szFNodeS (l : List Nd) (hb : l.length ≤ 140737488351232) (left : Int) : ∀ n, l.length + 5 ≤ n → ∃ r, F_laws_szFNodeS n (l.map encN) left = some r := by
  intro n hn
  obtain ⟨m, rfl, hm⟩ := up1 hn
  obtain ⟨q, rfl⟩ : ∃ q, m = q + 2 := ⟨m - 2, by omega⟩
  simp only [F_laws_szFNodeS, T_laws_szFNodeS, run_done, run_fail, run_ask, run_opt, run_inl, run_inr, Option.bind_some, apart_b, apart_i, apart_s]
  obtain ⟨r, h⟩ := sz_loop (B := B_laws_szFNodeS_61 (q + 2)) (rows := l.map encN)
    (fun i e x he => by
      obtain ⟨c, hc, rfl⟩ := encN_get he
      have hi : i < l.length := (List.getElem?_eq_some_iff.1 hc).1
      have hi' : (i : Int) < l.length := by omega
      have hw : IntKind.i64.wrap ((i : Int) + 1) = (i : Int) + 1 := wrap64 (by omega)
      obtain ⟨r, hr⟩ := un_laws_szFNode q c x
      by_cases h0 : r < 0
      · exact .inr ⟨.inl (-1), by simp [B_laws_szFNodeS_61, run_done, run_fail, run_ask, run_opt, run_inl, run_inr, Option.bind_some, apart_b, apart_i, apart_s, hi', hc, encN, cellI, cellS, cellB, cellL, hr, h0]⟩
      · exact .inl ⟨r, by simp [B_laws_szFNodeS_61, run_done, run_fail, run_ask, run_opt, run_inl, run_inr, Option.bind_some, apart_b, apart_i, apart_s, hi', hc, encN, cellI, cellS, cellB, cellL, hr, h0, hw]⟩)
    (fun x => ⟨.inr x, by simp [B_laws_szFNodeS_61, run_done, run_fail, run_ask, run_opt, run_inl, run_inr, Option.bind_some, apart_b, apart_i, apart_s]⟩) l.length 0 (q + 2) (IntKind.i64.wrap (left - l.length)) (by simp) (by omega)
  simp only [Int.natCast_zero] at h
  by_cases h0 : IntKind.i64.wrap (left - l.length) < 0
  · exact ⟨-1, by simp [h0]⟩
  · rcases r with r | r
    · exact ⟨r, by simp [h0, h, run_done, run_fail, run_ask, run_opt, run_inl, run_inr, Option.bind_some, apart_b, apart_i, apart_s]⟩
    · exact ⟨r, by simp [h0, h, run_done, run_fail, run_ask, run_opt, run_inl, run_inr, Option.bind_some, apart_b, apart_i, apart_s]⟩
theorem ev_laws_toInt64S (l : List Int) (hb : l.length * 8 ≤ 140737488351232) : ∀ n, l.length + 5 ≤ n → F_laws_toInt64S n (l.map encI) = some (l.length, l.map encI) := by
  intro n hn
  obtain ⟨m, rfl, hm⟩ := up1 hn
  simp only [F_laws_toInt64S, T_laws_toInt64S, run_done, run_fail, run_ask, run_opt, run_inl, run_inr, Option.bind_some, apart_b, apart_i, apart_s]
  have h := conv_all (B := B_laws_toInt64S_29 m) (rows := l.map encI) (z := [.i .i64 0]) (r := fun acc => ((l.map encI).length, acc)) (M := m)
    (fun i acc e he ha hz => by
      obtain ⟨c, hc, rfl⟩ := encI_get he
      have hi : i < l.length := (List.getElem?_eq_some_iff.1 hc).1
      have hi' : (i : Int) < l.length := by omega
      have hw : IntKind.i64.wrap ((i : Int) + 1) = (i : Int) + 1 := wrap64 (by omega)
      have ha' : acc.length = l.length := by simpa using ha
      simp [B_laws_toInt64S_29, run_done, run_fail, run_ask, run_opt, run_inl, run_inr, Option.bind_some, apart_b, apart_i, apart_s, hi', hc, encI, cellI, hz, ha', hw, setAt])
    (fun acc ha => by
      have ha' : acc.length = l.length := by simpa using ha
      simp [B_laws_toInt64S_29, run_done, run_fail, run_ask, run_opt, run_inl, run_inr, Option.bind_some, apart_b, apart_i, apart_s])
    (by simp; omega)
  simp only [List.length_map, Int.toNat_natCast] at h ⊢
  rw [h]
  have h1 : (8 : Int) * (l.length : Int) ≤ 140737488355328 := by omega
  have h2 : (l.length : Int) ≤ 9223372036854775807 := by omega
  simp [run_done, run_fail, run_ask, run_opt, run_inl, run_inr, Option.bind_some, apart_b, apart_i, apart_s, h1, h2]
theorem ev_laws_toFNode (c : Nd) (hb : (kd c).length * 8 ≤ 140737488351232) : ∀ n, (kd c).length + 10 ≤ n → F_laws_toFNode n c.1 c.2.1 c.2.2.1 c.2.2.2.1 c.2.2.2.2.1 c.2.2.2.2.2.1 c.2.2.2.2.2.2.1 c.2.2.2.2.2.2.2.1 c.2.2.2.2.2.2.2.2.1 c.2.2.2.2.2.2.2.2.2.1 c.2.2.2.2.2.2.2.2.2.2.1 c.2.2.2.2.2.2.2.2.2.2.2.1 c.2.2.2.2.2.2.2.2.2.2.2.2.1 ((c.2.2.2.2.2.2.2.2.2.2.2.2.2).map encI) = some (c.1, c.2.1, c.2.2.1, c.2.2.2.1, c.2.2.2.2.1, c.2.2.2.2.2.1, c.2.2.2.2.2.2.1, c.2.2.2.2.2.2.2.1, c.2.2.2.2.2.2.2.2.1, c.2.2.2.2.2.2.2.2.2.1, c.2.2.2.2.2.2.2.2.2.2.1, c.2.2.2.2.2.2.2.2.2.2.2.1, c.2.2.2.2.2.2.2.2.2.2.2.2.1, (c.2.2.2.2.2.2.2.2.2.2.2.2.2).map encI) := by
  intro n hn
  obtain ⟨m, rfl, hm⟩ := up1 hn
  have h := ev_laws_toInt64S (kd c) hb m (by omega)
  unfold kd at h
  obtain ⟨q, rfl⟩ : ∃ q, m = q + 3 := ⟨m - 3, by omega⟩
  have p1 : ∀ a b f g, F_laws_toPlace (q + 3) a b f g = some (a, b, f, g) := fun a b f g => by
    simp only [F_laws_toPlace, T_laws_toPlace, F_laws_toRef, T_laws_toRef, run_done, run_fail, run_ask, run_opt, run_inl, run_inr, Option.bind_some, apart_b, apart_i, apart_s]
  have p2 : ∀ a b s, F_laws_toValue (q + 3) a b s = some (a, b, s) := fun a b s => by
    simp only [F_laws_toValue, T_laws_toValue, run_done, run_fail, run_ask, run_opt, run_inl, run_inr, Option.bind_some, apart_b, apart_i, apart_s]
  simp only [F_laws_toFNode, T_laws_toFNode, run_done, run_fail, run_ask, run_opt, run_inl, run_inr, Option.bind_some, apart_b, apart_i, apart_s, h, p1, p2]
  simp
theorem ev_laws_toFNodeS (l : List Nd) (hb : l.length * 120 ≤ 140737488351232) (hk : ∀ c ∈ l, (kd c).length * 8 ≤ 140737488351232) : Ev (F_laws_toFNodeS · (l.map encN)) (l.length, l.map encN) := by
  obtain ⟨n0, h0⟩ := ev_list (F := fun (c : Nd) n => F_laws_toFNode n c.1 c.2.1 c.2.2.1 c.2.2.2.1 c.2.2.2.2.1 c.2.2.2.2.2.1 c.2.2.2.2.2.2.1 c.2.2.2.2.2.2.2.1 c.2.2.2.2.2.2.2.2.1 c.2.2.2.2.2.2.2.2.2.1 c.2.2.2.2.2.2.2.2.2.2.1 c.2.2.2.2.2.2.2.2.2.2.2.1 c.2.2.2.2.2.2.2.2.2.2.2.2.1 ((c.2.2.2.2.2.2.2.2.2.2.2.2.2).map encI)) (f := fun c => (c.1, c.2.1, c.2.2.1, c.2.2.2.1, c.2.2.2.2.1, c.2.2.2.2.2.1, c.2.2.2.2.2.2.1, c.2.2.2.2.2.2.2.1, c.2.2.2.2.2.2.2.2.1, c.2.2.2.2.2.2.2.2.2.1, c.2.2.2.2.2.2.2.2.2.2.1, c.2.2.2.2.2.2.2.2.2.2.2.1, c.2.2.2.2.2.2.2.2.2.2.2.2.1, (c.2.2.2.2.2.2.2.2.2.2.2.2.2).map encI)) l (fun c hc => ⟨_, ev_laws_toFNode c (hk c hc)⟩)
  refine ⟨n0 + l.length + 5, fun n hn => ?_⟩
  obtain ⟨m, rfl, hm⟩ := up1 hn
  simp only [F_laws_toFNodeS, T_laws_toFNodeS, run_done, run_fail, run_ask, run_opt, run_inl, run_inr, Option.bind_some, apart_b, apart_i, apart_s]
  have h := conv_all (B := B_laws_toFNodeS_29 m) (rows := l.map encN) (z := [.i .i64 0, .i .i64 0, .i .i64 0, .i .i64 0, .s ⟨#[]⟩, .i .i64 0, .i .i64 0, .b false, .b false, .i .i64 0, .i .i64 0, .b false, .b false, .nl]) (r := fun acc => ((l.map encN).length, acc)) (M := m)
    (fun i acc e he ha hz => by
      obtain ⟨c, hc, rfl⟩ := encN_get he
      have hi : i < l.length := (List.getElem?_eq_some_iff.1 hc).1
      have hi' : (i : Int) < l.length := by omega
      have hw : IntKind.i64.wrap ((i : Int) + 1) = (i : Int) + 1 := wrap64 (by omega)
      have ha' : acc.length = l.length := by simpa using ha
      have hf := h0 m (by omega) c (List.mem_of_getElem? hc)
      simp [B_laws_toFNodeS_29, run_done, run_fail, run_ask, run_opt, run_inl, run_inr, Option.bind_some, apart_b, apart_i, apart_s, hi', hc, encN, cellI, cellS, cellB, cellL, hf, hz, ha', hw, setAt])
    (fun acc ha => by
      have ha' : acc.length = l.length := by simpa using ha
      simp [B_laws_toFNodeS_29, run_done, run_fail, run_ask, run_opt, run_inl, run_inr, Option.bind_some, apart_b, apart_i, apart_s])
    (by simp; omega)
  simp only [List.length_map, Int.toNat_natCast] at h ⊢
  rw [h]
  have h1 : (120 : Int) * (l.length : Int) ≤ 140737488355328 := by omega
  have h2 : (l.length : Int) ≤ 9223372036854775807 := by omega
  simp [run_done, run_fail, run_ask, run_opt, run_inl, run_inr, Option.bind_some, apart_b, apart_i, apart_s, h1, h2]
theorem ev_laws_eqInt64S (l : List Int) (hb : l.length ≤ 140737488351232) : ∀ n, l.length + 5 ≤ n → F_laws_eqInt64S n (l.map encI) (l.map encI) = some true := by
  intro n hn
  obtain ⟨m, rfl, hm⟩ := up1 hn
  simp only [F_laws_eqInt64S, T_laws_eqInt64S, run_done, run_fail, run_ask, run_opt, run_inl, run_inr, Option.bind_some, apart_b, apart_i, apart_s]
  have h := eq_loop (B := B_laws_eqInt64S_29 m) (rows := l.map encI) (r := .inr ())
    (fun i e he => by
      obtain ⟨c, hc, rfl⟩ := encI_get he
      have hi : i < l.length := (List.getElem?_eq_some_iff.1 hc).1
      have hi' : (i : Int) < l.length := by omega
      have hw : IntKind.i64.wrap ((i : Int) + 1) = (i : Int) + 1 := wrap64 (by omega)
      simp [B_laws_eqInt64S_29, run_done, run_fail, run_ask, run_opt, run_inl, run_inr, Option.bind_some, apart_b, apart_i, apart_s, hi', hc, encI, cellI, hw])
    (by simp [B_laws_eqInt64S_29, run_done, run_fail, run_ask, run_opt, run_inl, run_inr, Option.bind_some, apart_b, apart_i, apart_s]) l.length 0 m (by simp) (by omega)
  simp only [Int.natCast_zero] at h
  simp [h, run_done, run_fail, run_ask, run_opt, run_inl, run_inr, Option.bind_some, apart_b, apart_i, apart_s]
theorem ev_laws_eqFNode (c : Nd) (hb : (kd c).length ≤ 140737488351232) : ∀ n, (kd c).length + 10 ≤ n → F_laws_eqFNode n c.1 c.2.1 c.2.2.1 c.2.2.2.1 c.2.2.2.2.1 c.2.2.2.2.2.1 c.2.2.2.2.2.2.1 c.2.2.2.2.2.2.2.1 c.2.2.2.2.2.2.2.2.1 c.2.2.2.2.2.2.2.2.2.1 c.2.2.2.2.2.2.2.2.2.2.1 c.2.2.2.2.2.2.2.2.2.2.2.1 c.2.2.2.2.2.2.2.2.2.2.2.2.1 ((c.2.2.2.2.2.2.2.2.2.2.2.2.2).map encI) c.1 c.2.1 c.2.2.1 c.2.2.2.1 c.2.2.2.2.1 c.2.2.2.2.2.1 c.2.2.2.2.2.2.1 c.2.2.2.2.2.2.2.1 c.2.2.2.2.2.2.2.2.1 c.2.2.2.2.2.2.2.2.2.1 c.2.2.2.2.2.2.2.2.2.2.1 c.2.2.2.2.2.2.2.2.2.2.2.1 c.2.2.2.2.2.2.2.2.2.2.2.2.1 ((c.2.2.2.2.2.2.2.2.2.2.2.2.2).map encI) = some true := by
  intro n hn
  obtain ⟨m, rfl, hm⟩ := up1 hn
  have h := ev_laws_eqInt64S (kd c) hb m (by omega)
  unfold kd at h
  obtain ⟨q, rfl⟩ : ∃ q, m = q + 3 := ⟨m - 3, by omega⟩
  have p1 : ∀ a b f g, F_laws_eqPlace (q + 3) a b f g a b f g = some true := fun a b f g => by
    simp [F_laws_eqPlace, T_laws_eqPlace, F_laws_eqRef, T_laws_eqRef, run_done, run_fail, run_ask, run_opt, run_inl, run_inr, Option.bind_some, apart_b, apart_i, apart_s]
  have p2 : ∀ a b s, F_laws_eqValue (q + 3) a b s a b s = some true := fun a b s => by
    simp [F_laws_eqValue, T_laws_eqValue, run_done, run_fail, run_ask, run_opt, run_inl, run_inr, Option.bind_some, apart_b, apart_i, apart_s]
  simp only [F_laws_eqFNode, T_laws_eqFNode, run_done, run_fail, run_ask, run_opt, run_inl, run_inr, Option.bind_some, apart_b, apart_i, apart_s, h, p1, p2]
  simp
theorem ev_laws_eqFNodeS (l : List Nd) (hb : l.length ≤ 140737488351232) (hk : ∀ c ∈ l, (kd c).length ≤ 140737488351232) : Ev (F_laws_eqFNodeS · (l.map encN) (l.map encN)) true := by
  obtain ⟨n0, h0⟩ := ev_list (F := fun (c : Nd) n => F_laws_eqFNode n c.1 c.2.1 c.2.2.1 c.2.2.2.1 c.2.2.2.2.1 c.2.2.2.2.2.1 c.2.2.2.2.2.2.1 c.2.2.2.2.2.2.2.1 c.2.2.2.2.2.2.2.2.1 c.2.2.2.2.2.2.2.2.2.1 c.2.2.2.2.2.2.2.2.2.2.1 c.2.2.2.2.2.2.2.2.2.2.2.1 c.2.2.2.2.2.2.2.2.2.2.2.2.1 ((c.2.2.2.2.2.2.2.2.2.2.2.2.2).map encI) c.1 c.2.1 c.2.2.1 c.2.2.2.1 c.2.2.2.2.1 c.2.2.2.2.2.1 c.2.2.2.2.2.2.1 c.2.2.2.2.2.2.2.1 c.2.2.2.2.2.2.2.2.1 c.2.2.2.2.2.2.2.2.2.1 c.2.2.2.2.2.2.2.2.2.2.1 c.2.2.2.2.2.2.2.2.2.2.2.1 c.2.2.2.2.2.2.2.2.2.2.2.2.1 ((c.2.2.2.2.2.2.2.2.2.2.2.2.2).map encI)) (f := fun _ => true) l (fun c hc => ⟨_, ev_laws_eqFNode c (hk c hc)⟩)
  refine ⟨n0 + l.length + 5, fun n hn => ?_⟩
  obtain ⟨m, rfl, hm⟩ := up1 hn
  simp only [F_laws_eqFNodeS, T_laws_eqFNodeS, run_done, run_fail, run_ask, run_opt, run_inl, run_inr, Option.bind_some, apart_b, apart_i, apart_s]
  have h := eq_loop (B := B_laws_eqFNodeS_29 m) (rows := l.map encN) (r := .inr ())
    (fun i e he => by
      obtain ⟨c, hc, rfl⟩ := encN_get he
      have hi : i < l.length := (List.getElem?_eq_some_iff.1 hc).1
      have hi' : (i : Int) < l.length := by omega
      have hw : IntKind.i64.wrap ((i : Int) + 1) = (i : Int) + 1 := wrap64 (by omega)
      have hf := h0 m (by omega) c (List.mem_of_getElem? hc)
      simp [B_laws_eqFNodeS_29, run_done, run_fail, run_ask, run_opt, run_inl, run_inr, Option.bind_some, apart_b, apart_i, apart_s, hi', hc, encN, cellI, cellS, cellB, cellL, hf, hw])
    (by simp [B_laws_eqFNodeS_29, run_done, run_fail, run_ask, run_opt, run_inl, run_inr, Option.bind_some, apart_b, apart_i, apart_s]) l.length 0 m (by simp) (by omega)
  simp only [Int.natCast_zero] at h
  simp [h, run_done, run_fail, run_ask, run_opt, run_inl, run_inr, Option.bind_some, apart_b, apart_i, apart_s]
def argsB (op n : Int) : Bool := if op = 5 then decide (n = 2 ∨ n = 3) else if 8 ≤ op ∧ op ≤ 10 then decide (n = 1) else if 1 ≤ op ∧ op ≤ 7 then decide (1 ≤ n ∧ n ≤ 10) else false
theorem ten {op : Int} (h : 1 ≤ op ∧ op ≤ 10) : op = 1 ∨ op = 2 ∨ op = 3 ∨ op = 4 ∨ op = 5 ∨ op = 6 ∨ op = 7 ∨ op = 8 ∨ op = 9 ∨ op = 10 := by omega
theorem ev_spec_l3Args (op n : Int) : Ev (F_spec_l3Args · op n) (argsB op n) := by
  refine ⟨1, fun n hn => ?_⟩
  obtain ⟨m, rfl, hm⟩ := up1 hn
  simp only [F_spec_l3Args, T_spec_l3Args, run_done, run_fail, run_ask, run_opt, run_inl, run_inr, Option.bind_some, apart_b, apart_i, apart_s]
  by_cases h : 1 ≤ op ∧ op ≤ 10
  · rcases ten h with rfl | rfl | rfl | rfl | rfl | rfl | rfl | rfl | rfl | rfl
    all_goals
      first
      | (by_cases h2 : n = 2 <;> simp [argsB, h2]; done)
      | (by_cases h1 : n ≥ 1 <;> simp [argsB, h1]; done)
      | (by_cases h1 : n = 1 <;> simp [argsB, h1]; done)
      | (by_cases h2 : n = 2 <;> by_cases h3 : n = 3 <;> simp [argsB, h2, h3]; done)
      | (simp [argsB]; done)
  · have e1 : ¬ op = 1 := by omega
    have e2 : ¬ op = 2 := by omega
    have e3 : ¬ op = 3 := by omega
    have e4 : ¬ op = 4 := by omega
    have e5 : ¬ op = 5 := by omega
    have e6 : ¬ op = 6 := by omega
    have e7 : ¬ op = 7 := by omega
    have e8 : ¬ op = 8 := by omega
    have e9 : ¬ op = 9 := by omega
    have e10 : ¬ op = 10 := by omega
    have g1 : ¬ (8 ≤ op ∧ op ≤ 10) := by omega
    have g2 : ¬ (1 ≤ op ∧ op ≤ 7) := by omega
    simp [argsB, e1, e2, e3, e4, e5, e6, e7, e8, e9, e10, g1, g2]
def zV (k x : Int) (s : ByteArray) : Bool := decide (k = 0) && (decide (x = 0) && (s.toList == []))
def zP (a b : Int) (f g : Bool) : Bool := decide (a = 0) && (decide (b = 0) && (!f && !g))
/-- a node that is right by itself -/
def nodeB (c : Nd) : Bool :=
  if c.1 = 1 then decide (c.2.1 = 0) && (zP c.2.2.2.2.2.1 c.2.2.2.2.2.2.1 c.2.2.2.2.2.2.2.1 c.2.2.2.2.2.2.2.2.1 && (zP c.2.2.2.2.2.2.2.2.2.1 c.2.2.2.2.2.2.2.2.2.2.1 c.2.2.2.2.2.2.2.2.2.2.2.1 c.2.2.2.2.2.2.2.2.2.2.2.2.1 && (decide ((kd c).length = 0) && (okV c.2.2.1 c.2.2.2.1 c.2.2.2.2.1 && (!decide (c.2.2.1 = 0) && (!decide (c.2.2.1 = 1) || decide (c.2.2.2.1 ≥ 0))))))) else
  if c.1 = 2 then decide (c.2.1 = 0) && (zV c.2.2.1 c.2.2.2.1 c.2.2.2.2.1 && (zP c.2.2.2.2.2.2.2.2.2.1 c.2.2.2.2.2.2.2.2.2.2.1 c.2.2.2.2.2.2.2.2.2.2.2.1 c.2.2.2.2.2.2.2.2.2.2.2.2.1 && (decide ((kd c).length = 0) && okRef c.2.2.2.2.2.1 c.2.2.2.2.2.2.1))) else
  if c.1 = 3 then decide (c.2.1 = 0) && (zV c.2.2.1 c.2.2.2.1 c.2.2.2.2.1 && (decide ((kd c).length = 0) && okArea c.2.2.2.2.2.1 c.2.2.2.2.2.2.1 c.2.2.2.2.2.2.2.2.2.1 c.2.2.2.2.2.2.2.2.2.2.1)) else
  if c.1 = 4 then decide (c.2.1 = 0) && (zV c.2.2.1 c.2.2.2.1 c.2.2.2.2.1 && (zP c.2.2.2.2.2.1 c.2.2.2.2.2.2.1 c.2.2.2.2.2.2.2.1 c.2.2.2.2.2.2.2.2.1 && (zP c.2.2.2.2.2.2.2.2.2.1 c.2.2.2.2.2.2.2.2.2.2.1 c.2.2.2.2.2.2.2.2.2.2.2.1 c.2.2.2.2.2.2.2.2.2.2.2.2.1 && decide ((kd c).length = 1)))) else
  if c.1 = 5 then decide (1 ≤ c.2.1 ∧ c.2.1 ≤ 11) && (zV c.2.2.1 c.2.2.2.1 c.2.2.2.2.1 && (zP c.2.2.2.2.2.1 c.2.2.2.2.2.2.1 c.2.2.2.2.2.2.2.1 c.2.2.2.2.2.2.2.2.1 && (zP c.2.2.2.2.2.2.2.2.2.1 c.2.2.2.2.2.2.2.2.2.2.1 c.2.2.2.2.2.2.2.2.2.2.2.1 c.2.2.2.2.2.2.2.2.2.2.2.2.1 && decide ((kd c).length = 2)))) else
  if c.1 = 6 then argsB c.2.1 ((kd c).length : Int) && (zV c.2.2.1 c.2.2.2.1 c.2.2.2.2.1 && (zP c.2.2.2.2.2.1 c.2.2.2.2.2.2.1 c.2.2.2.2.2.2.2.1 c.2.2.2.2.2.2.2.2.1 && zP c.2.2.2.2.2.2.2.2.2.1 c.2.2.2.2.2.2.2.2.2.2.1 c.2.2.2.2.2.2.2.2.2.2.2.1 c.2.2.2.2.2.2.2.2.2.2.2.2.1)) else false
theorem zV_e (k x : Int) (s : ByteArray) : ((k == (0 : Int)) && ((x == (0 : Int)) && ((s.toList == (⟨#[]⟩ : ByteArray).toList) && true))) = zV k x s := by
  rw [toList_nil]
  unfold zV
  by_cases h : k = 0 <;> by_cases h2 : x = 0 <;> simp [h, h2]
theorem zV_e2 (k x : Int) (s : ByteArray) : (((0 : Int) == k) && (((0 : Int) == x) && (((⟨#[]⟩ : ByteArray).toList == s.toList) && true))) = zV k x s := by
  rw [← zV_e]
  congr 1
  · exact Bool.beq_comm
  · congr 1
    · exact Bool.beq_comm
    · congr 1
      exact Bool.beq_comm
theorem zP_e (a b : Int) (f g : Bool) : ((a == (0 : Int)) && ((b == (0 : Int)) && ((f == false) && ((g == false) && true)))) = zP a b f g := by
  unfold zP
  by_cases h : a = 0 <;> by_cases h2 : b = 0 <;> cases f <;> cases g <;> simp [h, h2]
theorem zP_e2 (a b : Int) (f g : Bool) : (((0 : Int) == a) && (((0 : Int) == b) && ((false == f) && ((false == g) && true)))) = zP a b f g := by
  rw [← zP_e]
  congr 1
  · exact Bool.beq_comm
  · congr 1
    · exact Bool.beq_comm
    · cases f <;> cases g <;> rfl
theorem ev_spec_l3NodeOk (c : Nd) (hb : c.2.2.2.2.1.size ≤ 140737488351232) : Ev (F_spec_l3NodeOk · c.1 c.2.1 c.2.2.1 c.2.2.2.1 c.2.2.2.2.1 c.2.2.2.2.2.1 c.2.2.2.2.2.2.1 c.2.2.2.2.2.2.2.1 c.2.2.2.2.2.2.2.2.1 c.2.2.2.2.2.2.2.2.2.1 c.2.2.2.2.2.2.2.2.2.2.1 c.2.2.2.2.2.2.2.2.2.2.2.1 c.2.2.2.2.2.2.2.2.2.2.2.2.1 ((c.2.2.2.2.2.2.2.2.2.2.2.2.2).map encI)) (nodeB c) := by
  obtain ⟨n1, h1⟩ := ev_spec_ValueOk c.2.2.1 c.2.2.2.1 c.2.2.2.2.1 hb
  obtain ⟨n2, h2⟩ := ev_spec_RefOk c.2.2.2.2.2.1 c.2.2.2.2.2.2.1
  obtain ⟨n3, h3⟩ := ev_spec_AreaOk c.2.2.2.2.2.1 c.2.2.2.2.2.2.1 c.2.2.2.2.2.2.2.2.2.1 c.2.2.2.2.2.2.2.2.2.2.1
  obtain ⟨n4, h4⟩ := ev_spec_l1In c.2.1 1 11
  obtain ⟨n5, h5⟩ := ev_spec_l3Args c.2.1 (((c.2.2.2.2.2.2.2.2.2.2.2.2.2).map encI).length : Int)
  refine ⟨n1 + n2 + n3 + n4 + n5 + 1, fun n hn => ?_⟩
  obtain ⟨m, rfl, hm⟩ := up1 hn
  have h1 := h1 m (by omega)
  dsimp only at h1
  have h2 := h2 m (by omega)
  dsimp only at h2
  have h3 := h3 m (by omega)
  dsimp only at h3
  have h4 := h4 m (by omega)
  dsimp only at h4
  have h5 := h5 m (by omega)
  dsimp only at h5
  simp only [F_spec_l3NodeOk, T_spec_l3NodeOk, run_done, run_fail, run_ask, run_opt, run_inl, run_inr, Option.bind_some, apart_b, apart_i, apart_s, h1, h2, h3, h4, h5]
  have hk : ((c.2.2.2.2.2.2.2.2.2.2.2.2.2).map encI).length = (kd c).length := by rw [List.length_map]; rfl
  simp only [zV_e, zP_e, hk]
  unfold nodeB
  by_cases k1 : c.1 = 1
  · simp only [k1, if_true, beq_self_eq_true]
    cases zP c.2.2.2.2.2.1 c.2.2.2.2.2.2.1 c.2.2.2.2.2.2.2.1 c.2.2.2.2.2.2.2.2.1 <;> cases zP c.2.2.2.2.2.2.2.2.2.1 c.2.2.2.2.2.2.2.2.2.2.1 c.2.2.2.2.2.2.2.2.2.2.2.1 c.2.2.2.2.2.2.2.2.2.2.2.2.1 <;> cases okV c.2.2.1 c.2.2.2.1 c.2.2.2.2.1 <;> by_cases h0 : c.2.1 = 0 <;> by_cases h1 : (kd c).length = 0 <;> by_cases h2 : c.2.2.1 = 0 <;> by_cases h3 : c.2.2.1 = 1 <;> simp [h0, h1, h2, h3]
  by_cases k2 : c.1 = 2
  · simp only [k2]
    cases zV c.2.2.1 c.2.2.2.1 c.2.2.2.2.1 <;> cases zP c.2.2.2.2.2.2.2.2.2.1 c.2.2.2.2.2.2.2.2.2.2.1 c.2.2.2.2.2.2.2.2.2.2.2.1 c.2.2.2.2.2.2.2.2.2.2.2.2.1 <;> cases okRef c.2.2.2.2.2.1 c.2.2.2.2.2.2.1 <;> by_cases h0 : c.2.1 = 0 <;> by_cases h1 : (kd c).length = 0 <;> simp [h0, h1]
  by_cases k3 : c.1 = 3
  · simp only [k3]
    cases zV c.2.2.1 c.2.2.2.1 c.2.2.2.2.1 <;> cases okArea c.2.2.2.2.2.1 c.2.2.2.2.2.2.1 c.2.2.2.2.2.2.2.2.2.1 c.2.2.2.2.2.2.2.2.2.2.1 <;> by_cases h0 : c.2.1 = 0 <;> by_cases h1 : (kd c).length = 0 <;> simp [h0, h1]
  by_cases k4 : c.1 = 4
  · simp only [k4]
    cases zV c.2.2.1 c.2.2.2.1 c.2.2.2.2.1 <;> cases zP c.2.2.2.2.2.1 c.2.2.2.2.2.2.1 c.2.2.2.2.2.2.2.1 c.2.2.2.2.2.2.2.2.1 <;> cases zP c.2.2.2.2.2.2.2.2.2.1 c.2.2.2.2.2.2.2.2.2.2.1 c.2.2.2.2.2.2.2.2.2.2.2.1 c.2.2.2.2.2.2.2.2.2.2.2.2.1 <;> by_cases h0 : c.2.1 = 0 <;> by_cases h1 : (kd c).length = 1 <;> simp [h0, h1] <;> omega
  by_cases k5 : c.1 = 5
  · simp only [k5]
    cases zV c.2.2.1 c.2.2.2.1 c.2.2.2.2.1 <;> cases zP c.2.2.2.2.2.1 c.2.2.2.2.2.2.1 c.2.2.2.2.2.2.2.1 c.2.2.2.2.2.2.2.2.1 <;> cases zP c.2.2.2.2.2.2.2.2.2.1 c.2.2.2.2.2.2.2.2.2.2.1 c.2.2.2.2.2.2.2.2.2.2.2.1 c.2.2.2.2.2.2.2.2.2.2.2.2.1 <;> by_cases h0 : 1 ≤ c.2.1 ∧ c.2.1 ≤ 11 <;> by_cases h1 : (kd c).length = 2 <;> simp [h0, h1] <;> omega
  by_cases k6 : c.1 = 6
  · simp only [k6]
    cases zV c.2.2.1 c.2.2.2.1 c.2.2.2.2.1 <;> cases zP c.2.2.2.2.2.1 c.2.2.2.2.2.2.1 c.2.2.2.2.2.2.2.1 c.2.2.2.2.2.2.2.2.1 <;> cases zP c.2.2.2.2.2.2.2.2.2.1 c.2.2.2.2.2.2.2.2.2.2.1 c.2.2.2.2.2.2.2.2.2.2.2.1 c.2.2.2.2.2.2.2.2.2.2.2.2.1 <;> cases argsB c.2.1 ((kd c).length : Int) <;> simp
  simp [k1, k2, k3, k4, k5, k6]
theorem ev_impl_kidsOk (c : Nd) : Ev (F_impl_FNode_kidsOk · c.1 c.2.1 c.2.2.1 c.2.2.2.1 c.2.2.2.2.1 c.2.2.2.2.2.1 c.2.2.2.2.2.2.1 c.2.2.2.2.2.2.2.1 c.2.2.2.2.2.2.2.2.1 c.2.2.2.2.2.2.2.2.2.1 c.2.2.2.2.2.2.2.2.2.2.1 c.2.2.2.2.2.2.2.2.2.2.2.1 c.2.2.2.2.2.2.2.2.2.2.2.2.1 ((c.2.2.2.2.2.2.2.2.2.2.2.2.2).map encI)) (if c.1 = 4 then decide (c.2.1 = 0) && decide ((kd c).length = 1) else if c.1 = 5 then decide (1 ≤ c.2.1 ∧ c.2.1 ≤ 11) && decide ((kd c).length = 2) else if c.1 = 6 then argsB c.2.1 ((kd c).length : Int) else decide (c.2.1 = 0) && decide ((kd c).length = 0)) := by
  obtain ⟨n1, h1⟩ := ev_impl_within c.2.1 1 11
  obtain ⟨n2, h2⟩ := ev_impl_within c.2.1 1 10
  obtain ⟨n3, h3⟩ := ev_impl_within (((c.2.2.2.2.2.2.2.2.2.2.2.2.2).map encI).length : Int) 2 3
  obtain ⟨n4, h4⟩ := ev_impl_within (((c.2.2.2.2.2.2.2.2.2.2.2.2.2).map encI).length : Int) 1 10
  refine ⟨n1 + n2 + n3 + n4 + 1, fun n hn => ?_⟩
  obtain ⟨m, rfl, hm⟩ := up1 hn
  have h1 := h1 m (by omega)
  dsimp only at h1
  have h2 := h2 m (by omega)
  dsimp only at h2
  have h3 := h3 m (by omega)
  dsimp only at h3
  have h4 := h4 m (by omega)
  dsimp only at h4
  simp only [F_impl_FNode_kidsOk, T_impl_FNode_kidsOk, run_done, run_fail, run_ask, run_opt, run_inl, run_inr, Option.bind_some, apart_b, apart_i, apart_s, h1, h2, h3, h4]
  have hk : ((c.2.2.2.2.2.2.2.2.2.2.2.2.2).map encI).length = (kd c).length := by rw [List.length_map]; rfl
  simp only [hk]
  by_cases k4 : c.1 = 4
  · simp only [k4]
    by_cases h0 : c.2.1 = 0 <;> by_cases h1 : (kd c).length = 1 <;> simp [h0, h1] <;> omega
  by_cases k5 : c.1 = 5
  · simp only [k5]
    by_cases h0 : 1 ≤ c.2.1 ∧ c.2.1 ≤ 11 <;> by_cases h1 : (kd c).length = 2 <;> simp [h0, h1] <;> omega
  by_cases k6 : c.1 = 6
  · simp only [k6]
    unfold argsB
    by_cases h : 1 ≤ c.2.1 ∧ c.2.1 ≤ 10
    · by_cases h5 : c.2.1 = 5
      · have : (2 ≤ ((kd c).length : Int) ∧ ((kd c).length : Int) ≤ 3) ↔ (((kd c).length : Int) = 2 ∨ ((kd c).length : Int) = 3) := by omega
        simp [h5, this]
      · by_cases h8 : c.2.1 ≥ 8
        · have g : 8 ≤ c.2.1 ∧ c.2.1 ≤ 10 := by omega
          by_cases h1 : ((kd c).length : Int) = 1 <;> simp [h, h5, h8, g, h1]
        · have g : ¬ (8 ≤ c.2.1 ∧ c.2.1 ≤ 10) := by omega
          have g' : 1 ≤ c.2.1 ∧ c.2.1 ≤ 7 := by omega
          simp [h, h5, h8, g, g']
    · have h5 : ¬ c.2.1 = 5 := by omega
      have g : ¬ (8 ≤ c.2.1 ∧ c.2.1 ≤ 10) := by omega
      have g' : ¬ (1 ≤ c.2.1 ∧ c.2.1 ≤ 7) := by omega
      simp [h, h5, g, g']
  by_cases h0 : c.2.1 = 0 <;> by_cases h1 : (kd c).length = 0 <;> simp [k4, k5, k6, h0, h1] <;> omega
theorem ev_impl_isPlaced (c : Nd) : Ev (F_impl_FNode_isPlaced · c.1 c.2.1 c.2.2.1 c.2.2.2.1 c.2.2.2.2.1 c.2.2.2.2.2.1 c.2.2.2.2.2.2.1 c.2.2.2.2.2.2.2.1 c.2.2.2.2.2.2.2.2.1 c.2.2.2.2.2.2.2.2.2.1 c.2.2.2.2.2.2.2.2.2.2.1 c.2.2.2.2.2.2.2.2.2.2.2.1 c.2.2.2.2.2.2.2.2.2.2.2.2.1 ((c.2.2.2.2.2.2.2.2.2.2.2.2.2).map encI)) (if c.1 = 2 then okArea c.2.2.2.2.2.1 c.2.2.2.2.2.2.1 c.2.2.2.2.2.1 c.2.2.2.2.2.2.1 else if c.1 = 3 then okArea c.2.2.2.2.2.1 c.2.2.2.2.2.2.1 c.2.2.2.2.2.2.2.2.2.1 c.2.2.2.2.2.2.2.2.2.2.1 else true) := by
  have g : Ev (F_impl_FNode_area · c.1 c.2.1 c.2.2.1 c.2.2.2.1 c.2.2.2.2.1 c.2.2.2.2.2.1 c.2.2.2.2.2.2.1 c.2.2.2.2.2.2.2.1 c.2.2.2.2.2.2.2.2.1 c.2.2.2.2.2.2.2.2.2.1 c.2.2.2.2.2.2.2.2.2.2.1 c.2.2.2.2.2.2.2.2.2.2.2.1 c.2.2.2.2.2.2.2.2.2.2.2.2.1 ((c.2.2.2.2.2.2.2.2.2.2.2.2.2).map encI)) (if c.1 = 2 then (c.2.2.2.2.2.1, c.2.2.2.2.2.2.1, c.2.2.2.2.2.1, c.2.2.2.2.2.2.1) else (c.2.2.2.2.2.1, c.2.2.2.2.2.2.1, c.2.2.2.2.2.2.2.2.2.1, c.2.2.2.2.2.2.2.2.2.2.1)) := by
    refine ⟨1, fun n hn => ?_⟩
    obtain ⟨m, rfl, hm⟩ := up1 hn
    simp only [F_impl_FNode_area, T_impl_FNode_area, run_done, run_fail, run_ask, run_opt, run_inl, run_inr, Option.bind_some, apart_b, apart_i, apart_s]
    by_cases k2 : c.1 = 2 <;> simp [k2]
  obtain ⟨n1, h1⟩ := g
  obtain ⟨n2, h2⟩ := ev_impl_AreaOk c.2.2.2.2.2.1 c.2.2.2.2.2.2.1 c.2.2.2.2.2.1 c.2.2.2.2.2.2.1
  obtain ⟨n3, h3⟩ := ev_impl_AreaOk c.2.2.2.2.2.1 c.2.2.2.2.2.2.1 c.2.2.2.2.2.2.2.2.2.1 c.2.2.2.2.2.2.2.2.2.2.1
  refine ⟨n1 + n2 + n3 + 1, fun n hn => ?_⟩
  obtain ⟨m, rfl, hm⟩ := up1 hn
  have h1 := h1 m (by omega)
  dsimp only at h1
  have h2 := h2 m (by omega)
  dsimp only at h2
  have h3 := h3 m (by omega)
  dsimp only at h3
  simp only [F_impl_FNode_isPlaced, T_impl_FNode_isPlaced, run_done, run_fail, run_ask, run_opt, run_inl, run_inr, Option.bind_some, apart_b, apart_i, apart_s, h1, h2, h3]
  by_cases k2 : c.1 = 2
  · simp [k2, h2]
  · by_cases k3 : c.1 = 3
    · simp [k3, h3]
    · simp [k2, k3]
theorem area_one (a b : Int) : okArea a b a b = okRef a b := by
  unfold okArea
  cases okRef a b <;> simp
theorem ev_impl_isOwn (c : Nd) (hb : c.2.2.2.2.1.size ≤ 140737488351232) : Ev (F_impl_FNode_isOwn · c.1 c.2.1 c.2.2.1 c.2.2.2.1 c.2.2.2.2.1 c.2.2.2.2.2.1 c.2.2.2.2.2.2.1 c.2.2.2.2.2.2.2.1 c.2.2.2.2.2.2.2.2.1 c.2.2.2.2.2.2.2.2.2.1 c.2.2.2.2.2.2.2.2.2.2.1 c.2.2.2.2.2.2.2.2.2.2.2.1 c.2.2.2.2.2.2.2.2.2.2.2.2.1 ((c.2.2.2.2.2.2.2.2.2.2.2.2.2).map encI)) (nodeB c) := by
  obtain ⟨n1, g1⟩ := ev_impl_ValueOk c.2.2.1 c.2.2.2.1 c.2.2.2.2.1 hb
  obtain ⟨n2, g2⟩ := ev_impl_isPlaced c
  obtain ⟨n3, g3⟩ := ev_impl_kidsOk c
  refine ⟨n1 + n2 + n3 + 1, fun n hn => ?_⟩
  obtain ⟨m, rfl, hm⟩ := up1 hn
  have g1 := g1 m (by omega)
  have g2 := g2 m (by omega)
  have g3 := g3 m (by omega)
  dsimp only at g1 g2 g3
  rw [area_one] at g2
  simp only [F_impl_FNode_isOwn, T_impl_FNode_isOwn, run_done, run_fail, run_ask, run_opt, run_inl, run_inr, Option.bind_some, apart_b, apart_i, apart_s, g1, g2, g3, zV_e2, zP_e2]
  simp only [beq_self_eq_true, Bool.and_true, Bool.true_and]
  unfold nodeB
  by_cases k1 : c.1 = 1
  · have h5 : (c.2.2.2.1 ≥ 0) = ¬ (c.2.2.2.1 < 0) := propext Int.not_lt.symm
    simp only [k1, h5]
    cases zP c.2.2.2.2.2.1 c.2.2.2.2.2.2.1 c.2.2.2.2.2.2.2.1 c.2.2.2.2.2.2.2.2.1 <;> cases zP c.2.2.2.2.2.2.2.2.2.1 c.2.2.2.2.2.2.2.2.2.2.1 c.2.2.2.2.2.2.2.2.2.2.2.1 c.2.2.2.2.2.2.2.2.2.2.2.2.1 <;> cases okV c.2.2.1 c.2.2.2.1 c.2.2.2.2.1 <;> by_cases h0 : c.2.1 = 0 <;> by_cases h1 : (kd c).length = 0 <;> by_cases h2 : c.2.2.1 = 0 <;> by_cases h3 : c.2.2.1 = 1 <;> by_cases h4 : c.2.2.2.1 < 0 <;> simp [h0, h1, h2, h3, h4] <;> (try omega)
  by_cases k2 : c.1 = 2
  · simp only [k2]
    cases zV c.2.2.1 c.2.2.2.1 c.2.2.2.2.1 <;> cases zP c.2.2.2.2.2.2.2.2.2.1 c.2.2.2.2.2.2.2.2.2.2.1 c.2.2.2.2.2.2.2.2.2.2.2.1 c.2.2.2.2.2.2.2.2.2.2.2.2.1 <;> cases okRef c.2.2.2.2.2.1 c.2.2.2.2.2.2.1 <;> by_cases h0 : c.2.1 = 0 <;> by_cases h1 : (kd c).length = 0 <;> simp [h0, h1]
  by_cases k3 : c.1 = 3
  · simp only [k3]
    cases zV c.2.2.1 c.2.2.2.1 c.2.2.2.2.1 <;> cases okArea c.2.2.2.2.2.1 c.2.2.2.2.2.2.1 c.2.2.2.2.2.2.2.2.2.1 c.2.2.2.2.2.2.2.2.2.2.1 <;> by_cases h0 : c.2.1 = 0 <;> by_cases h1 : (kd c).length = 0 <;> simp [h0, h1]
  by_cases k4 : c.1 = 4
  · simp only [k4]
    cases zV c.2.2.1 c.2.2.2.1 c.2.2.2.2.1 <;> cases zP c.2.2.2.2.2.1 c.2.2.2.2.2.2.1 c.2.2.2.2.2.2.2.1 c.2.2.2.2.2.2.2.2.1 <;> cases zP c.2.2.2.2.2.2.2.2.2.1 c.2.2.2.2.2.2.2.2.2.2.1 c.2.2.2.2.2.2.2.2.2.2.2.1 c.2.2.2.2.2.2.2.2.2.2.2.2.1 <;> by_cases h0 : c.2.1 = 0 <;> by_cases h1 : (kd c).length = 1 <;> simp [h0, h1]
  by_cases k5 : c.1 = 5
  · simp only [k5]
    cases zV c.2.2.1 c.2.2.2.1 c.2.2.2.2.1 <;> cases zP c.2.2.2.2.2.1 c.2.2.2.2.2.2.1 c.2.2.2.2.2.2.2.1 c.2.2.2.2.2.2.2.2.1 <;> cases zP c.2.2.2.2.2.2.2.2.2.1 c.2.2.2.2.2.2.2.2.2.2.1 c.2.2.2.2.2.2.2.2.2.2.2.1 c.2.2.2.2.2.2.2.2.2.2.2.2.1 <;> by_cases h0 : 1 ≤ c.2.1 ∧ c.2.1 ≤ 11 <;> by_cases h1 : (kd c).length = 2 <;> simp [h0, h1]
  by_cases k6 : c.1 = 6
  · simp only [k6]
    cases zV c.2.2.1 c.2.2.2.1 c.2.2.2.2.1 <;> cases zP c.2.2.2.2.2.1 c.2.2.2.2.2.2.1 c.2.2.2.2.2.2.2.1 c.2.2.2.2.2.2.2.2.1 <;> cases zP c.2.2.2.2.2.2.2.2.2.1 c.2.2.2.2.2.2.2.2.2.2.1 c.2.2.2.2.2.2.2.2.2.2.2.1 c.2.2.2.2.2.2.2.2.2.2.2.2.1 <;> cases argsB c.2.1 ((kd c).length : Int) <;> simp
  simp [k1, k2, k3, k4, k5, k6]
section
variable (own area call : Int → Bool) (kids : Int → List Int)
def goF (F : Int → Int) (n : Int) : List Int → Int → Int
  | [], start => start
  | k :: r, start => if k ≠ start - 1 ∨ k < 0 ∨ (area k = true ∧ call n = false) then -1 else if F k < 0 then -1 else goF F n r (F k)
def fromG : Nat → Int → Int
  | 0, _ => -1
  | f + 1, n => if n < 0 ∨ own n = false then -1 else goF area call (fromG f) n (kids n).reverse n
def goT (F : Int → Int) : List Int → Int → Int
  | [], x => x + 1
  | k :: r, x => if x < 0 ∨ k ≠ x then -1 else if F x < 0 then -1 else goT F r (F x - 1)
def treeG : Nat → Int → Int
  | 0, _ => -1
  | f + 1, n => goT (treeG f) (kids n).reverse (n - 1)
def maxL : List Int → Int
  | [] => 0
  | x :: r => max x (maxL r)
def deepG : Nat → Int → Int
  | 0, _ => 0
  | f + 1, n => maxL ((kids n).map fun k => deepG f k) + 1
/-- a node's kids stand below it; a part's cells stand in a call alone -/
def kidsIn (i : Int) : Prop := ∀ k ∈ kids i, 0 ≤ k ∧ k ≤ i - 1 ∧ ¬ (area k = true ∧ call i = false)
theorem treeG_le : ∀ (f : Nat) (n : Int), 0 ≤ n → treeG kids f n ≤ n
  | 0, n, h => by rw [treeG]; omega
  | f + 1, n, h => by
    have go : ∀ (l : List Int) (x : Int), x + 1 ≤ n → -1 ≤ x → goT (treeG kids f) l x ≤ n := by
      intro l
      induction l with
      | nil => intro x h1 h2; rw [goT]; omega
      | cons k r ih =>
        intro x h1 h2
        rw [goT]
        split
        · omega
        · split
          · omega
          · have := treeG_le f x (by omega)
            exact ih _ (by omega) (by omega)
    rw [treeG]
    exact go _ _ (by omega) (by omega)
theorem treeG_eq : ∀ (f g : Nat) (n : Int), n < f → n < g → 0 ≤ n → treeG kids f n = treeG kids g n
  | 0, g, n, h1, h2, h3 => by omega
  | f + 1, 0, n, h1, h2, h3 => by omega
  | f + 1, g + 1, n, h1, h2, h3 => by
    have go : ∀ (l : List Int) (x : Int), x < f → x < g → goT (treeG kids f) l x = goT (treeG kids g) l x := by
      intro l
      induction l with
      | nil => intro x _ _; rw [goT, goT]
      | cons k r ih =>
        intro x hx hy
        rw [goT, goT]
        by_cases hc : x < 0 ∨ k ≠ x
        · rw [if_pos hc, if_pos hc]
        · rw [if_neg hc, if_neg hc, treeG_eq f g x hx hy (by omega)]
          have hle := treeG_le kids g x (by omega)
          split
          · rfl
          · exact ih _ (by omega) (by omega)
    rw [treeG, treeG]
    exact go _ _ (by omega) (by omega)
theorem maxL_le {l : List Int} {b : Int} (h0 : 0 ≤ b) : maxL l ≤ b ↔ ∀ x ∈ l, x ≤ b := by
  induction l with
  | nil => simp [maxL, h0]
  | cons a r ih => simp only [maxL, List.mem_cons, forall_eq_or_imp]; rw [Int.max_le, ih]
theorem deepG_le {n b : Int} {f : Nat} (h0 : 1 ≤ b) : deepG kids (f + 1) n ≤ b ↔ ∀ k ∈ kids n, deepG kids f k ≤ b - 1 := by
  rw [deepG]
  constructor
  · intro h k hk
    exact (maxL_le (l := (kids n).map fun k => deepG kids f k) (by omega)).1 (by omega) _ (List.mem_map_of_mem (f := fun k => deepG kids f k) hk)
  · intro h
    have := (maxL_le (l := (kids n).map fun k => deepG kids f k) (b := b - 1) (by omega)).2 (by
      intro x hx
      obtain ⟨k, hk, rfl⟩ := List.mem_map.1 hx
      exact h k hk)
    omega
theorem deepG_eq : ∀ (f g : Nat) (n : Int), n < f → n < g → (∀ i, 0 ≤ i → i ≤ n → kidsIn area call kids i) → 0 ≤ n → deepG kids f n = deepG kids g n
  | 0, g, n, h1, h2, _, h3 => by omega
  | f + 1, 0, n, h1, h2, _, h3 => by omega
  | f + 1, g + 1, n, h1, h2, hk, h3 => by
    rw [deepG, deepG]
    congr 2
    apply List.map_congr_left
    intro k hm
    have := hk n h3 (by omega) k hm
    exact deepG_eq f g k (by omega) (by omega) (fun i h0 h1 => hk i h0 (by omega)) (by omega)
theorem deepG_pos : ∀ (f : Nat) (n : Int), 0 ≤ n → n < f → 1 ≤ deepG kids f n
  | 0, n, h, h' => by omega
  | f + 1, n, h, h' => by
    rw [deepG]
    have : ∀ l : List Int, 0 ≤ maxL l := by
      intro l
      induction l with
      | nil => exact Int.le_refl 0
      | cons a r ih => simp only [maxL]; omega
    have := this ((kids n).map fun k => deepG kids f k)
    omega
/-- the program's recursion: what stands is a tree, and its nodes are right -/
theorem from_ok : ∀ (f g : Nat) (n : Int), 0 ≤ n → n < g → 0 ≤ fromG own area call kids f n →
    fromG own area call kids f n ≤ n ∧ treeG kids g n = fromG own area call kids f n ∧ (∀ i, fromG own area call kids f n ≤ i → i ≤ n → own i = true ∧ kidsIn area call kids i) ∧ (∀ h : Nat, (∀ i, 0 ≤ i → i ≤ n → kidsIn area call kids i) → n < h → deepG kids h n ≤ f)
  | 0, g, n, h0, h1, h2 => by rw [fromG] at h2; omega
  | f + 1, 0, n, h0, h1, h2 => by omega
  | f + 1, g + 1, n, h0, h1, h2 => by
    rw [fromG] at h2 ⊢
    split at h2
    · omega
    · rename_i hc
      rw [if_neg hc]
      have go : ∀ (l : List Int) (s : Int), 0 ≤ s → s ≤ n → 0 ≤ goF area call (fromG own area call kids f) n l s →
          goF area call (fromG own area call kids f) n l s ≤ s ∧ goT (treeG kids g) l (s - 1) = goF area call (fromG own area call kids f) n l s ∧ (∀ i, goF area call (fromG own area call kids f) n l s ≤ i → i ≤ s - 1 → own i = true ∧ kidsIn area call kids i) ∧ (∀ k ∈ l, 0 ≤ k ∧ k ≤ n - 1 ∧ ¬ (area k = true ∧ call n = false)) ∧ (∀ h : Nat, (∀ i, 0 ≤ i → i ≤ n → kidsIn area call kids i) → n < h → ∀ k ∈ l, deepG kids h k ≤ f) := by
        intro l
        induction l with
        | nil =>
          intro s h3 h4 h5
          rw [goF] at h5 ⊢
          rw [goT]
          refine ⟨by omega, by omega, fun i _ _ => by omega, fun k hk => (by cases hk), fun h _ _ k hk => (by cases hk)⟩
        | cons k r ih =>
          intro s h3 h4 h5
          rw [goF] at h5 ⊢
          split at h5
          · omega
          · rename_i hd
            rw [if_neg hd]
            split at h5
            · omega
            · rename_i he
              rw [if_neg he]
              have hk : k = s - 1 := by omega
              subst hk
              obtain ⟨a1, a2, a3, a4⟩ := from_ok f g (s - 1) (by omega) (by omega) (by omega)
              obtain ⟨b1, b2, b3, b4, b5⟩ := ih _ (by omega) (by omega) h5
              refine ⟨by omega, ?_, ?_, ?_, ?_⟩
              · rw [goT, if_neg (by omega), a2, if_neg he, b2]
              · intro i i1 i2
                by_cases hi : fromG own area call kids f (s - 1) ≤ i
                · exact a3 i hi i2
                · exact b3 i i1 (by omega)
              · intro k hk
                rcases List.mem_cons.1 hk with rfl | hk
                · exact ⟨by omega, by omega, fun h => hd (.inr (.inr h))⟩
                · exact b4 k hk
              · intro h hx hy k hk
                rcases List.mem_cons.1 hk with rfl | hk
                · exact a4 h (fun i i1 i2 => hx i i1 (by omega)) (by omega)
                · exact b5 h hx hy k hk
      obtain ⟨c1, c2, c3, c4, c5⟩ := go _ n h0 (Int.le_refl n) h2
      have hown : own n = true := by cases ho : own n with
        | true => rfl
        | false => exact absurd (.inr ho) hc
      refine ⟨c1, by rw [treeG]; exact c2, ?_, ?_⟩
      · intro i i1 i2
        by_cases hi : i = n
        · subst hi
          exact ⟨hown, fun k hk => c4 k (List.mem_reverse.2 hk)⟩
        · exact c3 i i1 (by omega)
      · intro h hx hy
        cases h with
        | zero => omega
        | succ h =>
          refine (deepG_le kids (by omega)).2 fun k hk => ?_
          have hin := hx n h0 (Int.le_refl n) k hk
          have e : deepG kids h k = deepG kids (n.toNat + 1) k := deepG_eq area call kids _ _ _ (by omega) (by omega) (fun i i1 i2 => hx i i1 (by omega)) (by omega)
          rw [e]
          have := c5 (n.toNat + 1) hx (by omega) k (List.mem_reverse.2 hk)
          omega
/-- what is a tree, of right nodes and not too deep, the program's recursion takes -/
theorem from_of : ∀ (f g h : Nat) (n : Int), 0 ≤ n → n < g → n < h → (∀ i, 0 ≤ i → i ≤ n → own i = true ∧ kidsIn area call kids i) → 0 ≤ treeG kids g n → deepG kids h n ≤ f → fromG own area call kids f n = treeG kids g n
  | 0, g, h, n, h0, h1, h1', h2, h3, h4 => by have := deepG_pos kids h n h0 h1'; omega
  | f + 1, 0, h, n, h0, h1, _, h2, h3, h4 => by omega
  | f + 1, g + 1, 0, n, h0, h1, _, h2, h3, h4 => by omega
  | f + 1, g + 1, h + 1, n, h0, h1, h1', h2, h3, h4 => by
    have hd := (deepG_le kids (b := ((f + 1 : Nat) : Int)) (by omega)).1 h4
    have go : ∀ (l : List Int) (s : Int), (∀ k ∈ l, k ∈ kids n) → 0 ≤ s → s ≤ n → 0 ≤ goT (treeG kids g) l (s - 1) → goF area call (fromG own area call kids f) n l s = goT (treeG kids g) l (s - 1) := by
      intro l
      induction l with
      | nil => intro s _ _ _ _; rw [goF, goT]; omega
      | cons k r ih =>
        intro s hm h3 h4 h5
        rw [goT] at h5 ⊢
        rw [goF]
        split at h5
        · omega
        · rename_i hc
          rw [if_neg hc]
          split at h5
          · omega
          · rename_i he
            rw [if_neg he]
            have hk : k = s - 1 := by omega
            have hin := (h2 n h0 (Int.le_refl n)).2 k (hm k (List.mem_cons_self ..))
            have hdk := hd k (hm k (List.mem_cons_self ..))
            subst hk
            have e := from_of f g h (s - 1) (by omega) (by omega) (by omega) (fun i i1 i2 => h2 i i1 (by omega)) (by omega) (by omega)
            have hb : ¬ (s - 1 ≠ s - 1 ∨ s - 1 < 0 ∨ (area (s - 1) = true ∧ call n = false)) := fun hx => by
              rcases hx with hx | hx | hx
              · exact hx rfl
              · omega
              · exact hin.2.2 hx
            rw [if_neg hb, e, if_neg he]
            have hle := treeG_le kids g (s - 1) (by omega)
            exact ih _ (fun k hk => hm k (List.mem_cons_of_mem _ hk)) (by omega) (by omega) h5
    rw [treeG] at h3
    have hn : ¬ (n < 0 ∨ own n = false) := fun hx => by
      rcases hx with hx | hx
      · omega
      · rw [(h2 n h0 (Int.le_refl n)).1] at hx; cases hx
    rw [fromG, treeG, if_neg hn]
    exact go _ n (fun k hk => List.mem_reverse.1 hk) h0 (Int.le_refl n) h3
end
theorem cell_n (c : Nd) : (encN c).length = 14 := rfl
theorem celi_n (k : Int) : (encI k).length = 1 := rfl
theorem celi_0 (k : Int) : cellI .i64 (encI k) 0 = some k := rfl
theorem cell_0 (c : Nd) : cellI .i64 (encN c) 0 = some c.1 := rfl
theorem cell_1 (c : Nd) : cellI .i64 (encN c) 1 = some c.2.1 := rfl
theorem cell_2 (c : Nd) : cellI .i64 (encN c) 2 = some c.2.2.1 := rfl
theorem cell_3 (c : Nd) : cellI .i64 (encN c) 3 = some c.2.2.2.1 := rfl
theorem cell_4 (c : Nd) : cellS (encN c) 4 = some c.2.2.2.2.1 := rfl
theorem cell_5 (c : Nd) : cellI .i64 (encN c) 5 = some c.2.2.2.2.2.1 := rfl
theorem cell_6 (c : Nd) : cellI .i64 (encN c) 6 = some c.2.2.2.2.2.2.1 := rfl
theorem cell_7 (c : Nd) : cellB (encN c) 7 = some c.2.2.2.2.2.2.2.1 := rfl
theorem cell_8 (c : Nd) : cellB (encN c) 8 = some c.2.2.2.2.2.2.2.2.1 := rfl
theorem cell_9 (c : Nd) : cellI .i64 (encN c) 9 = some c.2.2.2.2.2.2.2.2.2.1 := rfl
theorem cell_10 (c : Nd) : cellI .i64 (encN c) 10 = some c.2.2.2.2.2.2.2.2.2.2.1 := rfl
theorem cell_11 (c : Nd) : cellB (encN c) 11 = some c.2.2.2.2.2.2.2.2.2.2.2.1 := rfl
theorem cell_12 (c : Nd) : cellB (encN c) 12 = some c.2.2.2.2.2.2.2.2.2.2.2.2.1 := rfl
theorem cell_13 (c : Nd) : cellL (encN c) 13 = some ((c.2.2.2.2.2.2.2.2.2.2.2.2.2).map encI) := rfl
def nd0 : Nd := (0, 0, 0, 0, ⟨#[]⟩, 0, 0, false, false, 0, 0, false, false, [])
/-- the node at a place -/
def ndi (l : List Nd) (i : Int) : Nd := l.getD i.toNat nd0
def kidsF (l : List Nd) (i : Int) : List Int := kd (ndi l i)
def ownF (l : List Nd) (i : Int) : Bool := nodeB (ndi l i)
def areaF (l : List Nd) (i : Int) : Bool := decide ((ndi l i).1 = 3)
def callF (l : List Nd) (i : Int) : Bool := decide ((ndi l i).1 = 6)
theorem ndi_get {l : List Nd} {i : Int} (h : 0 ≤ i ∧ i < l.length) : l[i.toNat]? = some (ndi l i) := by
  have : i.toNat < l.length := by omega
  unfold ndi
  rw [List.getElem?_eq_getElem this, List.getD_eq_getElem?_getD, List.getElem?_eq_getElem this]
  rfl
theorem ndi_mem {l : List Nd} {i : Int} (h : 0 ≤ i ∧ i < l.length) : ndi l i ∈ l := List.mem_of_getElem? (ndi_get h)
theorem take_rev {α : Type} {l : List α} {j : Nat} {k : α} (h : l[j]? = some k) : (l.take (j + 1)).reverse = k :: (l.take j).reverse := by
  rw [List.take_add_one, h]
  simp
/-- what holds at each number under a bound, from one fuel on -/
theorem ev_below {R : Type} {F : Int → Nat → Option R} {f : Int → R} (x : Int) (h : ∀ y, 0 ≤ y → y < x → Ev (F y) (f y)) : ∃ n0, ∀ n, n0 ≤ n → ∀ y, 0 ≤ y → y < x → F y n = some (f y) := by
  obtain ⟨n0, h0⟩ := ev_list (F := F) (f := f) ((List.range x.toNat).map fun (i : Nat) => (i : Int)) (fun c hc => by
    obtain ⟨i, hi, rfl⟩ := List.mem_map.1 hc
    have := List.mem_range.1 hi
    exact h _ (Int.natCast_nonneg i) (by omega))
  refine ⟨n0, fun n hn y h1 h2 => h0 n hn y (List.mem_map.2 ⟨y.toNat, List.mem_range.2 (by omega), by omega⟩)⟩
theorem treeG_lo (kids : Int → List Int) : ∀ (f : Nat) (n : Int), 0 ≤ n → -1 ≤ treeG kids f n
  | 0, n, h => by rw [treeG]; omega
  | f + 1, n, h => by
    have go : ∀ (l : List Int) (x : Int), -1 ≤ x → -1 ≤ goT (treeG kids f) l x := by
      intro l
      induction l with
      | nil => intro x h1; rw [goT]; omega
      | cons k r ih =>
        intro x h1
        rw [goT]
        split
        · omega
        · split
          · omega
          · exact ih _ (by omega)
    rw [treeG]
    exact go _ _ (by omega)
theorem tree_loop (l : List Nd) (x1 : Int) (f n : Nat) (hx : 0 ≤ x1 ∧ x1 < l.length) (hl : l.length ≤ 140737488351232) (hk : (kd (ndi l x1)).length ≤ 140737488351232)
    (hrec : ∀ y : Int, 0 ≤ y → y < x1 → F_spec_l3Tree n (l.map encN) y = some (treeG (kidsF l) f y)) :
    ∀ (j M : Nat) (s : Int), j ≤ (kd (ndi l x1)).length → j + 1 ≤ M → -1 ≤ s → s < x1 →
      (∃ x, loopF (B_spec_l3Tree_29 (F_spec_l3Tree n) n) M (l.map encN, x1, s, (j : Int) - 1) = some (.inr x) ∧ goT (treeG (kidsF l) f) ((kidsF l x1).take j).reverse s = x + 1 ∧ -1 ≤ x ∧ x < x1) ∨
      (loopF (B_spec_l3Tree_29 (F_spec_l3Tree n) n) M (l.map encN, x1, s, (j : Int) - 1) = some (.inl (-1)) ∧ goT (treeG (kidsF l) f) ((kidsF l x1).take j).reverse s = -1)
  | 0, 0, s, h1, h2, h3, h4 => by omega
  | 0, M + 1, s, h1, h2, h3, h4 => by
    refine .inl ⟨s, ?_, by simp [goT], h3, h4⟩
    rw [loopF_inr (r := .inr s) (by simp [-getElem?_pos, B_spec_l3Tree_29, run_done, run_fail, run_ask, run_opt, run_inl, run_inr, Option.bind_some, apart_b, apart_i, apart_s])]
  | j + 1, 0, s, h1, h2, h3, h4 => by omega
  | j + 1, M + 1, s, h1, h2, h3, h4 => by
    have hc := ndi_get hx
    have hj : j < (kd (ndi l x1)).length := by omega
    have hg : (kidsF l x1)[j]? = some (kidsF l x1)[j] := List.getElem?_eq_getElem hj
    have ih := tree_loop l x1 f n hx hl hk hrec j M
    rw [take_rev hg]
    generalize (kidsF l x1)[j] = k at hg
    have hi : (((j + 1 : Nat) : Int) - 1) = (j : Int) := by omega
    rw [hi, goT]
    have hg' : (ndi l x1).2.2.2.2.2.2.2.2.2.2.2.2.2[j]? = some k := hg
    have hj' : j < (ndi l x1).2.2.2.2.2.2.2.2.2.2.2.2.2.length := hj
    by_cases hs : s < 0
    · refine .inr ⟨?_, by rw [if_pos (.inl hs)]⟩
      rw [loopF_inr (r := .inl (-1)) (by simp [-getElem?_pos, B_spec_l3Tree_29, run_done, run_fail, run_ask, run_opt, run_inl, run_inr, Option.bind_some, apart_b, apart_i, apart_s, hs])]
    · by_cases hks : k = s
      · subst hks
        have hr := hrec k (by omega) h4
        by_cases ht : treeG (kidsF l) f k < 0
        · refine .inr ⟨?_, by rw [if_neg (by omega), if_pos ht]⟩
          rw [loopF_inr (r := .inl (-1)) (by simp [-getElem?_pos, B_spec_l3Tree_29, run_done, run_fail, run_ask, run_opt, run_inl, run_inr, Option.bind_some, apart_b, apart_i, apart_s, hs, hc, hx, cell_n, celi_n, celi_0, cell_0, cell_1, cell_2, cell_3, cell_4, cell_5, cell_6, cell_7, cell_8, cell_9, cell_10, cell_11, cell_12, cell_13, hg', hj', hr, ht])]
        · have hle := treeG_le (kidsF l) f k (by omega)
          have hw : IntKind.i64.wrap (treeG (kidsF l) f k - 1) = treeG (kidsF l) f k - 1 := wrap64 (by omega)
          have hw2 : IntKind.i64.wrap ((j : Int) - 1) = (j : Int) - 1 := wrap64 (by omega)
          rw [if_neg (by omega), if_neg ht]
          rw [loopF_inl (v' := (l.map encN, x1, treeG (kidsF l) f k - 1, (j : Int) - 1)) (by simp [-getElem?_pos, B_spec_l3Tree_29, run_done, run_fail, run_ask, run_opt, run_inl, run_inr, Option.bind_some, apart_b, apart_i, apart_s, hs, hc, hx, cell_n, celi_n, celi_0, cell_0, cell_1, cell_2, cell_3, cell_4, cell_5, cell_6, cell_7, cell_8, cell_9, cell_10, cell_11, cell_12, cell_13, hg', hj', hr, ht, hw, hw2])]
          exact ih _ (by omega) (by omega) (by omega) (by omega)
      · refine .inr ⟨?_, by rw [if_pos (.inr hks)]⟩
        rw [loopF_inr (r := .inl (-1)) (by simp [-getElem?_pos, B_spec_l3Tree_29, run_done, run_fail, run_ask, run_opt, run_inl, run_inr, Option.bind_some, apart_b, apart_i, apart_s, hs, hc, hx, cell_n, celi_n, celi_0, cell_0, cell_1, cell_2, cell_3, cell_4, cell_5, cell_6, cell_7, cell_8, cell_9, cell_10, cell_11, cell_12, cell_13, hg', hj', hks])]
theorem ev_spec_l3Tree (l : List Nd) (hl : l.length ≤ 140737488351232) (hk : ∀ c ∈ l, (kd c).length ≤ 140737488351232) : ∀ (f : Nat) (x : Int), 0 ≤ x → x < l.length → x < f → Ev (F_spec_l3Tree · (l.map encN) x) (treeG (kidsF l) f x)
  | 0, x, h0, h1, h2 => by omega
  | f + 1, x, h0, h1, h2 => by
    obtain ⟨n0, hn0⟩ := ev_below (F := fun y n => F_spec_l3Tree n (l.map encN) y) (f := fun y => treeG (kidsF l) f y) x (fun y h3 h4 => ev_spec_l3Tree l hl hk f y h3 (by omega) (by omega))
    refine ⟨n0 + (kd (ndi l x)).length + 5, fun n hn => ?_⟩
    obtain ⟨m, rfl, hm⟩ := up1 hn
    have hc := ndi_get (l := l) (i := x) ⟨h0, h1⟩
    have hkx := hk _ (ndi_mem (l := l) ⟨h0, h1⟩)
    have hw : IntKind.i64.wrap (x - 1) = x - 1 := wrap64 (by omega)
    have hw2 : IntKind.i64.wrap (((kd (ndi l x)).length : Int) - 1) = ((kd (ndi l x)).length : Int) - 1 := wrap64 (by omega)
    have h := tree_loop l x f m ⟨h0, h1⟩ hl hkx (hn0 m (by omega)) (kd (ndi l x)).length m (x - 1) (Nat.le_refl _) (by omega) (by omega) (by omega)
    have e : (kidsF l x).take (kd (ndi l x)).length = kidsF l x := List.take_length
    rw [e] at h
    rw [show treeG (kidsF l) (f + 1) x = goT (treeG (kidsF l) f) (kidsF l x).reverse (x - 1) from rfl]
    unfold kd at h hw2
    dsimp only
    simp only [F_spec_l3Tree, T_spec_l3Tree, run_done, run_fail, run_ask, run_opt, run_inl, run_inr, Option.bind_some, apart_b, apart_i, apart_s]
    rcases h with ⟨y, g1, g2, g3, g4⟩ | ⟨g1, g2⟩
    · have hw3 : IntKind.i64.wrap (y + 1) = y + 1 := wrap64 (by omega)
      rw [g2]
      simp [-getElem?_pos, run_done, run_fail, run_ask, run_opt, run_inl, run_inr, Option.bind_some, apart_b, apart_i, apart_s, hc, h0, h1, cell_n, celi_n, celi_0, cell_0, cell_1, cell_2, cell_3, cell_4, cell_5, cell_6, cell_7, cell_8, cell_9, cell_10, cell_11, cell_12, cell_13, hw, hw2, g1, hw3]
    · rw [g2]
      simp [-getElem?_pos, run_done, run_fail, run_ask, run_opt, run_inl, run_inr, Option.bind_some, apart_b, apart_i, apart_s, hc, h0, h1, cell_n, celi_n, celi_0, cell_0, cell_1, cell_2, cell_3, cell_4, cell_5, cell_6, cell_7, cell_8, cell_9, cell_10, cell_11, cell_12, cell_13, hw, hw2, g1]
theorem deepG_lef (kids : Int → List Int) : ∀ (f : Nat) (n : Int), 0 ≤ deepG kids f n ∧ deepG kids f n ≤ f
  | 0, n => by rw [deepG]; omega
  | f + 1, n => by
    have : ∀ l : List Int, 0 ≤ maxL (l.map fun k => deepG kids f k) ∧ maxL (l.map fun k => deepG kids f k) ≤ f := by
      intro l
      induction l with
      | nil => exact ⟨Int.le_refl 0, Int.natCast_nonneg f⟩
      | cons a r ih => have := deepG_lef kids f a; simp only [List.map_cons, maxL]; omega
    have := this (kids n)
    rw [deepG]
    omega
theorem deep_loop (l : List Nd) (x1 : Int) (f n : Nat) (hx : 0 ≤ x1 ∧ x1 < l.length) (hf : f ≤ 1000) (hk : (kd (ndi l x1)).length ≤ 140737488351232)
    (hrec : ∀ k ∈ kidsF l x1, F_spec_l3Deep n (l.map encN) k = some (deepG (kidsF l) f k)) :
    ∀ (m i M : Nat) (a : Int), (kd (ndi l x1)).length = i + m → m + 1 ≤ M → 0 ≤ a →
      loopF (B_spec_l3Deep_29 (F_spec_l3Deep n) n) M (l.map encN, x1, a, (i : Int)) = some (max a (maxL (((kidsF l x1).drop i).map fun k => deepG (kidsF l) f k)))
  | m, i, 0, a, h1, h2, h3 => by omega
  | 0, i, M + 1, a, h1, h2, h3 => by
    have hc := ndi_get hx
    have hi : ¬ i < (ndi l x1).2.2.2.2.2.2.2.2.2.2.2.2.2.length := by unfold kd at h1; omega
    rw [loopF_inr (r := a) (by simp [-getElem?_pos, B_spec_l3Deep_29, run_done, run_fail, run_ask, run_opt, run_inl, run_inr, Option.bind_some, apart_b, apart_i, apart_s, hc, hx, cell_n, celi_n, celi_0, cell_0, cell_1, cell_2, cell_3, cell_4, cell_5, cell_6, cell_7, cell_8, cell_9, cell_10, cell_11, cell_12, cell_13, hi])]
    rw [List.drop_eq_nil_of_le (by unfold kidsF; omega)]
    simp only [List.map_nil, maxL]
    congr 1
    omega
  | m + 1, i, M + 1, a, h1, h2, h3 => by
    have hc := ndi_get hx
    have hj : i < (kd (ndi l x1)).length := by omega
    have hg : (kidsF l x1)[i]? = some (kidsF l x1)[i] := List.getElem?_eq_getElem hj
    rw [drop_cons hg]
    have hr := hrec _ (List.mem_of_getElem? hg)
    generalize (kidsF l x1)[i] = k at hg hr
    have hg' : (ndi l x1).2.2.2.2.2.2.2.2.2.2.2.2.2[i]? = some k := hg
    have hj' : i < (ndi l x1).2.2.2.2.2.2.2.2.2.2.2.2.2.length := hj
    have hj'' : (i : Int) < ((ndi l x1).2.2.2.2.2.2.2.2.2.2.2.2.2.length : Int) := by omega
    have hw : IntKind.i64.wrap ((i : Int) + 1) = ((i + 1 : Nat) : Int) := by rw [wrap64 (by omega)]; omega
    have hd := deepG_lef (kidsF l) f k
    rw [loopF_inl (v' := (l.map encN, x1, (if deepG (kidsF l) f k > a then deepG (kidsF l) f k else a), ((i + 1 : Nat) : Int))) (by simp [-getElem?_pos, B_spec_l3Deep_29, run_done, run_fail, run_ask, run_opt, run_inl, run_inr, Option.bind_some, apart_b, apart_i, apart_s, hc, hx, cell_n, celi_n, celi_0, cell_0, cell_1, cell_2, cell_3, cell_4, cell_5, cell_6, cell_7, cell_8, cell_9, cell_10, cell_11, cell_12, cell_13, hg', hj', hr, hw])]
    rw [deep_loop l x1 f n hx hf hk hrec m (i + 1) M _ (by omega) (by omega) (by split <;> omega)]
    simp only [List.map_cons, maxL]
    congr 1
    split <;> omega
theorem ev_spec_l3Deep (l : List Nd) (hl : l.length ≤ 60) (hk : ∀ c ∈ l, (kd c).length ≤ 140737488351232) (hin : ∀ i : Int, 0 ≤ i → i < l.length → kidsIn (areaF l) (callF l) (kidsF l) i) : ∀ (f : Nat) (x : Int), f ≤ 1000 → 0 ≤ x → x < l.length → x < f → Ev (F_spec_l3Deep · (l.map encN) x) (deepG (kidsF l) f x)
  | 0, x, hf, h0, h1, h2 => by omega
  | f + 1, x, hf, h0, h1, h2 => by
    obtain ⟨n0, hn0⟩ := ev_list (F := fun y n => F_spec_l3Deep n (l.map encN) y) (f := fun y => deepG (kidsF l) f y) (kidsF l x) (fun y hy => by
      have := hin x h0 h1 y hy
      exact ev_spec_l3Deep l hl hk hin f y (by omega) (by omega) (by omega) (by omega))
    refine ⟨n0 + (kd (ndi l x)).length + 5, fun n hn => ?_⟩
    obtain ⟨m, rfl, hm⟩ := up1 hn
    have h := deep_loop l x f m ⟨h0, h1⟩ (by omega) (hk _ (ndi_mem (l := l) ⟨h0, h1⟩)) (hn0 m (by omega)) (kd (ndi l x)).length 0 m 0 (by omega) (by omega) (by omega)
    have hd := deepG_lef (kidsF l) (f + 1) x
    have e : max 0 (maxL ((kidsF l x).map fun k => deepG (kidsF l) f k)) + 1 = deepG (kidsF l) (f + 1) x := by
      rw [deepG]
      have : ∀ q : List Int, 0 ≤ maxL q := by
        intro q
        induction q with
        | nil => exact Int.le_refl 0
        | cons a r ih => simp only [maxL]; omega
      have := this ((kidsF l x).map fun k => deepG (kidsF l) f k)
      omega
    rw [List.drop_zero] at h
    simp only [Int.natCast_zero] at h
    have hw : IntKind.i64.wrap (max 0 (maxL ((kidsF l x).map fun k => deepG (kidsF l) f k)) + 1) = deepG (kidsF l) (f + 1) x := by rw [e, wrap64 (by omega)]
    simp only [F_spec_l3Deep, T_spec_l3Deep, run_done, run_fail, run_ask, run_opt, run_inl, run_inr, Option.bind_some, apart_b, apart_i, apart_s, h, hw]
/-- a node whose kids stand below it, part's cells in calls alone -/
def inB (l : List Nd) (i : Int) : Bool := (kidsF l i).all fun k => decide (0 ≤ k ∧ k ≤ i - 1) && !(areaF l k && !callF l i)
theorem inB_iff {l : List Nd} {i : Int} : inB l i = true ↔ kidsIn (areaF l) (callF l) (kidsF l) i := by
  unfold inB kidsIn
  rw [List.all_eq_true]
  refine forall_congr' fun k => forall_congr' fun hk => ?_
  cases areaF l k <;> cases callF l i <;> simp
theorem in_loop (l : List Nd) (x1 : Int) (n : Nat) (hx : 0 ≤ x1 ∧ x1 < l.length) (hl : l.length ≤ 60) (hk : (kd (ndi l x1)).length ≤ 140737488351232) :
    ∀ (m i M : Nat), (kd (ndi l x1)).length = i + m → m + 1 ≤ M →
      loopF (B_spec_FormulaOk_475 (n + 1)) M (l.map encN, x1, (i : Int)) = some (if ((kidsF l x1).drop i).all (fun k => decide (0 ≤ k ∧ k ≤ x1 - 1) && !(areaF l k && !callF l x1)) = true then .inr (l.map encN, x1) else .inl false)
  | m, i, 0, h1, h2 => by omega
  | 0, i, M + 1, h1, h2 => by
    have hc := ndi_get hx
    have hi : ¬ i < (ndi l x1).2.2.2.2.2.2.2.2.2.2.2.2.2.length := by unfold kd at h1; omega
    rw [loopF_inr (r := .inr (l.map encN, x1)) (by simp [-getElem?_pos, B_spec_FormulaOk_475, run_done, run_fail, run_ask, run_opt, run_inl, run_inr, Option.bind_some, apart_b, apart_i, apart_s, hc, hx, cell_n, celi_n, celi_0, cell_0, cell_1, cell_2, cell_3, cell_4, cell_5, cell_6, cell_7, cell_8, cell_9, cell_10, cell_11, cell_12, cell_13, hi])]
    rw [List.drop_eq_nil_of_le (by unfold kidsF; omega)]
    rfl
  | m + 1, i, M + 1, h1, h2 => by
    have hc := ndi_get hx
    have hj : i < (kd (ndi l x1)).length := by omega
    have hg : (kidsF l x1)[i]? = some (kidsF l x1)[i] := List.getElem?_eq_getElem hj
    rw [drop_cons hg]
    generalize (kidsF l x1)[i] = k at hg
    have hg' : (ndi l x1).2.2.2.2.2.2.2.2.2.2.2.2.2[i]? = some k := hg
    have hj' : i < (ndi l x1).2.2.2.2.2.2.2.2.2.2.2.2.2.length := hj
    have hw : IntKind.i64.wrap ((i : Int) + 1) = ((i + 1 : Nat) : Int) := by rw [wrap64 (by omega)]; omega
    have hw2 : IntKind.i64.wrap (x1 - 1) = x1 - 1 := wrap64 (by omega)
    have hin : F_spec_l1In (n + 1) k 0 (x1 - 1) = some (decide (0 ≤ k ∧ k ≤ x1 - 1)) := by
      simp only [F_spec_l1In, T_spec_l1In, run_done, run_fail, run_ask, run_opt, run_inl, run_inr, Option.bind_some, apart_b, apart_i, apart_s]
      by_cases h : k ≥ 0 <;> simp [h]
    rw [List.all_cons]
    by_cases hr : 0 ≤ k ∧ k ≤ x1 - 1
    · have hck := ndi_get (l := l) (i := k) ⟨hr.1, by omega⟩
      have hkl : k < (l.length : Int) := by omega
      by_cases ha : (ndi l k).1 = 3
      · by_cases hcl : (ndi l x1).1 = 6
        · rw [loopF_inl (v' := (l.map encN, x1, ((i + 1 : Nat) : Int))) (by simp [-getElem?_pos, B_spec_FormulaOk_475, run_done, run_fail, run_ask, run_opt, run_inl, run_inr, Option.bind_some, apart_b, apart_i, apart_s, hc, hx, cell_n, celi_n, celi_0, cell_0, cell_1, cell_2, cell_3, cell_4, cell_5, cell_6, cell_7, cell_8, cell_9, cell_10, cell_11, cell_12, cell_13, hg', hj', hw, hw2, hin, hr, hck, hkl, ha, hcl])]
          rw [in_loop l x1 n hx hl hk m (i + 1) M (by omega) (by omega)]
          simp [hr, areaF, callF, ha, hcl]
        · rw [loopF_inr (r := .inl false) (by simp [-getElem?_pos, B_spec_FormulaOk_475, run_done, run_fail, run_ask, run_opt, run_inl, run_inr, Option.bind_some, apart_b, apart_i, apart_s, hc, hx, cell_n, celi_n, celi_0, cell_0, cell_1, cell_2, cell_3, cell_4, cell_5, cell_6, cell_7, cell_8, cell_9, cell_10, cell_11, cell_12, cell_13, hg', hj', hw, hw2, hin, hr, hck, hkl, ha, hcl])]
          simp [hr, areaF, callF, ha, hcl]
      · rw [loopF_inl (v' := (l.map encN, x1, ((i + 1 : Nat) : Int))) (by simp [-getElem?_pos, B_spec_FormulaOk_475, run_done, run_fail, run_ask, run_opt, run_inl, run_inr, Option.bind_some, apart_b, apart_i, apart_s, hc, hx, cell_n, celi_n, celi_0, cell_0, cell_1, cell_2, cell_3, cell_4, cell_5, cell_6, cell_7, cell_8, cell_9, cell_10, cell_11, cell_12, cell_13, hg', hj', hw, hw2, hin, hr, hck, hkl, ha])]
        rw [in_loop l x1 n hx hl hk m (i + 1) M (by omega) (by omega)]
        simp [hr, areaF, callF, ha]
    · rw [loopF_inr (r := .inl false) (by simp [-getElem?_pos, B_spec_FormulaOk_475, run_done, run_fail, run_ask, run_opt, run_inl, run_inr, Option.bind_some, apart_b, apart_i, apart_s, hc, hx, cell_n, celi_n, celi_0, cell_0, cell_1, cell_2, cell_3, cell_4, cell_5, cell_6, cell_7, cell_8, cell_9, cell_10, cell_11, cell_12, cell_13, hg', hj', hw2, hin, hr])]
      simp [hr]
def okNodes (l : List Nd) (i m : Nat) : Bool := (List.range' i m).all fun (i : Nat) => ownF l (i : Int) && inB l (i : Int)
theorem okNodes_iff {l : List Nd} : okNodes l 0 l.length = true ↔ ∀ i : Int, 0 ≤ i → i < l.length → ownF l i = true ∧ kidsIn (areaF l) (callF l) (kidsF l) i := by
  unfold okNodes
  rw [List.all_eq_true]
  constructor
  · intro h i h0 h1
    have := h i.toNat (by rw [List.mem_range']; exact ⟨i.toNat, by omega, by omega⟩)
    rw [show ((i.toNat : Nat) : Int) = i by omega, Bool.and_eq_true, inB_iff] at this
    exact this
  · intro h i hi
    rw [List.mem_range'] at hi
    obtain ⟨j, hj, rfl⟩ := hi
    rw [Bool.and_eq_true, inB_iff]
    exact h _ (by omega) (by omega)
theorem ok_loop (l : List Nd) (n : Nat) (hl : l.length ≤ 60) (hk : ∀ c ∈ l, (kd c).length ≤ 140737488351232) (hn : ∀ c ∈ l, (kd c).length + 2 ≤ n)
    (hok : ∀ c ∈ l, F_spec_l3NodeOk n c.1 c.2.1 c.2.2.1 c.2.2.2.1 c.2.2.2.2.1 c.2.2.2.2.2.1 c.2.2.2.2.2.2.1 c.2.2.2.2.2.2.2.1 c.2.2.2.2.2.2.2.2.1 c.2.2.2.2.2.2.2.2.2.1 c.2.2.2.2.2.2.2.2.2.2.1 c.2.2.2.2.2.2.2.2.2.2.2.1 c.2.2.2.2.2.2.2.2.2.2.2.2.1 ((c.2.2.2.2.2.2.2.2.2.2.2.2.2).map encI) = some (nodeB c)) :
    ∀ (m i M : Nat), l.length = i + m → m + 1 ≤ M →
      loopF (B_spec_FormulaOk_29 n) M (l.map encN, (i : Int)) = some (if okNodes l i m = true then .inr (l.map encN) else .inl false)
  | m, i, 0, h1, h2 => by omega
  | 0, i, M + 1, h1, h2 => by
    have hi : ¬ (i : Int) < (l.length : Int) := by omega
    rw [loopF_inr (r := .inr (l.map encN)) (by simp [-getElem?_pos, B_spec_FormulaOk_29, run_done, run_fail, run_ask, run_opt, run_inl, run_inr, Option.bind_some, apart_b, apart_i, apart_s, hi])]
    rfl
  | m + 1, i, M + 1, h1, h2 => by
    have hi : (i : Int) < (l.length : Int) := by omega
    have hx : 0 ≤ (i : Int) ∧ (i : Int) < l.length := ⟨by omega, hi⟩
    have hc := ndi_get hx
    have hm := ndi_mem hx
    have ho := hok _ hm
    have hw : IntKind.i64.wrap ((i : Int) + 1) = ((i + 1 : Nat) : Int) := by rw [wrap64 (by omega)]; omega
    have hnn := hn _ hm
    obtain ⟨q, rfl⟩ : ∃ q, n = q + 1 := ⟨n - 1, by omega⟩
    have hlp := in_loop l i q hx hl (hk _ hm) (kd (ndi l i)).length 0 (q + 1) (by omega) (by omega)
    rw [List.drop_zero, show ((kidsF l (i : Int)).all fun k => decide (0 ≤ k ∧ k ≤ (i : Int) - 1) && !(areaF l k && !callF l (i : Int))) = inB l i from rfl] at hlp
    simp only [Int.natCast_zero] at hlp
    have e : okNodes l i (m + 1) = (ownF l i && inB l i && okNodes l (i + 1) m) := by unfold okNodes; rw [List.range'_succ, List.all_cons]
    rw [e]
    rw [Int.toNat_natCast] at hc
    cases hnb : nodeB (ndi l i) with
    | false =>
      rw [hnb] at ho
      rw [loopF_inr (r := .inl false) (by simp [-getElem?_pos, B_spec_FormulaOk_29, run_done, run_fail, run_ask, run_opt, run_inl, run_inr, Option.bind_some, apart_b, apart_i, apart_s, hi, hc, cell_n, celi_n, celi_0, cell_0, cell_1, cell_2, cell_3, cell_4, cell_5, cell_6, cell_7, cell_8, cell_9, cell_10, cell_11, cell_12, cell_13, ho])]
      simp [ownF, hnb]
    | true =>
      rw [hnb] at ho
      cases hib : inB l i with
      | false =>
        rw [hib] at hlp
        rw [loopF_inr (r := .inl false) (by simp [-getElem?_pos, B_spec_FormulaOk_29, run_done, run_fail, run_ask, run_opt, run_inl, run_inr, Option.bind_some, apart_b, apart_i, apart_s, hi, hc, cell_n, celi_n, celi_0, cell_0, cell_1, cell_2, cell_3, cell_4, cell_5, cell_6, cell_7, cell_8, cell_9, cell_10, cell_11, cell_12, cell_13, ho, hlp])]
        simp
      | true =>
        rw [hib] at hlp
        rw [loopF_inl (v' := (l.map encN, ((i + 1 : Nat) : Int))) (by simp [-getElem?_pos, B_spec_FormulaOk_29, run_done, run_fail, run_ask, run_opt, run_inl, run_inr, Option.bind_some, apart_b, apart_i, apart_s, hi, hc, cell_n, celi_n, celi_0, cell_0, cell_1, cell_2, cell_3, cell_4, cell_5, cell_6, cell_7, cell_8, cell_9, cell_10, cell_11, cell_12, cell_13, ho, hlp, hw])]
        rw [ok_loop l (q + 1) hl hk hn hok m (i + 1) M (by omega) (by omega)]
        simp [ownF, hnb]
/-- a right formula -/
def formB (l : List Nd) : Bool := decide (1 ≤ l.length ∧ l.length ≤ 60) && (okNodes l 0 l.length && (decide (treeG (kidsF l) l.length ((l.length : Int) - 1) = 0) && (!areaF l ((l.length : Int) - 1) && decide (deepG (kidsF l) l.length ((l.length : Int) - 1) ≤ 12))))
theorem ev_spec_FormulaOk (l : List Nd) (hk : ∀ c ∈ l, (kd c).length ≤ 140737488351232 ∧ c.2.2.2.2.1.size ≤ 140737488351232) : Ev (F_spec_FormulaOk · (l.map encN)) (formB l) := by
  by_cases h1 : 1 ≤ l.length
  · by_cases h60 : l.length ≤ 60
    · have hk1 : ∀ c ∈ l, (kd c).length ≤ 140737488351232 := fun c hc => (hk c hc).1
      obtain ⟨n1, g1⟩ := ev_list (F := fun (c : Nd) n => F_spec_l3NodeOk n c.1 c.2.1 c.2.2.1 c.2.2.2.1 c.2.2.2.2.1 c.2.2.2.2.2.1 c.2.2.2.2.2.2.1 c.2.2.2.2.2.2.2.1 c.2.2.2.2.2.2.2.2.1 c.2.2.2.2.2.2.2.2.2.1 c.2.2.2.2.2.2.2.2.2.2.1 c.2.2.2.2.2.2.2.2.2.2.2.1 c.2.2.2.2.2.2.2.2.2.2.2.2.1 ((c.2.2.2.2.2.2.2.2.2.2.2.2.2).map encI)) (f := nodeB) l (fun c hc => ev_spec_l3NodeOk c (hk c hc).2)
      obtain ⟨n2, g2⟩ := ev_list (F := fun (c : Nd) n => if (kd c).length + 2 ≤ n then some () else none) (f := fun _ => ()) l (fun c hc => ⟨(kd c).length + 2, fun n hn => if_pos hn⟩)
      obtain ⟨n3, g3⟩ := ev_spec_l3Tree l (by omega) hk1 l.length ((l.length : Int) - 1) (by omega) (by omega) (by omega)
      obtain ⟨n4, g4⟩ : ∃ n0, okNodes l 0 l.length = true → ∀ n, n0 ≤ n → F_spec_l3Deep n (l.map encN) ((l.length : Int) - 1) = some (deepG (kidsF l) l.length ((l.length : Int) - 1)) := by
        by_cases ho : okNodes l 0 l.length = true
        · obtain ⟨n4, g4⟩ := ev_spec_l3Deep l h60 hk1 (fun (i : Int) h0 h1 => (okNodes_iff.1 ho i h0 h1).2) l.length ((l.length : Int) - 1) (by omega) (by omega) (by omega) (by omega)
          exact ⟨n4, fun _ => g4⟩
        · exact ⟨0, fun h => absurd h ho⟩
      refine ⟨n1 + n2 + n3 + n4 + l.length + 5, fun n hn => ?_⟩
      obtain ⟨m, rfl, hm⟩ := up1 hn
      have hlp := ok_loop l m h60 hk1 (fun c hc => by
        have := g2 m (by omega) c hc
        split at this
        · assumption
        · cases this) (g1 m (by omega)) l.length 0 m (by omega) (by omega)
      have g3 := g3 m (by omega)
      dsimp only at g3
      simp only [Int.natCast_zero] at hlp
      have hw : IntKind.i64.wrap ((l.length : Int) - 1) = (l.length : Int) - 1 := wrap64 (by omega)
      have hx : 0 ≤ (l.length : Int) - 1 ∧ (l.length : Int) - 1 < l.length := by omega
      have hc := ndi_get hx
      have a1 : ¬ (l.length : Int) < 1 := by omega
      have a2 : ¬ (l.length : Int) > 60 := by omega
      generalize hxe : (l.length : Int) - 1 = x at hw hx hc g3 g4 ⊢
      simp only [F_spec_FormulaOk, T_spec_FormulaOk, run_done, run_fail, run_ask, run_opt, run_inl, run_inr, Option.bind_some, apart_b, apart_i, apart_s, List.length_map, decide_eq_true_eq, a1, a2, if_false, hlp]
      unfold formB
      rw [hxe]
      cases ho : okNodes l 0 l.length with
      | false => simp [run_done, run_fail, run_ask, run_opt, run_inl, run_inr, Option.bind_some, apart_b, apart_i, apart_s]
      | true =>
        have g4 := g4 ho m (by omega)
        simp only [if_true, run_done, run_fail, run_ask, run_opt, run_inl, run_inr, Option.bind_some, apart_b, apart_i, apart_s, List.length_map, hxe, hw, g3]
        by_cases ht : treeG (kidsF l) l.length x = 0
        · by_cases ha : (ndi l x).1 = 3
          · simp [-getElem?_pos, run_done, run_fail, run_ask, run_opt, run_inl, run_inr, Option.bind_some, apart_b, apart_i, apart_s, ht, hx, hc, cell_n, celi_n, celi_0, cell_0, cell_1, cell_2, cell_3, cell_4, cell_5, cell_6, cell_7, cell_8, cell_9, cell_10, cell_11, cell_12, cell_13, ha, areaF]
          · simp [-getElem?_pos, run_done, run_fail, run_ask, run_opt, run_inl, run_inr, Option.bind_some, apart_b, apart_i, apart_s, ht, hx, hc, cell_n, celi_n, celi_0, cell_0, cell_1, cell_2, cell_3, cell_4, cell_5, cell_6, cell_7, cell_8, cell_9, cell_10, cell_11, cell_12, cell_13, ha, areaF, g4, h1, h60]
        · simp [-getElem?_pos, run_done, run_fail, run_ask, run_opt, run_inl, run_inr, Option.bind_some, apart_b, apart_i, apart_s, ht]
    · refine ⟨1, fun n hn => ?_⟩
      obtain ⟨m, rfl, hm⟩ := up1 (n0 := 0) hn
      have a1 : ¬ (l.length : Int) < 1 := by omega
      have a2 : (l.length : Int) > 60 := by omega
      simp [-getElem?_pos, F_spec_FormulaOk, T_spec_FormulaOk, run_done, run_fail, run_ask, run_opt, run_inl, run_inr, Option.bind_some, apart_b, apart_i, apart_s, a1, a2, formB, h60]
  · refine ⟨1, fun n hn => ?_⟩
    obtain ⟨m, rfl, hm⟩ := up1 (n0 := 0) hn
    have a1 : (l.length : Int) < 1 := by omega
    simp [-getElem?_pos, F_spec_FormulaOk, T_spec_FormulaOk, run_done, run_fail, run_ask, run_opt, run_inl, run_inr, Option.bind_some, apart_b, apart_i, apart_s, a1, formB, h1]
theorem from_loop (l : List Nd) (x1 d : Int) (f n : Nat) (hx : 0 ≤ x1 ∧ x1 < l.length) (hl : l.length ≤ 140737488351232) (hd : 0 ≤ d ∧ d ≤ 1000) (hk : (kd (ndi l x1)).length ≤ 140737488351232)
    (hrec : ∀ y : Int, 0 ≤ y → y < x1 → F_impl_from n (l.map encN) y (d + 1) = some (fromG (ownF l) (areaF l) (callF l) (kidsF l) f y)) :
    ∀ (j M : Nat) (s : Int), j ≤ (kd (ndi l x1)).length → j + 1 ≤ M → 0 ≤ s → s ≤ x1 →
      loopF (B_impl_from_61 (F_impl_from n) n) M (l.map encN, x1, d, s, (j : Int) - 1) = some (.inr (goF (areaF l) (callF l) (fromG (ownF l) (areaF l) (callF l) (kidsF l) f) x1 ((kidsF l x1).take j).reverse s)) ∨
      (loopF (B_impl_from_61 (F_impl_from n) n) M (l.map encN, x1, d, s, (j : Int) - 1) = some (.inl (-1)) ∧ goF (areaF l) (callF l) (fromG (ownF l) (areaF l) (callF l) (kidsF l) f) x1 ((kidsF l x1).take j).reverse s = -1)
  | 0, 0, s, h1, h2, h3, h4 => by omega
  | 0, M + 1, s, h1, h2, h3, h4 => by
    refine .inl ?_
    rw [loopF_inr (r := .inr s) (by simp [-getElem?_pos, B_impl_from_61, run_done, run_fail, run_ask, run_opt, run_inl, run_inr, Option.bind_some, apart_b, apart_i, apart_s])]
    simp [goF]
  | j + 1, 0, s, h1, h2, h3, h4 => by omega
  | j + 1, M + 1, s, h1, h2, h3, h4 => by
    have hc := ndi_get hx
    have hj : j < (kd (ndi l x1)).length := by omega
    have hg : (kidsF l x1)[j]? = some (kidsF l x1)[j] := List.getElem?_eq_getElem hj
    have ih := from_loop l x1 d f n hx hl hd hk hrec j M
    rw [take_rev hg]
    generalize (kidsF l x1)[j] = k at hg
    have hi : (((j + 1 : Nat) : Int) - 1) = (j : Int) := by omega
    rw [hi, goF]
    have hg' : (ndi l x1).2.2.2.2.2.2.2.2.2.2.2.2.2[j]? = some k := hg
    have hj' : j < (ndi l x1).2.2.2.2.2.2.2.2.2.2.2.2.2.length := hj
    have hws : IntKind.i64.wrap (s - 1) = s - 1 := wrap64 (by omega)
    by_cases hks : k = s - 1
    · by_cases hk0 : k < 0
      · refine .inr ⟨?_, by rw [if_pos (.inr (.inl hk0))]⟩
        rw [loopF_inr (r := .inl (-1)) (by simp [-getElem?_pos, B_impl_from_61, run_done, run_fail, run_ask, run_opt, run_inl, run_inr, Option.bind_some, apart_b, apart_i, apart_s, hc, hx, cell_n, celi_n, celi_0, cell_0, cell_1, cell_2, cell_3, cell_4, cell_5, cell_6, cell_7, cell_8, cell_9, cell_10, cell_11, cell_12, cell_13, hg', hj', hks, hws, show s - 1 < 0 by omega])]
      · have hws' : IntKind.i64.wrap (s - 1) = k := by rw [hws, hks]
        have hkx : 0 ≤ k ∧ k < l.length := by omega
        have hck := ndi_get hkx
        by_cases hac : areaF l k = true ∧ callF l x1 = false
        · have ha : (ndi l k).1 = 3 := by simpa [areaF] using hac.1
          have hb : ¬ (ndi l x1).1 = 6 := by simpa [callF] using hac.2
          refine .inr ⟨?_, by rw [if_pos (.inr (.inr hac))]⟩
          rw [loopF_inr (r := .inl (-1)) (by simp [-getElem?_pos, B_impl_from_61, run_done, run_fail, run_ask, run_opt, run_inl, run_inr, Option.bind_some, apart_b, apart_i, apart_s, hc, hx, cell_n, celi_n, celi_0, cell_0, cell_1, cell_2, cell_3, cell_4, cell_5, cell_6, cell_7, cell_8, cell_9, cell_10, cell_11, cell_12, cell_13, hg', hj', hws', hk0, hck, hkx, ha, hb])]
        · have hr := hrec k (by omega) (by omega)
          have hwd : IntKind.i64.wrap (d + 1) = d + 1 := wrap64 (by omega)
          have hw2 : IntKind.i64.wrap ((j : Int) - 1) = (j : Int) - 1 := wrap64 (by omega)
          have hno : ¬ (k ≠ s - 1 ∨ k < 0 ∨ (areaF l k = true ∧ callF l x1 = false)) := fun h => by
            rcases h with h | h | h
            · exact h hks
            · exact hk0 h
            · exact hac h
          have hcase : ¬ (ndi l k).1 = 3 ∨ ((ndi l k).1 = 3 ∧ (ndi l x1).1 = 6) := by
            by_cases ha : (ndi l k).1 = 3
            · refine .inr ⟨ha, ?_⟩
              refine Decidable.byContradiction fun hb => hac ⟨by simp [areaF, ha], by simp [callF, hb]⟩
            · exact .inl ha
          rw [if_neg hno]
          by_cases ht : fromG (ownF l) (areaF l) (callF l) (kidsF l) f k < 0
          · refine .inr ⟨?_, by rw [if_pos ht]⟩
            rcases hcase with ha | ⟨ha, hb⟩
            · rw [loopF_inr (r := .inl (-1)) (by simp [-getElem?_pos, B_impl_from_61, run_done, run_fail, run_ask, run_opt, run_inl, run_inr, Option.bind_some, apart_b, apart_i, apart_s, hc, hx, cell_n, celi_n, celi_0, cell_0, cell_1, cell_2, cell_3, cell_4, cell_5, cell_6, cell_7, cell_8, cell_9, cell_10, cell_11, cell_12, cell_13, hg', hj', hws', hk0, hck, hkx, ha, hwd, hr, ht])]
            · rw [loopF_inr (r := .inl (-1)) (by simp [-getElem?_pos, B_impl_from_61, run_done, run_fail, run_ask, run_opt, run_inl, run_inr, Option.bind_some, apart_b, apart_i, apart_s, hc, hx, cell_n, celi_n, celi_0, cell_0, cell_1, cell_2, cell_3, cell_4, cell_5, cell_6, cell_7, cell_8, cell_9, cell_10, cell_11, cell_12, cell_13, hg', hj', hws', hk0, hck, hkx, ha, hb, hwd, hr, ht])]
          · rw [if_neg ht]
            have hb1 := (from_ok (ownF l) (areaF l) (callF l) (kidsF l) f (k.toNat + 1) k (by omega) (by omega) (by omega)).1
            have hstep : loopF (B_impl_from_61 (F_impl_from n) n) (M + 1) (l.map encN, x1, d, s, (j : Int)) = loopF (B_impl_from_61 (F_impl_from n) n) M (l.map encN, x1, d, fromG (ownF l) (areaF l) (callF l) (kidsF l) f k, (j : Int) - 1) := by
              rcases hcase with ha | ⟨ha, hb⟩
              · rw [loopF_inl (v' := (l.map encN, x1, d, fromG (ownF l) (areaF l) (callF l) (kidsF l) f k, (j : Int) - 1)) (by simp [-getElem?_pos, B_impl_from_61, run_done, run_fail, run_ask, run_opt, run_inl, run_inr, Option.bind_some, apart_b, apart_i, apart_s, hc, hx, cell_n, celi_n, celi_0, cell_0, cell_1, cell_2, cell_3, cell_4, cell_5, cell_6, cell_7, cell_8, cell_9, cell_10, cell_11, cell_12, cell_13, hg', hj', hws', hk0, hck, hkx, ha, hwd, hr, ht, hw2])]
              · rw [loopF_inl (v' := (l.map encN, x1, d, fromG (ownF l) (areaF l) (callF l) (kidsF l) f k, (j : Int) - 1)) (by simp [-getElem?_pos, B_impl_from_61, run_done, run_fail, run_ask, run_opt, run_inl, run_inr, Option.bind_some, apart_b, apart_i, apart_s, hc, hx, cell_n, celi_n, celi_0, cell_0, cell_1, cell_2, cell_3, cell_4, cell_5, cell_6, cell_7, cell_8, cell_9, cell_10, cell_11, cell_12, cell_13, hg', hj', hws', hk0, hck, hkx, ha, hb, hwd, hr, ht, hw2])]
            rw [hstep]
            exact ih _ (by omega) (by omega) (by omega) (by omega)
    · refine .inr ⟨?_, by rw [if_pos (.inl hks)]⟩
      rw [loopF_inr (r := .inl (-1)) (by simp [-getElem?_pos, B_impl_from_61, run_done, run_fail, run_ask, run_opt, run_inl, run_inr, Option.bind_some, apart_b, apart_i, apart_s, hc, hx, cell_n, celi_n, celi_0, cell_0, cell_1, cell_2, cell_3, cell_4, cell_5, cell_6, cell_7, cell_8, cell_9, cell_10, cell_11, cell_12, cell_13, hg', hj', hws, hks])]
theorem ev_impl_from (l : List Nd) (hl : l.length ≤ 140737488351232) (hk : ∀ c ∈ l, (kd c).length ≤ 140737488351232 ∧ c.2.2.2.2.1.size ≤ 140737488351232) : ∀ (f : Nat) (x d : Int), x < l.length → d = 12 - f → 0 ≤ d → Ev (F_impl_from · (l.map encN) x d) (fromG (ownF l) (areaF l) (callF l) (kidsF l) f x)
  | 0, x, d, h1, h2, h3 => by
    refine ⟨1, fun n hn => ?_⟩
    obtain ⟨m, rfl, hm⟩ := up1 (n0 := 0) hn
    have a : d ≥ 12 := by omega
    by_cases h : x < 0 <;> simp [-getElem?_pos, F_impl_from, T_impl_from, run_done, run_fail, run_ask, run_opt, run_inl, run_inr, Option.bind_some, apart_b, apart_i, apart_s, h, a, fromG]
  | f + 1, x, d, h1, h2, h3 => by
    by_cases h0 : x < 0
    · refine ⟨1, fun n hn => ?_⟩
      obtain ⟨m, rfl, hm⟩ := up1 (n0 := 0) hn
      simp [-getElem?_pos, F_impl_from, T_impl_from, run_done, run_fail, run_ask, run_opt, run_inl, run_inr, Option.bind_some, apart_b, apart_i, apart_s, h0, fromG]
    · have hx : 0 ≤ x ∧ x < l.length := by omega
      have hc := ndi_get hx
      have hm' := ndi_mem hx
      obtain ⟨n0, hn0⟩ := ev_below (F := fun y n => F_impl_from n (l.map encN) y (d + 1)) (f := fun y => fromG (ownF l) (areaF l) (callF l) (kidsF l) f y) x (fun y h3 h4 => ev_impl_from l hl hk f y (d + 1) (by omega) (by omega) (by omega))
      obtain ⟨n1, g1⟩ := ev_impl_isOwn (ndi l x) (hk _ hm').2
      refine ⟨n0 + n1 + (kd (ndi l x)).length + 5, fun n hn => ?_⟩
      obtain ⟨m, rfl, hm⟩ := up1 hn
      have g1 := g1 m (by omega)
      have h := from_loop l x d f m hx hl (by omega) (hk _ hm').1 (hn0 m (by omega)) (kd (ndi l x)).length m x (Nat.le_refl _) (by omega) (by omega) (by omega)
      have e : (kidsF l x).take (kd (ndi l x)).length = kidsF l x := List.take_length
      rw [e] at h
      have hw2 : IntKind.i64.wrap (((kd (ndi l x)).length : Int) - 1) = ((kd (ndi l x)).length : Int) - 1 := by
        have := (hk _ hm').1
        exact wrap64 (by omega)
      have a : ¬ d ≥ 12 := by omega
      unfold kd at h hw2
      dsimp only at g1 ⊢
      simp only [F_impl_from, T_impl_from, fromG, run_done, run_fail, run_ask, run_opt, run_inl, run_inr, Option.bind_some, apart_b, apart_i, apart_s]
      cases hnb : nodeB (ndi l x) with
      | false =>
        rw [hnb] at g1
        simp [-getElem?_pos, run_done, run_fail, run_ask, run_opt, run_inl, run_inr, Option.bind_some, apart_b, apart_i, apart_s, h0, a, hc, hx, cell_n, celi_n, celi_0, cell_0, cell_1, cell_2, cell_3, cell_4, cell_5, cell_6, cell_7, cell_8, cell_9, cell_10, cell_11, cell_12, cell_13, g1, ownF, hnb]
      | true =>
        rw [hnb] at g1
        rcases h with h | ⟨h, h'⟩
        · simp [-getElem?_pos, run_done, run_fail, run_ask, run_opt, run_inl, run_inr, Option.bind_some, apart_b, apart_i, apart_s, h0, a, hc, hx, cell_n, celi_n, celi_0, cell_0, cell_1, cell_2, cell_3, cell_4, cell_5, cell_6, cell_7, cell_8, cell_9, cell_10, cell_11, cell_12, cell_13, g1, ownF, hnb, hw2, h]
        · simp only [h']
          simp [-getElem?_pos, run_done, run_fail, run_ask, run_opt, run_inl, run_inr, Option.bind_some, apart_b, apart_i, apart_s, h0, a, hc, hx, cell_n, celi_n, celi_0, cell_0, cell_1, cell_2, cell_3, cell_4, cell_5, cell_6, cell_7, cell_8, cell_9, cell_10, cell_11, cell_12, cell_13, g1, ownF, hnb, hw2, h]
theorem form_iff {l : List Nd} : formB l = (decide (1 ≤ l.length ∧ l.length ≤ 60) && (!areaF l ((l.length : Int) - 1) && decide (fromG (ownF l) (areaF l) (callF l) (kidsF l) 12 ((l.length : Int) - 1) = 0))) := by
  rw [Bool.eq_iff_iff]
  unfold formB
  simp only [Bool.and_eq_true, decide_eq_true_eq]
  constructor
  · intro ⟨h1, h2, h3, h4, h5⟩
    refine ⟨h1, h4, ?_⟩
    rw [from_of (ownF l) (areaF l) (callF l) (kidsF l) 12 l.length l.length ((l.length : Int) - 1) (by omega) (by omega) (by omega) (fun i i0 i1 => okNodes_iff.1 h2 i i0 (by omega)) (by omega) (by simpa using h5)]
    exact h3
  · intro ⟨h1, h4, h5⟩
    obtain ⟨b1, b2, b3, b4⟩ := from_ok (ownF l) (areaF l) (callF l) (kidsF l) 12 l.length ((l.length : Int) - 1) (by omega) (by omega) (by omega)
    rw [h5] at b2 b3
    refine ⟨h1, okNodes_iff.2 (fun i i0 i1 => b3 i i0 (by omega)), b2, h4, ?_⟩
    have := b4 l.length (fun i i0 i1 => (b3 i i0 i1).2) (by omega)
    simpa using this
theorem ev_impl_FormulaOk (l : List Nd) (hl : l.length ≤ 140737488351232) (hk : ∀ c ∈ l, (kd c).length ≤ 140737488351232 ∧ c.2.2.2.2.1.size ≤ 140737488351232) : Ev (F_impl_FormulaOk · (l.map encN)) (formB l) := by
  rw [form_iff]
  by_cases h : 1 ≤ l.length ∧ l.length ≤ 60
  · obtain ⟨n1, g1⟩ := ev_impl_from l hl hk 12 ((l.length : Int) - 1) 0 (by omega) (by omega) (by omega)
    obtain ⟨n2, g2⟩ := ev_impl_within (l.length : Int) 1 60
    refine ⟨n1 + n2 + 1, fun n hn => ?_⟩
    obtain ⟨m, rfl, hm⟩ := up1 hn
    have g1 := g1 m (by omega)
    have g2 := g2 m (by omega)
    dsimp only at g1 g2 ⊢
    have hw : IntKind.i64.wrap ((l.length : Int) - 1) = (l.length : Int) - 1 := wrap64 (by omega)
    have hx : 0 ≤ (l.length : Int) - 1 ∧ (l.length : Int) - 1 < l.length := by omega
    have hc := ndi_get hx
    have h' : (1 : Int) ≤ l.length ∧ (l.length : Int) ≤ 60 := by omega
    generalize hxe : (l.length : Int) - 1 = x at hw hx hc g1 ⊢
    by_cases ha : (ndi l x).1 = 3
    · simp [-getElem?_pos, F_impl_FormulaOk, T_impl_FormulaOk, run_done, run_fail, run_ask, run_opt, run_inl, run_inr, Option.bind_some, apart_b, apart_i, apart_s, hxe, g2, h', hw, hx, hc, cell_n, celi_n, celi_0, cell_0, cell_1, cell_2, cell_3, cell_4, cell_5, cell_6, cell_7, cell_8, cell_9, cell_10, cell_11, cell_12, cell_13, ha, areaF]
    · by_cases hf : fromG (ownF l) (areaF l) (callF l) (kidsF l) 12 x = 0 <;> simp [-getElem?_pos, F_impl_FormulaOk, T_impl_FormulaOk, run_done, run_fail, run_ask, run_opt, run_inl, run_inr, Option.bind_some, apart_b, apart_i, apart_s, hxe, g1, g2, h, h', hw, hx, hc, cell_n, celi_n, celi_0, cell_0, cell_1, cell_2, cell_3, cell_4, cell_5, cell_6, cell_7, cell_8, cell_9, cell_10, cell_11, cell_12, cell_13, ha, areaF, hf]
  · obtain ⟨n2, g2⟩ := ev_impl_within (l.length : Int) 1 60
    refine ⟨n2 + 1, fun n hn => ?_⟩
    obtain ⟨m, rfl, hm⟩ := up1 hn
    have g2 := g2 m (by omega)
    dsimp only at g2 ⊢
    have h' : ¬ ((1 : Int) ≤ l.length ∧ (l.length : Int) ≤ 60) := by omega
    simp [-getElem?_pos, F_impl_FormulaOk, T_impl_FormulaOk, run_done, run_fail, run_ask, run_opt, run_inl, run_inr, Option.bind_some, apart_b, apart_i, apart_s, g2, h, h']
/-- a text in quotes: what stands between them -/
def quoteL (l : List UInt8) : List UInt8 := l.flatMap fun c => if c = 34 then [34, 34] else [c]
def quoteS (s : ByteArray) : ByteArray := ⟨(34 :: quoteL s.toList ++ [34]).toArray⟩
theorem quote_cons (c : UInt8) (l : List UInt8) : quoteL (c :: l) = (if c = 34 then [34, 34] else [c]) ++ quoteL l := by simp [quoteL]
theorem quote_app (l r : List UInt8) : quoteL (l ++ r) = quoteL l ++ quoteL r := by simp [quoteL]
theorem quote_len : ∀ l : List UInt8, (quoteL l).length ≤ 2 * l.length
  | [] => by simp [quoteL]
  | c :: l => by
    have := quote_len l
    rw [quote_cons]
    by_cases h : c = 34 <;> simp [h] <;> omega
theorem replace_quote : ∀ s : List UInt8, Lib.replaceK [34] [34, 34] (Lib.count s [34]) s = quoteL s
  | [] => by
    rw [Lib.count_miss (by rfl)]
    rfl
  | b :: l => by
    have ih := replace_quote l
    by_cases hb : b = 34
    · subst hb
      have h0 : Lib.index (34 :: l) [34] = ((0 : Nat) : Int) := by simp [Lib.index, List.isPrefixOf]
      rw [Lib.count_hit (by simp) h0, Nat.add_comm, Lib.replaceK_hit _ _ _ _ 0 h0]
      simp only [List.take_zero, List.nil_append, Nat.zero_add, List.length_singleton, List.drop_succ_cons, List.drop_zero]
      rw [ih, quote_cons, if_pos rfl]
    · have hix : Lib.index (b :: l) [34] = if Lib.index l [34] == -1 then -1 else Lib.index l [34] + 1 := by
        have : ((34 : UInt8) == b) = false := by simpa using fun e => hb e.symm
        simp [Lib.index, List.isPrefixOf, this]
      rw [quote_cons, if_neg hb]
      by_cases hm : Lib.index l [34] = -1
      · rw [hm] at hix
        rw [Lib.count_miss hm] at ih
        rw [Lib.count_miss (by rw [hix]; rfl)]
        rw [Lib.replaceK] at ih ⊢
        rw [← ih]
        rfl
      · have hge := Lib.index_ge l [34]
        obtain ⟨i, hi⟩ : ∃ i : Nat, Lib.index l [34] = i := ⟨(Lib.index l [34]).toNat, by omega⟩
        have hix' : Lib.index (b :: l) [34] = ((i + 1 : Nat) : Int) := by
          rw [hix, if_neg (by simp [hm]), hi]
          omega
        rw [Lib.count_hit (by simp) hi, Nat.add_comm, Lib.replaceK_hit _ _ _ _ i hi] at ih
        rw [Lib.count_hit (by simp) hix', Nat.add_comm, Lib.replaceK_hit _ _ _ _ (i + 1) hix']
        rw [← ih]
        simp only [List.length_singleton, List.take_succ_cons, List.drop_succ_cons, List.cons_append, List.singleton_append, List.nil_append]
theorem replaceAll_quote (s : List UInt8) : Lib.replaceAll s [34] [34, 34] = quoteL s := by
  have h1 : (([34] : List UInt8) == [34, 34]) = false := by decide
  have h2 : Lib.replaceNum s [34] (-1) = Lib.count s [34] := by unfold Lib.replaceNum; rw [if_pos (.inl (by decide))]
  unfold Lib.replaceAll Lib.replace
  rw [h1, h2]
  exact replace_quote s
theorem ext_one {s : ByteArray} {i : Nat} {c : UInt8} (h : s.toList[i]? = some c) : s.extract i (i + 1) = ⟨#[c]⟩ := by
  apply ba_eq
  rw [Go.Lib.toList_data] at h
  rw [ByteArray.data_extract, Array.toList_extract]
  show (s.data.toList.drop i).take (i + 1 - i) = _
  rw [drop_cons h, Nat.add_sub_cancel_left]
  rfl
theorem quote_step (n : Nat) (s A : ByteArray) (i : Nat) (c : UInt8) (hg : s.toList[i]? = some c) (hi : i < s.size) (hA : A.size ≤ 10000) (hs : s.size ≤ 1000) :
    (B_spec_l3Quote_29 n (s, A, (i : Int))).run = some (.inl (s, if c = 34 then (A ++ ⟨#[34]⟩) ++ ⟨#[c]⟩ else A ++ ⟨#[c]⟩, ((i + 1 : Nat) : Int))) := by
  have hi' : (i : Int) < s.size := by omega
  have w1 : IntKind.i64.wrap ((i : Int) + 1) = ((i + 1 : Nat) : Int) := by rw [wrap64 (by omega)]; omega
  have hx := ext_one hg
  have d1 : (⟨#[34]⟩ : ByteArray).size = 1 := rfl
  have d2 : (⟨#[c]⟩ : ByteArray).size = 1 := rfl
  have y1 : (0 : Int) ≤ (i : Int) ∧ (i : Int) ≤ ((i + 1 : Nat) : Int) ∧ ((i + 1 : Nat) : Int) ≤ s.size := by omega
  have y0 : (0 : Int) ≤ (i : Int) := by omega
  have z1 : A.size + (⟨#[34]⟩ : ByteArray).size ≤ 9223372036854775807 := by omega
  have z2 : (A ++ (⟨#[34]⟩ : ByteArray)).size + (⟨#[c]⟩ : ByteArray).size ≤ 9223372036854775807 := by rw [ByteArray.size_append]; omega
  have z3 : A.size + (⟨#[c]⟩ : ByteArray).size ≤ 9223372036854775807 := by omega
  by_cases hc : c = 34
  · have hb : ((c.toNat : Int) == (34 : Int)) = true := by rw [hc]; rfl
    rw [if_pos hc]
    simp only [B_spec_l3Quote_29, run_done, run_fail, run_ask, run_opt, run_inl, run_inr, Option.bind_some, apart_b, apart_i, apart_s, decide_eq_true hi', decide_eq_true y0, Int.toNat_natCast, hg, hb, decide_eq_true z1, w1, decide_eq_true y1, hx, decide_eq_true z2, if_true]
  · have hb : ((c.toNat : Int) == (34 : Int)) = false := by
      have : c.toNat ≠ 34 := fun e => hc (UInt8.toNat_inj.1 e)
      simp
      omega
    simp only [B_spec_l3Quote_29, run_done, run_fail, run_ask, run_opt, run_inl, run_inr, Option.bind_some, apart_b, apart_i, apart_s, decide_eq_true hi', decide_eq_true y0, Int.toNat_natCast, hg, hb, w1, decide_eq_true y1, hx, decide_eq_true z3, if_true, hc, if_false, Bool.false_eq_true]
theorem quote_loop (n : Nat) (s : ByteArray) (hs : s.size ≤ 1000) : ∀ (r pre : List UInt8) (M : Nat), s.toList = pre ++ r → r.length + 1 ≤ M →
    loopF (B_spec_l3Quote_29 n) M (s, ⟨(34 :: quoteL pre).toArray⟩, (pre.length : Int)) = some ⟨(34 :: quoteL s.toList).toArray⟩
  | r, pre, 0, h1, h2 => by omega
  | [], pre, M + 1, h1, h2 => by
    have hi : ¬ (pre.length : Int) < s.size := by rw [ba_len, h1]; simp
    rw [h1, List.append_nil]
    generalize (⟨(34 :: quoteL pre).toArray⟩ : ByteArray) = A
    rw [loopF_inr (r := A) (by simp [B_spec_l3Quote_29, run_done, run_fail, run_ask, run_opt, run_inl, run_inr, Option.bind_some, apart_b, apart_i, apart_s, hi])]
  | c :: r, pre, M + 1, h1, h2 => by
    have hl : s.size = pre.length + (r.length + 1) := by rw [ba_len, h1]; simp
    have hg : s.toList[pre.length]? = some c := by rw [h1]; simp
    have hq := quote_len pre
    have hA : (⟨(34 :: quoteL pre).toArray⟩ : ByteArray).size ≤ 10000 := by
      rw [ba_size]
      simp
      omega
    rw [loopF_inl (quote_step n s _ pre.length c hg (by omega) hA hs)]
    have e : (if c = 34 then ((⟨(34 :: quoteL pre).toArray⟩ : ByteArray) ++ ⟨#[34]⟩) ++ ⟨#[c]⟩ else (⟨(34 :: quoteL pre).toArray⟩ : ByteArray) ++ ⟨#[c]⟩) = ⟨(34 :: quoteL (pre ++ [c])).toArray⟩ := by
      apply ba_eq
      by_cases hc : c = 34
      · rw [if_pos hc, ba_app, ba_app, quote_app, quote_cons, if_pos hc, hc]
        simp [quoteL]
      · rw [if_neg hc, ba_app, quote_app, quote_cons, if_neg hc]
        simp [quoteL]
    rw [e]
    have h := quote_loop n s hs r (pre ++ [c]) M (by rw [h1]; simp) (by simp at h2; omega)
    rw [show ((pre ++ [c]).length : Int) = ((pre.length + 1 : Nat) : Int) by simp] at h
    exact h
theorem quote_size (s : ByteArray) : (quoteS s).size ≤ 2 * s.size + 2 := by
  have := quote_len s.toList
  rw [tl_len] at this
  rw [ba_size]
  simp [quoteS]
  omega
theorem ev_spec_l3Quote (s : ByteArray) (hs : s.size ≤ 1000) : Ev (F_spec_l3Quote · s) (quoteS s) := by
  refine ⟨s.size + 5, fun n hn => ?_⟩
  obtain ⟨m, rfl, hm⟩ := up1 hn
  have h := quote_loop m s hs s.toList [] m rfl (by rw [tl_len]; omega)
  simp only [List.length_nil, Int.natCast_zero] at h
  have e0 : (⟨(34 :: quoteL []).toArray⟩ : ByteArray) = ⟨#[34]⟩ := rfl
  rw [e0] at h
  have hz : (⟨(34 :: quoteL s.toList).toArray⟩ : ByteArray).size + (⟨#[34]⟩ : ByteArray).size ≤ 9223372036854775807 := by
    have := quote_len s.toList
    rw [tl_len] at this
    have d1 : (⟨#[34]⟩ : ByteArray).size = 1 := rfl
    rw [ba_size, d1]
    simp
    omega
  simp only [F_spec_l3Quote, T_spec_l3Quote, run_done, run_fail, run_ask, run_opt, run_inl, run_inr, Option.bind_some, apart_b, apart_i, apart_s, h, decide_eq_true hz, if_true]
  congr 1
theorem ev_ReplaceAll (s : ByteArray) (hs : s.size ≤ 1000) : Ev (F_strings_ReplaceAll · s ⟨#[34]⟩ ⟨#[34, 34]⟩) ⟨(quoteL s.toList).toArray⟩ := by
  refine ⟨1, fun n hn => ?_⟩
  obtain ⟨m, rfl, hm⟩ := up1 (n0 := 0) hn
  show L_strings_ReplaceAll s ⟨#[34]⟩ ⟨#[34, 34]⟩ = _
  have hc := Lib.countB_mul_le (⟨#[34]⟩ : ByteArray) (by decide) s.size s (Nat.le_refl _)
  have d1 : (⟨#[34]⟩ : ByteArray).size = 1 := rfl
  have d2 : (⟨#[34, 34]⟩ : ByteArray).size = 2 := rfl
  unfold L_strings_ReplaceAll
  rw [d1] at hc
  rw [if_pos (by rw [d1, d2]; omega)]
  congr 3
  rw [← Go.Lib.toList_data]
  exact replaceAll_quote _
def lvl (op : Int) : Int := if op ≥ 6 then 1 else if op = 5 then 2 else if op ≥ 3 then 4 else 3
theorem lvl_in (op : Int) : 1 ≤ lvl op ∧ lvl op ≤ 4 := by
  unfold lvl
  split
  · omega
  · split
    · omega
    · split <;> omega
theorem ev_spec_l3Level (op : Int) : Ev (F_spec_l3Level · op) (lvl op) := by
  refine ⟨1, fun n hn => ?_⟩
  obtain ⟨m, rfl, hm⟩ := up1 hn
  simp only [F_spec_l3Level, T_spec_l3Level, run_done, run_fail, run_ask, run_opt, run_inl, run_inr, Option.bind_some, apart_b, apart_i, apart_s]
  unfold lvl
  by_cases h1 : op ≥ 6
  · simp [h1]
  · by_cases h2 : op = 5
    · simp [h2]
    · by_cases h3 : op ≥ 3 <;> simp [h1, h2, h3]
theorem op11 {op : Int} (h : 1 ≤ op ∧ op ≤ 11) : op = 1 ∨ op = 2 ∨ op = 3 ∨ op = 4 ∨ op = 5 ∨ op = 6 ∨ op = 7 ∨ op = 8 ∨ op = 9 ∨ op = 10 ∨ op = 11 := by omega
theorem ev_impl_binds (op : Int) (h : 1 ≤ op ∧ op ≤ 11) : Ev (F_impl_binds · op) (lvl op) := by
  refine ⟨1, fun n hn => ?_⟩
  obtain ⟨m, rfl, hm⟩ := up1 hn
  simp only [F_impl_binds, T_impl_binds, run_done, run_fail, run_ask, run_opt, run_inl, run_inr, Option.bind_some, apart_b, apart_i, apart_s]
  rcases op11 h with rfl | rfl | rfl | rfl | rfl | rfl | rfl | rfl | rfl | rfl | rfl <;> rfl
def signS (op : Int) : ByteArray := if op = 1 then ⟨#[43]⟩ else if op = 2 then ⟨#[45]⟩ else if op = 3 then ⟨#[42]⟩ else if op = 4 then ⟨#[47]⟩ else if op = 5 then ⟨#[38]⟩ else if op = 6 then ⟨#[61]⟩ else if op = 7 then ⟨#[60, 62]⟩ else if op = 8 then ⟨#[60]⟩ else if op = 9 then ⟨#[60, 61]⟩ else if op = 10 then ⟨#[62]⟩ else ⟨#[62, 61]⟩
def fnS (op : Int) : ByteArray := if op = 1 then ⟨#[83, 85, 77]⟩ else if op = 2 then ⟨#[77, 73, 78]⟩ else if op = 3 then ⟨#[77, 65, 88]⟩ else if op = 4 then ⟨#[67, 79, 85, 78, 84]⟩ else if op = 5 then ⟨#[73, 70]⟩ else if op = 6 then ⟨#[65, 78, 68]⟩ else if op = 7 then ⟨#[79, 82]⟩ else if op = 8 then ⟨#[78, 79, 84]⟩ else if op = 9 then ⟨#[65, 66, 83]⟩ else ⟨#[76, 69, 78]⟩
theorem signS_size {op : Int} (h : 1 ≤ op ∧ op ≤ 11) : (signS op).size ≤ 2 := by
  rcases op11 h with rfl | rfl | rfl | rfl | rfl | rfl | rfl | rfl | rfl | rfl | rfl <;> decide
theorem fnS_size {op : Int} (h : 1 ≤ op ∧ op ≤ 10) : (fnS op).size ≤ 5 := by
  rcases ten h with rfl | rfl | rfl | rfl | rfl | rfl | rfl | rfl | rfl | rfl <;> decide
theorem ev_spec_l3Sign (op : Int) (h : 1 ≤ op ∧ op ≤ 11) : Ev (F_spec_l3Sign · op) (signS op) := by
  refine ⟨1, fun n hn => ?_⟩
  obtain ⟨m, rfl, hm⟩ := up1 hn
  simp only [F_spec_l3Sign, T_spec_l3Sign, run_done, run_fail, run_ask, run_opt, run_inl, run_inr, Option.bind_some, apart_b, apart_i, apart_s]
  rcases op11 h with rfl | rfl | rfl | rfl | rfl | rfl | rfl | rfl | rfl | rfl | rfl <;> rfl
theorem ev_impl_opText (op : Int) (h : 1 ≤ op ∧ op ≤ 11) : Ev (F_impl_opText · op) (signS op) := by
  refine ⟨1, fun n hn => ?_⟩
  obtain ⟨m, rfl, hm⟩ := up1 hn
  simp only [F_impl_opText, T_impl_opText, run_done, run_fail, run_ask, run_opt, run_inl, run_inr, Option.bind_some, apart_b, apart_i, apart_s]
  rcases op11 h with rfl | rfl | rfl | rfl | rfl | rfl | rfl | rfl | rfl | rfl | rfl <;> rfl
theorem ev_spec_l3Fn (op : Int) (h : 1 ≤ op ∧ op ≤ 10) : Ev (F_spec_l3Fn · op) (fnS op) := by
  refine ⟨1, fun n hn => ?_⟩
  obtain ⟨m, rfl, hm⟩ := up1 hn
  simp only [F_spec_l3Fn, T_spec_l3Fn, run_done, run_fail, run_ask, run_opt, run_inl, run_inr, Option.bind_some, apart_b, apart_i, apart_s]
  rcases ten h with rfl | rfl | rfl | rfl | rfl | rfl | rfl | rfl | rfl | rfl <;> rfl
theorem ev_impl_fnText (op : Int) (h : 1 ≤ op ∧ op ≤ 10) : Ev (F_impl_fnText · op) (fnS op) := by
  refine ⟨1, fun n hn => ?_⟩
  obtain ⟨m, rfl, hm⟩ := up1 hn
  simp only [F_impl_fnText, T_impl_fnText, run_done, run_fail, run_ask, run_opt, run_inl, run_inr, Option.bind_some, apart_b, apart_i, apart_s]
  rcases ten h with rfl | rfl | rfl | rfl | rfl | rfl | rfl | rfl | rfl | rfl <;> rfl
/-- texts with commas between -/
def joinB (xs : List ByteArray) : ByteArray := ⟨(Lib.join (xs.map (·.data.toList)) [44]).toArray⟩
def par (b : Bool) (s : ByteArray) : ByteArray := if b = true then ((⟨#[40]⟩ : ByteArray) ++ s) ++ ⟨#[41]⟩ else s
def kid (c : Nd) (j : Nat) : Int := (kd c).getD j 0
def textG (l : List Nd) : Nat → Int → Int → ByteArray
  | 0, _, _ => ⟨#[]⟩
  | f + 1, i, t =>
    if (ndi l i).1 = 1 then (if (ndi l i).2.2.1 = 2 then quoteS (ndi l i).2.2.2.2.1 else vtext (ndi l i).2.2.1 (ndi l i).2.2.2.1 (ndi l i).2.2.2.2.1)
    else if (ndi l i).1 = 2 then placeS (ndi l i).2.2.2.2.2.1 (ndi l i).2.2.2.2.2.2.1 (ndi l i).2.2.2.2.2.2.2.1 (ndi l i).2.2.2.2.2.2.2.2.1
    else if (ndi l i).1 = 3 then (placeS (ndi l i).2.2.2.2.2.1 (ndi l i).2.2.2.2.2.2.1 (ndi l i).2.2.2.2.2.2.2.1 (ndi l i).2.2.2.2.2.2.2.2.1 ++ ⟨#[58]⟩) ++ placeS (ndi l i).2.2.2.2.2.2.2.2.2.1 (ndi l i).2.2.2.2.2.2.2.2.2.2.1 (ndi l i).2.2.2.2.2.2.2.2.2.2.2.1 (ndi l i).2.2.2.2.2.2.2.2.2.2.2.2.1
    else if (ndi l i).1 = 4 then (⟨#[45]⟩ : ByteArray) ++ textG l f (kid (ndi l i) 0) 5
    else if (ndi l i).1 = 5 then par (decide (lvl (ndi l i).2.1 < t)) ((textG l f (kid (ndi l i) 0) (lvl (ndi l i).2.1) ++ signS (ndi l i).2.1) ++ textG l f (kid (ndi l i) 1) (lvl (ndi l i).2.1 + 1))
    else ((fnS (ndi l i).2.1 ++ ⟨#[40]⟩) ++ joinB ((kidsF l i).map fun k => textG l f k 1)) ++ ⟨#[41]⟩
theorem text_01 (l : List Nd) (f : Nat) (i : Int) : textG l f i 0 = textG l f i 1 := by
  cases f with
  | zero => rfl
  | succ f =>
    have h := lvl_in (ndi l i).2.1
    have e : decide (lvl (ndi l i).2.1 < 0) = decide (lvl (ndi l i).2.1 < 1) := by
      rw [decide_eq_false (by omega), decide_eq_false (by omega)]
    simp only [textG, e]
theorem nodeB_cases {c : Nd} (h : nodeB c = true) : (c.1 = 1 ∧ okV c.2.2.1 c.2.2.2.1 c.2.2.2.2.1 = true) ∨ c.1 = 2 ∨ c.1 = 3 ∨ (c.1 = 4 ∧ (kd c).length = 1) ∨ (c.1 = 5 ∧ (1 ≤ c.2.1 ∧ c.2.1 ≤ 11) ∧ (kd c).length = 2) ∨ (c.1 = 6 ∧ (1 ≤ c.2.1 ∧ c.2.1 ≤ 10) ∧ (1 ≤ (kd c).length ∧ (kd c).length ≤ 10)) := by
  unfold nodeB at h
  by_cases k1 : c.1 = 1
  · rw [if_pos k1] at h
    simp only [Bool.and_eq_true] at h
    exact .inl ⟨k1, h.2.2.2.2.1⟩
  rw [if_neg k1] at h
  by_cases k2 : c.1 = 2
  · exact .inr (.inl k2)
  rw [if_neg k2] at h
  by_cases k3 : c.1 = 3
  · exact .inr (.inr (.inl k3))
  rw [if_neg k3] at h
  by_cases k4 : c.1 = 4
  · rw [if_pos k4] at h
    simp only [Bool.and_eq_true, decide_eq_true_eq] at h
    exact .inr (.inr (.inr (.inl ⟨k4, h.2.2.2.2⟩)))
  rw [if_neg k4] at h
  by_cases k5 : c.1 = 5
  · rw [if_pos k5] at h
    simp only [Bool.and_eq_true, decide_eq_true_eq] at h
    exact .inr (.inr (.inr (.inr (.inl ⟨k5, h.1, h.2.2.2.2⟩))))
  rw [if_neg k5] at h
  by_cases k6 : c.1 = 6
  · rw [if_pos k6] at h
    simp only [Bool.and_eq_true] at h
    have ha := h.1
    unfold argsB at ha
    refine .inr (.inr (.inr (.inr (.inr ⟨k6, ?_⟩))))
    by_cases h5 : c.2.1 = 5
    · rw [if_pos h5] at ha
      have := of_decide_eq_true ha
      omega
    · rw [if_neg h5] at ha
      by_cases h8 : 8 ≤ c.2.1 ∧ c.2.1 ≤ 10
      · rw [if_pos h8] at ha
        have := of_decide_eq_true ha
        omega
      · rw [if_neg h8] at ha
        by_cases h1 : 1 ≤ c.2.1 ∧ c.2.1 ≤ 7
        · rw [if_pos h1] at ha
          have := of_decide_eq_true ha
          omega
        · rw [if_neg h1] at ha
          cases ha
  · rw [if_neg k6] at h
    cases h
def szB : Nat → Nat
  | 0 => 37
  | f + 1 => 11 * szB f
theorem szB_fin : ∀ f : Fin 13, szB f.val ≤ 120000000000000 := by decide
theorem szB_le {f : Nat} (h : f ≤ 12) : szB f ≤ 120000000000000 := szB_fin ⟨f, by omega⟩
theorem szB_ge : ∀ f : Nat, 37 ≤ szB f
  | 0 => Nat.le_refl _
  | f + 1 => by have := szB_ge f; simp only [szB]; omega
theorem joinTail_cons (x : List UInt8) (r : List (List UInt8)) (sep : List UInt8) : Lib.joinTail sep (x :: r) = sep ++ x ++ Lib.joinTail sep r := by simp [Lib.joinTail]
theorem joinTail_len : ∀ (xs : List ByteArray) (b : Nat), (∀ x ∈ xs, x.size ≤ b) → (Lib.joinTail [44] (xs.map (·.data.toList))).length ≤ xs.length * (b + 1)
  | [], b, h => by simp [Lib.joinTail]
  | x :: r, b, h => by
    have ih := joinTail_len r b fun y hy => h y (List.mem_cons_of_mem _ hy)
    have hx := h x (List.mem_cons_self ..)
    rw [ba_size] at hx
    rw [List.map_cons, joinTail_cons, List.length_append, List.length_append, List.length_singleton, List.length_cons, Nat.add_mul]
    omega
theorem joinB_size {xs : List ByteArray} {b : Nat} (h : ∀ x ∈ xs, x.size ≤ b) : (joinB xs).size ≤ xs.length * (b + 1) := by
  rw [ba_size]
  show (Lib.join (xs.map (·.data.toList)) [44]).length ≤ _
  cases xs with
  | nil => simp [Lib.join_nil]
  | cons x r =>
    have h1 := joinTail_len r b fun y hy => h y (List.mem_cons_of_mem _ hy)
    have hx := h x (List.mem_cons_self ..)
    rw [ba_size] at hx
    rw [List.map_cons, Lib.join_cons, List.length_append, List.length_cons, Nat.add_mul]
    omega
/-- what stands below a node -/
structure Fine (l : List Nd) : Prop where
  len : l.length ≤ 60
  own : ∀ i : Int, 0 ≤ i → i < l.length → ownF l i = true ∧ kidsIn (areaF l) (callF l) (kidsF l) i
  sz : ∀ c ∈ l, (kd c).length ≤ 140737488351232 ∧ c.2.2.2.2.1.size ≤ 140737488351232
theorem Fine.kid {l : List Nd} (h : Fine l) {f : Nat} {i k : Int} (hi : 0 ≤ i ∧ i < l.length) (hd : deepG (kidsF l) (i.toNat + 1) i ≤ (f + 1 : Nat)) (hk : k ∈ kidsF l i) : (0 ≤ k ∧ k < l.length) ∧ deepG (kidsF l) (k.toNat + 1) k ≤ f := by
  have hin := (h.own i hi.1 hi.2).2 k hk
  have h1 := (deepG_le (kidsF l) (n := i) (b := ((f + 1 : Nat) : Int)) (f := i.toNat) (by omega)).1 hd k hk
  refine ⟨by omega, ?_⟩
  rw [deepG_eq (areaF l) (callF l) (kidsF l) (k.toNat + 1) i.toNat k (by omega) (by omega) (fun j j0 j1 => (h.own j j0 (by omega)).2) (by omega)]
  omega
theorem text_size {l : List Nd} (h : Fine l) : ∀ (f : Nat) (i t : Int), f ≤ 12 → (0 ≤ i ∧ i < l.length) → deepG (kidsF l) (i.toNat + 1) i ≤ f → (textG l f i t).size ≤ szB f
  | 0, i, t, hf, hi, hd => by show (⟨#[]⟩ : ByteArray).size ≤ _; exact Nat.zero_le _
  | f + 1, i, t, hf, hi, hd => by
    have ih := fun k hk t' => text_size h f k t' (by omega) (h.kid hi hd hk).1 (h.kid hi hd hk).2
    have hs := szB_ge f
    have hp : ∀ a b c d, (placeS a b c d).size ≤ 30 := placeS_size
    have hz := (h.sz _ (ndi_mem hi)).2
    have d1 : (⟨#[58]⟩ : ByteArray).size = 1 := rfl
    have d2 : (⟨#[45]⟩ : ByteArray).size = 1 := rfl
    have d3 : (⟨#[40]⟩ : ByteArray).size = 1 := rfl
    have d4 : (⟨#[41]⟩ : ByteArray).size = 1 := rfl
    have hk0 : ∀ j, j < (kd (ndi l i)).length → kid (ndi l i) j ∈ kidsF l i := fun j hj => by
      unfold kid
      rw [List.getD_eq_getElem?_getD, List.getElem?_eq_getElem hj]
      exact List.getElem_mem hj
    rw [szB, textG]
    rcases nodeB_cases (h.own i hi.1 hi.2).1 with ⟨k, hv⟩ | k | k | ⟨k, hk⟩ | ⟨k, ho, hk⟩ | ⟨k, ho, hk⟩
    · rw [if_pos k]
      by_cases k2 : (ndi l i).2.2.1 = 2
      · rw [if_pos k2]
        rw [k2] at hv
        have := (okV_2 hv).2.1
        have := quote_size (ndi l i).2.2.2.2.1
        omega
      · rw [if_neg k2]
        have := vtext_size hv
        omega
    · rw [if_neg (by omega), if_pos k]
      have := hp (ndi l i).2.2.2.2.2.1 (ndi l i).2.2.2.2.2.2.1 (ndi l i).2.2.2.2.2.2.2.1 (ndi l i).2.2.2.2.2.2.2.2.1
      omega
    · rw [if_neg (by omega), if_neg (by omega), if_pos k, ByteArray.size_append, ByteArray.size_append]
      have h1 := hp (ndi l i).2.2.2.2.2.1 (ndi l i).2.2.2.2.2.2.1 (ndi l i).2.2.2.2.2.2.2.1 (ndi l i).2.2.2.2.2.2.2.2.1
      have h2 := hp (ndi l i).2.2.2.2.2.2.2.2.2.1 (ndi l i).2.2.2.2.2.2.2.2.2.2.1 (ndi l i).2.2.2.2.2.2.2.2.2.2.2.1 (ndi l i).2.2.2.2.2.2.2.2.2.2.2.2.1
      omega
    · rw [if_neg (by omega), if_neg (by omega), if_neg (by omega), if_pos k, ByteArray.size_append]
      have := ih _ (hk0 0 (by omega)) 5
      omega
    · rw [if_neg (by omega), if_neg (by omega), if_neg (by omega), if_neg (by omega), if_pos k]
      have h1 := ih _ (hk0 0 (by omega)) (lvl (ndi l i).2.1)
      have h2 := ih _ (hk0 1 (by omega)) (lvl (ndi l i).2.1 + 1)
      have h3 := signS_size ho
      unfold par
      split
      · rw [ByteArray.size_append, ByteArray.size_append, ByteArray.size_append, ByteArray.size_append]
        omega
      · rw [ByteArray.size_append, ByteArray.size_append]
        omega
    · rw [if_neg (by omega), if_neg (by omega), if_neg (by omega), if_neg (by omega), if_neg (by omega)]
      rw [ByteArray.size_append, ByteArray.size_append, ByteArray.size_append]
      have h1 := fnS_size ho
      have h2 := joinB_size (xs := (kidsF l i).map fun k => textG l f k 1) (b := szB f) (fun x hx => by
        obtain ⟨k, hk, rfl⟩ := List.mem_map.1 hx
        exact ih k hk 1)
      have h3 : (kidsF l i).length ≤ 10 := hk.2
      have h4 : (kidsF l i).length * (szB f + 1) ≤ 10 * (szB f + 1) := Nat.mul_le_mul_right _ h3
      rw [List.length_map] at h2
      omega
abbrev R14 := Int × Int × Int × Int × ByteArray × Int × Int × Bool × Bool × Int × Int × Bool × Bool × List (List PV)
theorem spec_join_step (rec : List (List PV) → Int → Int → Option ByteArray) (n : Nat) (rows : List (List PV)) (A t : ByteArray) (R : R14) (i : Nat) (k : Int) (hg : R.2.2.2.2.2.2.2.2.2.2.2.2.2[i]? = some (encI k)) (hr : rec rows k 0 = some t) (hA : A.size ≤ 2000000000000000) (ht : t.size ≤ 120000000000000) (hi : i ≤ 1000) :
    (B_spec_l3Text_125 rec n (rows, A, (i : Int), R)).run = some (.inl (rows, (if i = 0 then A ++ t else (A ++ (⟨#[44]⟩ : ByteArray)) ++ t), ((i + 1 : Nat) : Int), R)) := by
  obtain ⟨a0, a1, a2, a3, a4, a5, a6, a7, a8, a9, a10, a11, a12, a13⟩ := R
  have hl : i < a13.length := (List.getElem?_eq_some_iff.1 hg).1
  have h1 : (i : Int) < (a13.length : Int) := by omega
  have h2 : 0 ≤ (i : Int) ∧ (i : Int) < (a13.length : Int) := by omega
  have w1 : IntKind.i64.wrap ((i : Int) + 1) = ((i + 1 : Nat) : Int) := by rw [wrap64 (by omega)]; omega
  have d1 : (⟨#[44]⟩ : ByteArray).size = 1 := rfl
  have z1 : A.size + (⟨#[44]⟩ : ByteArray).size ≤ 9223372036854775807 := by omega
  have z2 : (A ++ (⟨#[44]⟩ : ByteArray)).size + t.size ≤ 9223372036854775807 := by rw [ByteArray.size_append]; omega
  have z3 : A.size + t.size ≤ 9223372036854775807 := by omega
  by_cases h0 : i = 0
  · subst h0
    simp only [B_spec_l3Text_125, run_done, run_fail, run_ask, run_opt, run_inl, run_inr, Option.bind_some, apart_b, apart_i, apart_s, decide_eq_true h1, Int.natCast_zero, gt_iff_lt, Int.lt_irrefl, decide_false, Bool.false_eq_true, if_false, if_true] at *
    simp only [decide_eq_true h1, decide_eq_true h2, if_true, Int.toNat_zero, hg, Option.bind_some, celi_n, celi_0, decide_true, hr, decide_eq_true z3, w1]
  · have hp : (i : Int) > 0 := by omega
    simp only [B_spec_l3Text_125, run_done, run_fail, run_ask, run_opt, run_inl, run_inr, Option.bind_some, apart_b, apart_i, apart_s, decide_eq_true h1, decide_eq_true hp, if_true, decide_eq_true z1, decide_eq_true h2, Int.toNat_natCast, hg, celi_n, celi_0, decide_true, hr, decide_eq_true z2, w1, h0, if_false]
theorem spec_join (l : List Nd) (f n : Nat) (R : R14) (b : Nat) (hb : b ≤ 120000000000000) (ks : List Int) (hks : R.2.2.2.2.2.2.2.2.2.2.2.2.2 = ks.map encI) (hk10 : ks.length ≤ 10)
    (hr : ∀ k ∈ ks, F_spec_l3Text n (l.map encN) k 0 = some (textG l f k 1) ∧ (textG l f k 1).size ≤ b) :
    ∀ (r pre : List Int) (A : ByteArray) (M : Nat), ks = pre ++ r → r.length + 1 ≤ M → A.size ≤ 100 + pre.length * (b + 1) →
      loopF (B_spec_l3Text_125 (F_spec_l3Text n) n) M (l.map encN, A, (pre.length : Int), R) = some ⟨(A.data.toList ++ (if pre.length = 0 then Lib.join (r.map fun k => (textG l f k 1).data.toList) [44] else Lib.joinTail [44] (r.map fun k => (textG l f k 1).data.toList))).toArray⟩
  | r, pre, A, 0, h1, h2, h3 => by omega
  | [], pre, A, M + 1, h1, h2, h3 => by
    obtain ⟨a0, a1, a2, a3, a4, a5, a6, a7, a8, a9, a10, a11, a12, a13⟩ := R
    simp only at hks
    subst hks
    have hi : ¬ (pre.length : Int) < ((ks.map encI).length : Int) := by rw [List.length_map, h1]; simp
    rw [loopF_inr (r := A) (by simp only [B_spec_l3Text_125, run_done, run_fail, run_ask, run_opt, run_inl, run_inr, Option.bind_some, apart_b, apart_i, apart_s, decide_eq_false hi, Bool.false_eq_true, if_false])]
    congr 1
    apply ba_eq
    simp [Lib.joinTail, Lib.join_nil]
  | k :: r, pre, A, M + 1, h1, h2, h3 => by
    have hm : k ∈ ks := by rw [h1]; simp
    obtain ⟨g1, g2⟩ := hr k hm
    have hpl : pre.length + (r.length + 1) = ks.length := by rw [h1]; simp
    have hmul : pre.length * (b + 1) ≤ 10 * (b + 1) := Nat.mul_le_mul_right _ (by omega)
    have hg : R.2.2.2.2.2.2.2.2.2.2.2.2.2[pre.length]? = some (encI k) := by rw [hks, h1, List.getElem?_map]; simp
    rw [loopF_inl (spec_join_step (F_spec_l3Text n) n (l.map encN) A (textG l f k 1) R pre.length k hg g1 (by omega) (by omega) (by omega))]
    have h := spec_join l f n R b hb ks hks hk10 hr r (pre ++ [k]) (if pre.length = 0 then A ++ textG l f k 1 else (A ++ (⟨#[44]⟩ : ByteArray)) ++ textG l f k 1) M (by rw [h1]; simp) (by simp at h2; omega) (by
      have d1 : (⟨#[44]⟩ : ByteArray).size = 1 := rfl
      rw [List.length_append, List.length_singleton, Nat.add_mul]
      split
      · rw [ByteArray.size_append]; omega
      · rw [ByteArray.size_append, ByteArray.size_append]; omega)
    rw [show ((pre ++ [k]).length : Int) = ((pre.length + 1 : Nat) : Int) by simp] at h
    rw [h]
    congr 1
    apply ba_eq
    have e : (pre ++ [k]).length ≠ 0 := by simp
    simp only [if_neg e]
    by_cases h0 : pre.length = 0
    · simp only [if_pos h0, ba_app, List.map_cons, Lib.join_cons, List.append_assoc]
    · simp only [if_neg h0, ba_app, List.map_cons, joinTail_cons, List.append_assoc, List.cons_append, List.nil_append]
set_option maxHeartbeats 4000000 in
theorem ev_spec_l3Text_step {l : List Nd} (h : Fine l) (f : Nat) (i t : Int) (hf : f + 1 ≤ 12) (hx : 0 ≤ i ∧ i < l.length) (hd : deepG (kidsF l) (i.toNat + 1) i ≤ (f + 1 : Nat)) (ih : ∀ k ∈ kidsF l i, ∀ t', Ev (F_spec_l3Text · (l.map encN) k t') (textG l f k t')) : Ev (F_spec_l3Text · (l.map encN) i t) (textG l (f + 1) i t) := by
    have ih := fun k hk t' => ih k hk t'
    have isz := fun k hk t' => text_size h f k t' (by omega) (h.kid hx hd hk).1 (h.kid hx hd hk).2
    have hs := szB_le (f := f) (by omega)
    have hcr : (l.map encN)[i.toNat]? = some (encN (ndi l i)) := by rw [List.getElem?_map, ndi_get hx]; rfl
    have hxb : 0 ≤ i ∧ i < ((l.map encN).length : Int) := by rw [List.length_map]; exact hx
    have hz := (h.sz _ (ndi_mem hx)).2
    have hp : ∀ a b c d, (placeS a b c d).size ≤ 30 := placeS_size
    have d1 : (⟨#[58]⟩ : ByteArray).size = 1 := rfl
    have d2 : (⟨#[45]⟩ : ByteArray).size = 1 := rfl
    have d3 : (⟨#[40]⟩ : ByteArray).size = 1 := rfl
    have d4 : (⟨#[41]⟩ : ByteArray).size = 1 := rfl
    have hk0 : ∀ j, j < (kd (ndi l i)).length → kid (ndi l i) j ∈ kidsF l i ∧ (List.map encI (ndi l i).2.2.2.2.2.2.2.2.2.2.2.2.2)[j]? = some (encI (kid (ndi l i) j)) := fun j hj => by
      unfold kid
      rw [List.getD_eq_getElem?_getD, List.getElem?_eq_getElem hj]
      refine ⟨List.getElem_mem hj, ?_⟩
      rw [List.getElem?_map]
      show ((kd (ndi l i))[j]?).map encI = _
      rw [List.getElem?_eq_getElem hj]
      rfl
    have hkl : (List.map encI (ndi l i).2.2.2.2.2.2.2.2.2.2.2.2.2).length = (kd (ndi l i)).length := by rw [List.length_map]; rfl
    rcases nodeB_cases (h.own i hx.1 hx.2).1 with ⟨k, hv⟩ | k | k | ⟨k, hk⟩ | ⟨k, ho, hk⟩ | ⟨k, ho, hk⟩
    · by_cases k2 : (ndi l i).2.2.1 = 2
      · have hv2 : okV 2 (ndi l i).2.2.2.1 (ndi l i).2.2.2.2.1 = true := by rw [← k2]; exact hv
        obtain ⟨n1, g1⟩ := ev_spec_l3Quote (ndi l i).2.2.2.2.1 (by have := (okV_2 hv2).2.1; omega)
        refine ⟨n1 + 1, fun n hn => ?_⟩
        obtain ⟨m, rfl, hm⟩ := up1 hn
        have g1 := g1 m (by omega)
        dsimp only at g1 ⊢
        show (T_spec_l3Text (F_spec_l3Text m) m (l.map encN) i t).run = _
        refine ask_t (decide_eq_true hxb) (opt_eq hcr (ask_t rfl (opt_eq (cell_0 _) (opt_eq (cell_1 _) (opt_eq (cell_2 _) (opt_eq (cell_3 _) (opt_eq (cell_4 _) (opt_eq (cell_5 _) (opt_eq (cell_6 _) (opt_eq (cell_7 _) (opt_eq (cell_8 _) (opt_eq (cell_9 _) (opt_eq (cell_10 _) (opt_eq (cell_11 _) (opt_eq (cell_12 _) (opt_eq (cell_13 _) ?_))))))))))))))))
        refine ask_t (by rw [k]; rfl) (ask_t (by rw [k2]; rfl) (opt_eq g1 ?_))
        rw [run_done, textG, if_pos k, if_pos k2]
      · obtain ⟨n1, g1⟩ := ev_spec_ValueText (ndi l i).2.2.1 (ndi l i).2.2.2.1 (ndi l i).2.2.2.2.1 hz
        have kb : ((ndi l i).2.2.1 == (2 : Int)) = false := by simpa using k2
        refine ⟨n1 + 1, fun n hn => ?_⟩
        obtain ⟨m, rfl, hm⟩ := up1 hn
        have g1 := g1 m (by omega)
        rw [hv] at g1
        dsimp only at g1 ⊢
        simp only [if_true] at g1
        show (T_spec_l3Text (F_spec_l3Text m) m (l.map encN) i t).run = _
        refine ask_t (decide_eq_true hxb) (opt_eq hcr (ask_t rfl (opt_eq (cell_0 _) (opt_eq (cell_1 _) (opt_eq (cell_2 _) (opt_eq (cell_3 _) (opt_eq (cell_4 _) (opt_eq (cell_5 _) (opt_eq (cell_6 _) (opt_eq (cell_7 _) (opt_eq (cell_8 _) (opt_eq (cell_9 _) (opt_eq (cell_10 _) (opt_eq (cell_11 _) (opt_eq (cell_12 _) (opt_eq (cell_13 _) ?_))))))))))))))))
        refine ask_t (by rw [k]; rfl) (ask_f kb (opt_eq g1 ?_))
        rw [run_done, textG, if_pos k, if_neg k2]
    · obtain ⟨n1, g1⟩ := ev_spec_PlaceText (ndi l i).2.2.2.2.2.1 (ndi l i).2.2.2.2.2.2.1 (ndi l i).2.2.2.2.2.2.2.1 (ndi l i).2.2.2.2.2.2.2.2.1
      refine ⟨n1 + 1, fun n hn => ?_⟩
      obtain ⟨m, rfl, hm⟩ := up1 hn
      have g1 := g1 m (by omega)
      dsimp only at g1 ⊢
      show (T_spec_l3Text (F_spec_l3Text m) m (l.map encN) i t).run = _
      refine ask_t (decide_eq_true hxb) (opt_eq hcr (ask_t rfl (opt_eq (cell_0 _) (opt_eq (cell_1 _) (opt_eq (cell_2 _) (opt_eq (cell_3 _) (opt_eq (cell_4 _) (opt_eq (cell_5 _) (opt_eq (cell_6 _) (opt_eq (cell_7 _) (opt_eq (cell_8 _) (opt_eq (cell_9 _) (opt_eq (cell_10 _) (opt_eq (cell_11 _) (opt_eq (cell_12 _) (opt_eq (cell_13 _) ?_))))))))))))))))
      refine ask_f (by rw [k]; rfl) (ask_t (by rw [k]; rfl) (opt_eq g1 ?_))
      rw [run_done, textG, if_neg (by omega), if_pos k]
    · obtain ⟨n1, g1⟩ := ev_spec_PlaceText (ndi l i).2.2.2.2.2.1 (ndi l i).2.2.2.2.2.2.1 (ndi l i).2.2.2.2.2.2.2.1 (ndi l i).2.2.2.2.2.2.2.2.1
      obtain ⟨n2, g2⟩ := ev_spec_PlaceText (ndi l i).2.2.2.2.2.2.2.2.2.1 (ndi l i).2.2.2.2.2.2.2.2.2.2.1 (ndi l i).2.2.2.2.2.2.2.2.2.2.2.1 (ndi l i).2.2.2.2.2.2.2.2.2.2.2.2.1
      have h1 := hp (ndi l i).2.2.2.2.2.1 (ndi l i).2.2.2.2.2.2.1 (ndi l i).2.2.2.2.2.2.2.1 (ndi l i).2.2.2.2.2.2.2.2.1
      have h2 := hp (ndi l i).2.2.2.2.2.2.2.2.2.1 (ndi l i).2.2.2.2.2.2.2.2.2.2.1 (ndi l i).2.2.2.2.2.2.2.2.2.2.2.1 (ndi l i).2.2.2.2.2.2.2.2.2.2.2.2.1
      have z1 : (placeS (ndi l i).2.2.2.2.2.1 (ndi l i).2.2.2.2.2.2.1 (ndi l i).2.2.2.2.2.2.2.1 (ndi l i).2.2.2.2.2.2.2.2.1).size + (⟨#[58]⟩ : ByteArray).size ≤ 9223372036854775807 := by omega
      have z2 : (placeS (ndi l i).2.2.2.2.2.1 (ndi l i).2.2.2.2.2.2.1 (ndi l i).2.2.2.2.2.2.2.1 (ndi l i).2.2.2.2.2.2.2.2.1 ++ (⟨#[58]⟩ : ByteArray)).size + (placeS (ndi l i).2.2.2.2.2.2.2.2.2.1 (ndi l i).2.2.2.2.2.2.2.2.2.2.1 (ndi l i).2.2.2.2.2.2.2.2.2.2.2.1 (ndi l i).2.2.2.2.2.2.2.2.2.2.2.2.1).size ≤ 9223372036854775807 := by rw [ByteArray.size_append]; omega
      refine ⟨n1 + n2 + 1, fun n hn => ?_⟩
      obtain ⟨m, rfl, hm⟩ := up1 hn
      have g1 := g1 m (by omega)
      have g2 := g2 m (by omega)
      dsimp only at g1 g2 ⊢
      show (T_spec_l3Text (F_spec_l3Text m) m (l.map encN) i t).run = _
      refine ask_t (decide_eq_true hxb) (opt_eq hcr (ask_t rfl (opt_eq (cell_0 _) (opt_eq (cell_1 _) (opt_eq (cell_2 _) (opt_eq (cell_3 _) (opt_eq (cell_4 _) (opt_eq (cell_5 _) (opt_eq (cell_6 _) (opt_eq (cell_7 _) (opt_eq (cell_8 _) (opt_eq (cell_9 _) (opt_eq (cell_10 _) (opt_eq (cell_11 _) (opt_eq (cell_12 _) (opt_eq (cell_13 _) ?_))))))))))))))))
      refine ask_f (by rw [k]; rfl) (ask_f (by rw [k]; rfl) (ask_t (by rw [k]; rfl) (opt_eq g1 (ask_t (decide_eq_true z1) (opt_eq g2 (ask_t (decide_eq_true z2) ?_))))))
      rw [run_done, textG, if_neg (by omega), if_neg (by omega), if_pos k]
    · obtain ⟨m0, c0⟩ := hk0 0 (by omega)
      obtain ⟨n1, g1⟩ := ih _ m0 5
      have h1 := isz _ m0 5
      have z1 : (⟨#[45]⟩ : ByteArray).size + (textG l f (kid (ndi l i) 0) 5).size ≤ 9223372036854775807 := by omega
      have y1 : (0 : Int) ≤ (0 : Int) ∧ (0 : Int) < ((List.map encI (ndi l i).2.2.2.2.2.2.2.2.2.2.2.2.2).length : Int) := by rw [hkl]; omega
      refine ⟨n1 + 1, fun n hn => ?_⟩
      obtain ⟨m, rfl, hm⟩ := up1 hn
      have g1 := g1 m (by omega)
      dsimp only at g1 ⊢
      have e0 : ((0 : Int)).toNat = 0 := rfl
      show (T_spec_l3Text (F_spec_l3Text m) m (l.map encN) i t).run = _
      refine ask_t (decide_eq_true hxb) (opt_eq hcr (ask_t rfl (opt_eq (cell_0 _) (opt_eq (cell_1 _) (opt_eq (cell_2 _) (opt_eq (cell_3 _) (opt_eq (cell_4 _) (opt_eq (cell_5 _) (opt_eq (cell_6 _) (opt_eq (cell_7 _) (opt_eq (cell_8 _) (opt_eq (cell_9 _) (opt_eq (cell_10 _) (opt_eq (cell_11 _) (opt_eq (cell_12 _) (opt_eq (cell_13 _) ?_))))))))))))))))
      refine ask_f (by rw [k]; rfl) (ask_f (by rw [k]; rfl) (ask_f (by rw [k]; rfl) (ask_t (by rw [k]; rfl) (ask_t (decide_eq_true y1) (opt_eq c0 (ask_t rfl (opt_eq (celi_0 _) (opt_eq g1 (ask_t (decide_eq_true z1) ?_)))))))))
      rw [run_done, textG, if_neg (by omega), if_neg (by omega), if_neg (by omega), if_pos k]
    · obtain ⟨m0, c0⟩ := hk0 0 (by omega)
      obtain ⟨m1, c1⟩ := hk0 1 (by omega)
      have hlv := lvl_in (ndi l i).2.1
      obtain ⟨n1, g1⟩ := ih _ m0 (lvl (ndi l i).2.1)
      obtain ⟨n2, g2⟩ := ih _ m1 (lvl (ndi l i).2.1 + 1)
      obtain ⟨n3, g3⟩ := ev_spec_l3Level (ndi l i).2.1
      obtain ⟨n4, g4⟩ := ev_spec_l3Sign (ndi l i).2.1 ho
      have h1 := isz _ m0 (lvl (ndi l i).2.1)
      have h2 := isz _ m1 (lvl (ndi l i).2.1 + 1)
      have h3 := signS_size ho
      have hw : IntKind.i64.wrap (lvl (ndi l i).2.1 + 1) = lvl (ndi l i).2.1 + 1 := wrap64 (by omega)
      have y1 : (0 : Int) ≤ (0 : Int) ∧ (0 : Int) < ((List.map encI (ndi l i).2.2.2.2.2.2.2.2.2.2.2.2.2).length : Int) := by rw [hkl]; omega
      have y2 : (0 : Int) ≤ (1 : Int) ∧ (1 : Int) < ((List.map encI (ndi l i).2.2.2.2.2.2.2.2.2.2.2.2.2).length : Int) := by rw [hkl]; omega
      refine ⟨n1 + n2 + n3 + n4 + 1, fun n hn => ?_⟩
      obtain ⟨m, rfl, hm⟩ := up1 hn
      have g1 := g1 m (by omega)
      have g2 := g2 m (by omega)
      have g3 := g3 m (by omega)
      have g4 := g4 m (by omega)
      dsimp only at g1 g2 g3 g4 ⊢
      have e0 : ((0 : Int)).toNat = 0 := rfl
      have e1 : ((1 : Int)).toNat = 1 := rfl
      show (T_spec_l3Text (F_spec_l3Text m) m (l.map encN) i t).run = _
      refine ask_t (decide_eq_true hxb) (opt_eq hcr (ask_t rfl (opt_eq (cell_0 _) (opt_eq (cell_1 _) (opt_eq (cell_2 _) (opt_eq (cell_3 _) (opt_eq (cell_4 _) (opt_eq (cell_5 _) (opt_eq (cell_6 _) (opt_eq (cell_7 _) (opt_eq (cell_8 _) (opt_eq (cell_9 _) (opt_eq (cell_10 _) (opt_eq (cell_11 _) (opt_eq (cell_12 _) (opt_eq (cell_13 _) ?_))))))))))))))))
      have z1 : (textG l f (kid (ndi l i) 0) (lvl (ndi l i).2.1)).size + (signS (ndi l i).2.1).size ≤ 9223372036854775807 := by omega
      have z2 : (textG l f (kid (ndi l i) 0) (lvl (ndi l i).2.1) ++ signS (ndi l i).2.1).size + (textG l f (kid (ndi l i) 1) (lvl (ndi l i).2.1 + 1)).size ≤ 9223372036854775807 := by rw [ByteArray.size_append]; omega
      have z3 : (⟨#[40]⟩ : ByteArray).size + ((textG l f (kid (ndi l i) 0) (lvl (ndi l i).2.1) ++ signS (ndi l i).2.1) ++ textG l f (kid (ndi l i) 1) (lvl (ndi l i).2.1 + 1)).size ≤ 9223372036854775807 := by rw [ByteArray.size_append, ByteArray.size_append]; omega
      have z4 : ((⟨#[40]⟩ : ByteArray) ++ ((textG l f (kid (ndi l i) 0) (lvl (ndi l i).2.1) ++ signS (ndi l i).2.1) ++ textG l f (kid (ndi l i) 1) (lvl (ndi l i).2.1 + 1))).size + (⟨#[41]⟩ : ByteArray).size ≤ 9223372036854775807 := by rw [ByteArray.size_append, ByteArray.size_append, ByteArray.size_append]; omega
      have g2 : F_spec_l3Text m (l.map encN) (kid (ndi l i) 1) (IntKind.i64.wrap (lvl (ndi l i).2.1 + 1)) = some (textG l f (kid (ndi l i) 1) (lvl (ndi l i).2.1 + 1)) := by rw [hw]; exact g2
      refine ask_f (by rw [k]; rfl) (ask_f (by rw [k]; rfl) (ask_f (by rw [k]; rfl) (ask_f (by rw [k]; rfl) (ask_t (by rw [k]; rfl) (opt_eq g3 (ask_t (decide_eq_true y1) (opt_eq c0 (ask_t rfl (opt_eq (celi_0 _) (ask_t (decide_eq_true y2) (opt_eq c1 (ask_t rfl (opt_eq (celi_0 _) (opt_eq g1 (opt_eq g4 (ask_t (decide_eq_true z1) (opt_eq g2 (ask_t (decide_eq_true z2) ?_))))))))))))))))))
      rw [textG, if_neg (by omega), if_neg (by omega), if_neg (by omega), if_neg (by omega), if_pos k]
      unfold par
      by_cases ht : lvl (ndi l i).2.1 < t
      · refine ask_t (decide_eq_true ht) (ask_t (decide_eq_true z3) (ask_t (decide_eq_true z4) ?_))
        rw [run_done, if_pos (decide_eq_true ht)]
      · refine ask_f (decide_eq_false ht) ?_
        rw [run_done, if_neg (by simpa using ht)]
    · obtain ⟨n0, g0⟩ := ev_list (F := fun k n => F_spec_l3Text n (l.map encN) k 0) (f := fun k => textG l f k 1) (kidsF l i) (fun k hk => by
        have := ih k hk 0
        rw [text_01] at this
        exact this)
      obtain ⟨n1, g1⟩ := ev_spec_l3Fn (ndi l i).2.1 ho
      have h1 := fnS_size ho
      refine ⟨n0 + n1 + 20, fun n hn => ?_⟩
      obtain ⟨m, rfl, hm⟩ := up1 hn
      have g0 := g0 m (by omega)
      have g1 := g1 m (by omega)
      have hj := spec_join l f m ((ndi l i).1, (ndi l i).2.1, (ndi l i).2.2.1, (ndi l i).2.2.2.1, (ndi l i).2.2.2.2.1, (ndi l i).2.2.2.2.2.1, (ndi l i).2.2.2.2.2.2.1, (ndi l i).2.2.2.2.2.2.2.1, (ndi l i).2.2.2.2.2.2.2.2.1, (ndi l i).2.2.2.2.2.2.2.2.2.1, (ndi l i).2.2.2.2.2.2.2.2.2.2.1, (ndi l i).2.2.2.2.2.2.2.2.2.2.2.1, (ndi l i).2.2.2.2.2.2.2.2.2.2.2.2.1, (kd (ndi l i)).map encI) (szB f) hs (kd (ndi l i)) rfl hk.2 (fun k hk => ⟨g0 k hk, isz k hk 1⟩) (kd (ndi l i)) [] (fnS (ndi l i).2.1 ++ (⟨#[40]⟩ : ByteArray)) m rfl (by omega) (by rw [ByteArray.size_append]; omega)
      simp only [List.length_nil, Int.natCast_zero, if_true] at hj
      have hjs := joinB_size (xs := (kidsF l i).map fun k => textG l f k 1) (b := szB f) (fun x hx => by
        obtain ⟨k, hk, rfl⟩ := List.mem_map.1 hx
        exact isz k hk 1)
      have h3 : (kidsF l i).length ≤ 10 := hk.2
      have h4 : (kidsF l i).length * (szB f + 1) ≤ 10 * (szB f + 1) := Nat.mul_le_mul_right _ h3
      rw [List.length_map] at hjs
      have ej : (⟨((fnS (ndi l i).2.1 ++ (⟨#[40]⟩ : ByteArray)).data.toList ++ Lib.join ((kd (ndi l i)).map fun k => (textG l f k 1).data.toList) [44]).toArray⟩ : ByteArray) = (fnS (ndi l i).2.1 ++ (⟨#[40]⟩ : ByteArray)) ++ joinB ((kidsF l i).map fun k => textG l f k 1) := by
        apply ba_eq
        rw [ba_app]
        simp [joinB, kidsF, Function.comp_def]
      rw [ej] at hj
      obtain ⟨J, hJ⟩ : ∃ J, joinB ((kidsF l i).map fun k => textG l f k 1) = J := ⟨_, rfl⟩
      rw [hJ] at hj hjs
      have z1 : (fnS (ndi l i).2.1).size + (⟨#[40]⟩ : ByteArray).size ≤ 9223372036854775807 := by omega
      have z2 : ((fnS (ndi l i).2.1 ++ (⟨#[40]⟩ : ByteArray)) ++ J).size + (⟨#[41]⟩ : ByteArray).size ≤ 9223372036854775807 := by rw [ByteArray.size_append, ByteArray.size_append]; omega
      unfold kd at hj
      dsimp only at g1 ⊢
      show (T_spec_l3Text (F_spec_l3Text m) m (l.map encN) i t).run = _
      refine ask_t (decide_eq_true hxb) (opt_eq hcr (ask_t rfl (opt_eq (cell_0 _) (opt_eq (cell_1 _) (opt_eq (cell_2 _) (opt_eq (cell_3 _) (opt_eq (cell_4 _) (opt_eq (cell_5 _) (opt_eq (cell_6 _) (opt_eq (cell_7 _) (opt_eq (cell_8 _) (opt_eq (cell_9 _) (opt_eq (cell_10 _) (opt_eq (cell_11 _) (opt_eq (cell_12 _) (opt_eq (cell_13 _) ?_))))))))))))))))
      refine ask_f (by rw [k]; rfl) (ask_f (by rw [k]; rfl) (ask_f (by rw [k]; rfl) (ask_f (by rw [k]; rfl) (ask_f (by rw [k]; rfl) (opt_eq g1 (ask_t (decide_eq_true z1) (opt_eq hj (ask_t (decide_eq_true z2) ?_))))))))
      rw [run_done, textG, if_neg (by omega), if_neg (by omega), if_neg (by omega), if_neg (by omega), if_neg (by omega), hJ]
theorem ev_spec_l3Text {l : List Nd} (h : Fine l) : ∀ (f : Nat) (i t : Int), f ≤ 12 → (0 ≤ i ∧ i < l.length) → deepG (kidsF l) (i.toNat + 1) i ≤ f → Ev (F_spec_l3Text · (l.map encN) i t) (textG l f i t)
  | 0, i, t, hf, hx, hd => by
    have := deepG_pos (kidsF l) (i.toNat + 1) i hx.1 (by omega)
    omega
  | f + 1, i, t, hf, hx, hd => ev_spec_l3Text_step h f i t hf hx hd fun k hk t' => ev_spec_l3Text h f k t' (by omega) (h.kid hx hd hk).1 (h.kid hx hd hk).2
theorem szB_fin11 : ∀ f : Fin 12, szB f.val ≤ 12000000000000 := by decide
theorem szB_le11 {f : Nat} (h : f ≤ 11) : szB f ≤ 12000000000000 := szB_fin11 ⟨f, by omega⟩
theorem texts_of : ∀ xs : List ByteArray, textsOf (xs.map fun x => [PV.s x]) = some xs
  | [] => rfl
  | x :: r => by simp only [List.map_cons, textsOf, texts_of r, Option.map_some]
theorem impl_join (rec : List (List PV) → Int → Int → Option ByteArray) (n : Nat) (rows : List (List PV)) (T : Int → ByteArray) (a0 a1 a2 a3 : Int) (a4 : ByteArray) (a5 a6 : Int) (a7 a8 : Bool) (a9 a10 : Int) (a11 a12 : Bool) (a13 : List (List PV)) (ks : List Int) (hk10 : ks.length ≤ 10)
    (hr : ∀ k ∈ ks, rec rows k 1 = some (T k)) :
    ∀ (r pre : List Int) (M : Nat), ks = pre ++ r → r.length + 1 ≤ M →
      loopF (B_impl_formulaText_125 rec n) M (rows, pre.length, ks.map encI, ((ks.map encI).length : Int), (pre.length : Int), a0, a1, a2, a3, a4, a5, a6, a7, a8, a9, a10, a11, a12, a13, pre.map fun k => [PV.s (T k)]) = some (ks.length, a0, a1, a2, a3, a4, a5, a6, a7, a8, a9, a10, a11, a12, a13, ks.map fun k => [PV.s (T k)])
  | r, pre, 0, h1, h2 => by omega
  | [], pre, M + 1, h1, h2 => by
    have hi : ¬ (pre.length : Int) < ((ks.map encI).length : Int) := by rw [List.length_map, h1]; simp
    have e : pre = ks := by rw [h1]; simp
    rw [loopF_inr (r := (pre.length, a0, a1, a2, a3, a4, a5, a6, a7, a8, a9, a10, a11, a12, a13, pre.map fun k => [PV.s (T k)])) (by simp only [B_impl_formulaText_125, run_done, run_fail, run_ask, run_opt, run_inl, run_inr, Option.bind_some, apart_b, apart_i, apart_s, decide_eq_false hi, Bool.false_eq_true, if_false])]
    rw [e]
  | k :: r, pre, M + 1, h1, h2 => by
    have hm : k ∈ ks := by rw [h1]; simp
    have g1 := hr k hm
    have hpl : pre.length + (r.length + 1) = ks.length := by rw [h1]; simp
    have hg : (ks.map encI)[pre.length]? = some (encI k) := by rw [h1, List.getElem?_map]; simp
    have hi : (pre.length : Int) < ((ks.map encI).length : Int) := by rw [List.length_map]; omega
    have h3 : 0 ≤ (pre.length : Int) ∧ (pre.length : Int) < ((ks.map encI).length : Int) := by omega
    have w1 : IntKind.i64.wrap ((pre.length : Int) + 1) = ((pre.length + 1 : Nat) : Int) := by rw [wrap64 (by omega)]; omega
    have hc : pre.length = (pre.map fun k => [PV.s (T k)]).length ∧ 0 < 1 ∧ 0 < 16 ∧ (pre.length + ([[PV.s (T k)]] : List (List PV)).length) * 16 ≤ 140737488355328 ∧ ([[PV.s (T k)]] : List (List PV)).all (fun e => e.length == 1) = true := by
      refine ⟨by simp, by decide, by decide, ?_, rfl⟩
      rw [List.length_singleton]
      omega
    have h1l : decide (1 = ([[PV.s (T k)]] : List (List PV)).length) = true := rfl
    rw [loopF_inl (v' := (rows, pre.length + 1, ks.map encI, ((ks.map encI).length : Int), ((pre.length + 1 : Nat) : Int), a0, a1, a2, a3, a4, a5, a6, a7, a8, a9, a10, a11, a12, a13, (pre.map fun k => [PV.s (T k)]) ++ [[PV.s (T k)]])) (by
      simp only [B_impl_formulaText_125, run_done, run_fail, run_ask, run_opt, run_inl, run_inr, Option.bind_some, apart_b, apart_i, apart_s, decide_eq_true hi, if_true, decide_eq_true h3, Int.toNat_natCast, hg, celi_n, celi_0, decide_true, g1, h1l, decide_eq_true hc, w1])]
    have h := impl_join rec n rows T a0 a1 a2 a3 a4 a5 a6 a7 a8 a9 a10 a11 a12 a13 ks hk10 hr r (pre ++ [k]) M (by rw [h1]; simp) (by simp at h2; omega)
    simp only [List.map_append, List.map_cons, List.map_nil, List.length_append, List.length_singleton] at h ⊢
    exact h
set_option maxHeartbeats 4000000 in
theorem ev_impl_formulaText_step {l : List Nd} (h : Fine l) (f : Nat) (i t : Int) (hf : f + 1 ≤ 12) (hx : 0 ≤ i ∧ i < l.length) (hd : deepG (kidsF l) (i.toNat + 1) i ≤ (f + 1 : Nat)) (ih : ∀ k ∈ kidsF l i, ∀ t', Ev (F_impl_formulaText · (l.map encN) k t') (textG l f k t')) : Ev (F_impl_formulaText · (l.map encN) i t) (textG l (f + 1) i t) := by
    have ih := fun k hk t' => ih k hk t'
    have isz := fun k hk t' => text_size h f k t' (by omega) (h.kid hx hd hk).1 (h.kid hx hd hk).2
    have hs := szB_le (f := f) (by omega)
    have hcr : (l.map encN)[i.toNat]? = some (encN (ndi l i)) := by rw [List.getElem?_map, ndi_get hx]; rfl
    have hxb : 0 ≤ i ∧ i < ((l.map encN).length : Int) := by rw [List.length_map]; exact hx
    have hz := (h.sz _ (ndi_mem hx)).2
    have hp : ∀ a b c d, (placeS a b c d).size ≤ 30 := placeS_size
    have d1 : (⟨#[58]⟩ : ByteArray).size = 1 := rfl
    have d2 : (⟨#[45]⟩ : ByteArray).size = 1 := rfl
    have d3 : (⟨#[40]⟩ : ByteArray).size = 1 := rfl
    have d4 : (⟨#[41]⟩ : ByteArray).size = 1 := rfl
    have hk0 : ∀ j, j < (kd (ndi l i)).length → kid (ndi l i) j ∈ kidsF l i ∧ (List.map encI (ndi l i).2.2.2.2.2.2.2.2.2.2.2.2.2)[j]? = some (encI (kid (ndi l i) j)) := fun j hj => by
      unfold kid
      rw [List.getD_eq_getElem?_getD, List.getElem?_eq_getElem hj]
      refine ⟨List.getElem_mem hj, ?_⟩
      rw [List.getElem?_map]
      show ((kd (ndi l i))[j]?).map encI = _
      rw [List.getElem?_eq_getElem hj]
      rfl
    have hkl : (List.map encI (ndi l i).2.2.2.2.2.2.2.2.2.2.2.2.2).length = (kd (ndi l i)).length := by rw [List.length_map]; rfl
    rcases nodeB_cases (h.own i hx.1 hx.2).1 with ⟨k, hv⟩ | k | k | ⟨k, hk⟩ | ⟨k, ho, hk⟩ | ⟨k, ho, hk⟩
    · by_cases k2 : (ndi l i).2.2.1 = 2
      · have hv2 : okV 2 (ndi l i).2.2.2.1 (ndi l i).2.2.2.2.1 = true := by rw [← k2]; exact hv
        have hq := (okV_2 hv2).2.1
        obtain ⟨n1, g1⟩ := ev_ReplaceAll (ndi l i).2.2.2.2.1 (by omega)
        have h1 := quote_len (ndi l i).2.2.2.2.1.toList
        rw [tl_len] at h1
        have h2 : (⟨(quoteL (ndi l i).2.2.2.2.1.toList).toArray⟩ : ByteArray).size = (quoteL (ndi l i).2.2.2.2.1.toList).length := by rw [ba_size]
        have e : ((⟨#[34]⟩ : ByteArray) ++ ⟨(quoteL (ndi l i).2.2.2.2.1.toList).toArray⟩) ++ (⟨#[34]⟩ : ByteArray) = quoteS (ndi l i).2.2.2.2.1 := by
          apply ba_eq
          rw [ba_app, ba_app]
          simp [quoteS]
        have d5 : (⟨#[34]⟩ : ByteArray).size = 1 := rfl
        refine ⟨n1 + 1, fun n hn => ?_⟩
        obtain ⟨m, rfl, hm⟩ := up1 hn
        have g1 := g1 m (by omega)
        dsimp only at g1 ⊢
        obtain ⟨q, hqe⟩ : ∃ q, (⟨(quoteL (ndi l i).2.2.2.2.1.toList).toArray⟩ : ByteArray) = q := ⟨_, rfl⟩
        rw [hqe] at g1 h2 e
        have z1 : (⟨#[34]⟩ : ByteArray).size + q.size ≤ 9223372036854775807 := by omega
        have z2 : ((⟨#[34]⟩ : ByteArray) ++ q).size + (⟨#[34]⟩ : ByteArray).size ≤ 9223372036854775807 := by rw [ByteArray.size_append]; omega
        show (T_impl_formulaText (F_impl_formulaText m) m (l.map encN) i t).run = _
        refine ask_t (decide_eq_true hxb) (opt_eq hcr (ask_t rfl (opt_eq (cell_0 _) (opt_eq (cell_1 _) (opt_eq (cell_2 _) (opt_eq (cell_3 _) (opt_eq (cell_4 _) (opt_eq (cell_5 _) (opt_eq (cell_6 _) (opt_eq (cell_7 _) (opt_eq (cell_8 _) (opt_eq (cell_9 _) (opt_eq (cell_10 _) (opt_eq (cell_11 _) (opt_eq (cell_12 _) (opt_eq (cell_13 _) ?_))))))))))))))))
        refine ask_t (by rw [k]; rfl) (ask_t (by rw [k2]; rfl) (opt_eq g1 (ask_t (decide_eq_true z1) (ask_t (decide_eq_true z2) ?_))))
        rw [run_done, textG, if_pos k, if_pos k2, e]
      · obtain ⟨n1, g1⟩ := ev_impl_valueText (ndi l i).2.2.1 (ndi l i).2.2.2.1 (ndi l i).2.2.2.2.1 hv
        have kb : ((ndi l i).2.2.1 == (2 : Int)) = false := by simpa using k2
        refine ⟨n1 + 1, fun n hn => ?_⟩
        obtain ⟨m, rfl, hm⟩ := up1 hn
        have g1 := g1 m (by omega)
        dsimp only at g1 ⊢
        show (T_impl_formulaText (F_impl_formulaText m) m (l.map encN) i t).run = _
        refine ask_t (decide_eq_true hxb) (opt_eq hcr (ask_t rfl (opt_eq (cell_0 _) (opt_eq (cell_1 _) (opt_eq (cell_2 _) (opt_eq (cell_3 _) (opt_eq (cell_4 _) (opt_eq (cell_5 _) (opt_eq (cell_6 _) (opt_eq (cell_7 _) (opt_eq (cell_8 _) (opt_eq (cell_9 _) (opt_eq (cell_10 _) (opt_eq (cell_11 _) (opt_eq (cell_12 _) (opt_eq (cell_13 _) ?_))))))))))))))))
        refine ask_t (by rw [k]; rfl) (ask_f kb (opt_eq g1 ?_))
        rw [run_done, textG, if_pos k, if_neg k2]
    · obtain ⟨n1, g1⟩ := ev_impl_PlaceText (ndi l i).2.2.2.2.2.1 (ndi l i).2.2.2.2.2.2.1 (ndi l i).2.2.2.2.2.2.2.1 (ndi l i).2.2.2.2.2.2.2.2.1
      refine ⟨n1 + 1, fun n hn => ?_⟩
      obtain ⟨m, rfl, hm⟩ := up1 hn
      have g1 := g1 m (by omega)
      dsimp only at g1 ⊢
      show (T_impl_formulaText (F_impl_formulaText m) m (l.map encN) i t).run = _
      refine ask_t (decide_eq_true hxb) (opt_eq hcr (ask_t rfl (opt_eq (cell_0 _) (opt_eq (cell_1 _) (opt_eq (cell_2 _) (opt_eq (cell_3 _) (opt_eq (cell_4 _) (opt_eq (cell_5 _) (opt_eq (cell_6 _) (opt_eq (cell_7 _) (opt_eq (cell_8 _) (opt_eq (cell_9 _) (opt_eq (cell_10 _) (opt_eq (cell_11 _) (opt_eq (cell_12 _) (opt_eq (cell_13 _) ?_))))))))))))))))
      refine ask_f (by rw [k]; rfl) (ask_t (by rw [k]; rfl) (opt_eq g1 ?_))
      rw [run_done, textG, if_neg (by omega), if_pos k]
    · obtain ⟨n1, g1⟩ := ev_impl_PlaceText (ndi l i).2.2.2.2.2.1 (ndi l i).2.2.2.2.2.2.1 (ndi l i).2.2.2.2.2.2.2.1 (ndi l i).2.2.2.2.2.2.2.2.1
      obtain ⟨n2, g2⟩ := ev_impl_PlaceText (ndi l i).2.2.2.2.2.2.2.2.2.1 (ndi l i).2.2.2.2.2.2.2.2.2.2.1 (ndi l i).2.2.2.2.2.2.2.2.2.2.2.1 (ndi l i).2.2.2.2.2.2.2.2.2.2.2.2.1
      have h1 := hp (ndi l i).2.2.2.2.2.1 (ndi l i).2.2.2.2.2.2.1 (ndi l i).2.2.2.2.2.2.2.1 (ndi l i).2.2.2.2.2.2.2.2.1
      have h2 := hp (ndi l i).2.2.2.2.2.2.2.2.2.1 (ndi l i).2.2.2.2.2.2.2.2.2.2.1 (ndi l i).2.2.2.2.2.2.2.2.2.2.2.1 (ndi l i).2.2.2.2.2.2.2.2.2.2.2.2.1
      have z1 : (placeS (ndi l i).2.2.2.2.2.1 (ndi l i).2.2.2.2.2.2.1 (ndi l i).2.2.2.2.2.2.2.1 (ndi l i).2.2.2.2.2.2.2.2.1).size + (⟨#[58]⟩ : ByteArray).size ≤ 9223372036854775807 := by omega
      have z2 : (placeS (ndi l i).2.2.2.2.2.1 (ndi l i).2.2.2.2.2.2.1 (ndi l i).2.2.2.2.2.2.2.1 (ndi l i).2.2.2.2.2.2.2.2.1 ++ (⟨#[58]⟩ : ByteArray)).size + (placeS (ndi l i).2.2.2.2.2.2.2.2.2.1 (ndi l i).2.2.2.2.2.2.2.2.2.2.1 (ndi l i).2.2.2.2.2.2.2.2.2.2.2.1 (ndi l i).2.2.2.2.2.2.2.2.2.2.2.2.1).size ≤ 9223372036854775807 := by rw [ByteArray.size_append]; omega
      refine ⟨n1 + n2 + 1, fun n hn => ?_⟩
      obtain ⟨m, rfl, hm⟩ := up1 hn
      have g1 := g1 m (by omega)
      have g2 := g2 m (by omega)
      dsimp only at g1 g2 ⊢
      show (T_impl_formulaText (F_impl_formulaText m) m (l.map encN) i t).run = _
      refine ask_t (decide_eq_true hxb) (opt_eq hcr (ask_t rfl (opt_eq (cell_0 _) (opt_eq (cell_1 _) (opt_eq (cell_2 _) (opt_eq (cell_3 _) (opt_eq (cell_4 _) (opt_eq (cell_5 _) (opt_eq (cell_6 _) (opt_eq (cell_7 _) (opt_eq (cell_8 _) (opt_eq (cell_9 _) (opt_eq (cell_10 _) (opt_eq (cell_11 _) (opt_eq (cell_12 _) (opt_eq (cell_13 _) ?_))))))))))))))))
      refine ask_f (by rw [k]; rfl) (ask_f (by rw [k]; rfl) (ask_t (by rw [k]; rfl) (opt_eq g1 (ask_t (decide_eq_true z1) (opt_eq g2 (ask_t (decide_eq_true z2) ?_))))))
      rw [run_done, textG, if_neg (by omega), if_neg (by omega), if_pos k]
    · obtain ⟨m0, c0⟩ := hk0 0 (by omega)
      obtain ⟨n1, g1⟩ := ih _ m0 5
      have h1 := isz _ m0 5
      have z1 : (⟨#[45]⟩ : ByteArray).size + (textG l f (kid (ndi l i) 0) 5).size ≤ 9223372036854775807 := by omega
      have y1 : (0 : Int) ≤ (0 : Int) ∧ (0 : Int) < ((List.map encI (ndi l i).2.2.2.2.2.2.2.2.2.2.2.2.2).length : Int) := by rw [hkl]; omega
      refine ⟨n1 + 1, fun n hn => ?_⟩
      obtain ⟨m, rfl, hm⟩ := up1 hn
      have g1 := g1 m (by omega)
      dsimp only at g1 ⊢
      have e0 : ((0 : Int)).toNat = 0 := rfl
      show (T_impl_formulaText (F_impl_formulaText m) m (l.map encN) i t).run = _
      refine ask_t (decide_eq_true hxb) (opt_eq hcr (ask_t rfl (opt_eq (cell_0 _) (opt_eq (cell_1 _) (opt_eq (cell_2 _) (opt_eq (cell_3 _) (opt_eq (cell_4 _) (opt_eq (cell_5 _) (opt_eq (cell_6 _) (opt_eq (cell_7 _) (opt_eq (cell_8 _) (opt_eq (cell_9 _) (opt_eq (cell_10 _) (opt_eq (cell_11 _) (opt_eq (cell_12 _) (opt_eq (cell_13 _) ?_))))))))))))))))
      refine ask_f (by rw [k]; rfl) (ask_f (by rw [k]; rfl) (ask_f (by rw [k]; rfl) (ask_t (by rw [k]; rfl) (ask_t (decide_eq_true y1) (opt_eq c0 (ask_t rfl (opt_eq (celi_0 _) (opt_eq g1 (ask_t (decide_eq_true z1) ?_)))))))))
      rw [run_done, textG, if_neg (by omega), if_neg (by omega), if_neg (by omega), if_pos k]
    · obtain ⟨m0, c0⟩ := hk0 0 (by omega)
      obtain ⟨m1, c1⟩ := hk0 1 (by omega)
      have hlv := lvl_in (ndi l i).2.1
      obtain ⟨n1, g1⟩ := ih _ m0 (lvl (ndi l i).2.1)
      obtain ⟨n2, g2⟩ := ih _ m1 (lvl (ndi l i).2.1 + 1)
      obtain ⟨n3, g3⟩ := ev_impl_binds (ndi l i).2.1 ho
      obtain ⟨n4, g4⟩ := ev_impl_opText (ndi l i).2.1 ho
      have h1 := isz _ m0 (lvl (ndi l i).2.1)
      have h2 := isz _ m1 (lvl (ndi l i).2.1 + 1)
      have h3 := signS_size ho
      have hw : IntKind.i64.wrap (lvl (ndi l i).2.1 + 1) = lvl (ndi l i).2.1 + 1 := wrap64 (by omega)
      have y1 : (0 : Int) ≤ (0 : Int) ∧ (0 : Int) < ((List.map encI (ndi l i).2.2.2.2.2.2.2.2.2.2.2.2.2).length : Int) := by rw [hkl]; omega
      have y2 : (0 : Int) ≤ (1 : Int) ∧ (1 : Int) < ((List.map encI (ndi l i).2.2.2.2.2.2.2.2.2.2.2.2.2).length : Int) := by rw [hkl]; omega
      refine ⟨n1 + n2 + n3 + n4 + 1, fun n hn => ?_⟩
      obtain ⟨m, rfl, hm⟩ := up1 hn
      have g1 := g1 m (by omega)
      have g2 := g2 m (by omega)
      have g3 := g3 m (by omega)
      have g4 := g4 m (by omega)
      dsimp only at g1 g2 g3 g4 ⊢
      have e0 : ((0 : Int)).toNat = 0 := rfl
      have e1 : ((1 : Int)).toNat = 1 := rfl
      show (T_impl_formulaText (F_impl_formulaText m) m (l.map encN) i t).run = _
      refine ask_t (decide_eq_true hxb) (opt_eq hcr (ask_t rfl (opt_eq (cell_0 _) (opt_eq (cell_1 _) (opt_eq (cell_2 _) (opt_eq (cell_3 _) (opt_eq (cell_4 _) (opt_eq (cell_5 _) (opt_eq (cell_6 _) (opt_eq (cell_7 _) (opt_eq (cell_8 _) (opt_eq (cell_9 _) (opt_eq (cell_10 _) (opt_eq (cell_11 _) (opt_eq (cell_12 _) (opt_eq (cell_13 _) ?_))))))))))))))))
      have z1 : (textG l f (kid (ndi l i) 0) (lvl (ndi l i).2.1)).size + (signS (ndi l i).2.1).size ≤ 9223372036854775807 := by omega
      have z2 : (textG l f (kid (ndi l i) 0) (lvl (ndi l i).2.1) ++ signS (ndi l i).2.1).size + (textG l f (kid (ndi l i) 1) (lvl (ndi l i).2.1 + 1)).size ≤ 9223372036854775807 := by rw [ByteArray.size_append]; omega
      have z3 : (⟨#[40]⟩ : ByteArray).size + ((textG l f (kid (ndi l i) 0) (lvl (ndi l i).2.1) ++ signS (ndi l i).2.1) ++ textG l f (kid (ndi l i) 1) (lvl (ndi l i).2.1 + 1)).size ≤ 9223372036854775807 := by rw [ByteArray.size_append, ByteArray.size_append]; omega
      have z4 : ((⟨#[40]⟩ : ByteArray) ++ ((textG l f (kid (ndi l i) 0) (lvl (ndi l i).2.1) ++ signS (ndi l i).2.1) ++ textG l f (kid (ndi l i) 1) (lvl (ndi l i).2.1 + 1))).size + (⟨#[41]⟩ : ByteArray).size ≤ 9223372036854775807 := by rw [ByteArray.size_append, ByteArray.size_append, ByteArray.size_append]; omega
      have g2 : F_impl_formulaText m (l.map encN) (kid (ndi l i) 1) (IntKind.i64.wrap (lvl (ndi l i).2.1 + 1)) = some (textG l f (kid (ndi l i) 1) (lvl (ndi l i).2.1 + 1)) := by rw [hw]; exact g2
      refine ask_f (by rw [k]; rfl) (ask_f (by rw [k]; rfl) (ask_f (by rw [k]; rfl) (ask_f (by rw [k]; rfl) (ask_t (by rw [k]; rfl) (opt_eq g3 (ask_t (decide_eq_true y1) (opt_eq c0 (ask_t rfl (opt_eq (celi_0 _) (ask_t (decide_eq_true y2) (opt_eq c1 (ask_t rfl (opt_eq (celi_0 _) (opt_eq g1 (opt_eq g4 (ask_t (decide_eq_true z1) (opt_eq g2 (ask_t (decide_eq_true z2) ?_))))))))))))))))))
      rw [textG, if_neg (by omega), if_neg (by omega), if_neg (by omega), if_neg (by omega), if_pos k]
      unfold par
      by_cases ht : lvl (ndi l i).2.1 < t
      · refine ask_t (decide_eq_true ht) (ask_t (decide_eq_true z3) (ask_t (decide_eq_true z4) ?_))
        rw [run_done, if_pos (decide_eq_true ht)]
      · refine ask_f (decide_eq_false ht) ?_
        rw [run_done, if_neg (by simpa using ht)]
    · obtain ⟨n0, g0⟩ := ev_list (F := fun k n => F_impl_formulaText n (l.map encN) k 1) (f := fun k => textG l f k 1) (kidsF l i) (fun k hk => ih k hk 1)
      obtain ⟨n1, g1⟩ := ev_impl_fnText (ndi l i).2.1 ho
      have h1 := fnS_size ho
      have hs11 := szB_le11 (f := f) (by omega)
      have h3 : (kidsF l i).length ≤ 10 := hk.2
      have hjs := joinB_size (xs := (kidsF l i).map fun k => textG l f k 1) (b := szB f) (fun x hx => by
        obtain ⟨k, hk, rfl⟩ := List.mem_map.1 hx
        exact isz k hk 1)
      have h4 : (kidsF l i).length * (szB f + 1) ≤ 10 * (szB f + 1) := Nat.mul_le_mul_right _ h3
      rw [List.length_map] at hjs
      have gj : ∀ n, 1 ≤ n → F_strings_Join n (((kidsF l i).map fun k => textG l f k 1).map fun x => [PV.s x]) ⟨#[44]⟩ = some (joinB ((kidsF l i).map fun k => textG l f k 1)) := fun n hn => by
        obtain ⟨m, rfl, _⟩ := up1 (n0 := 0) hn
        show L_strings_Join _ _ = _
        unfold L_strings_Join
        rw [texts_of, Option.bind_some, if_pos]
        · rfl
        · rw [ba_size] at hjs
          refine ⟨by rw [List.length_map]; omega, ?_⟩
          have : (Lib.join (((kidsF l i).map fun k => textG l f k 1).map (·.data.toList)) [44]).length ≤ (kidsF l i).length * (szB f + 1) := hjs
          show (Lib.join (((kidsF l i).map fun k => textG l f k 1).map (·.data.toList)) [44]).length ≤ _
          omega
      refine ⟨n0 + n1 + 20, fun n hn => ?_⟩
      obtain ⟨m, rfl, hm⟩ := up1 hn
      have g0 := g0 m (by omega)
      have g1 := g1 m (by omega)
      have gj := gj m (by omega)
      have hj := impl_join (F_impl_formulaText m) m (l.map encN) (fun k => textG l f k 1) (ndi l i).1 (ndi l i).2.1 (ndi l i).2.2.1 (ndi l i).2.2.2.1 (ndi l i).2.2.2.2.1 (ndi l i).2.2.2.2.2.1 (ndi l i).2.2.2.2.2.2.1 (ndi l i).2.2.2.2.2.2.2.1 (ndi l i).2.2.2.2.2.2.2.2.1 (ndi l i).2.2.2.2.2.2.2.2.2.1 (ndi l i).2.2.2.2.2.2.2.2.2.2.1 (ndi l i).2.2.2.2.2.2.2.2.2.2.2.1 (ndi l i).2.2.2.2.2.2.2.2.2.2.2.2.1 ((kd (ndi l i)).map encI) (kd (ndi l i)) hk.2 g0 (kd (ndi l i)) [] m rfl (by omega)
      simp only [List.length_nil, Int.natCast_zero, List.map_nil, List.length_map] at hj
      obtain ⟨J, hJ⟩ : ∃ J, joinB ((kidsF l i).map fun k => textG l f k 1) = J := ⟨_, rfl⟩
      rw [hJ] at gj hjs
      have z1 : (fnS (ndi l i).2.1).size + (⟨#[40]⟩ : ByteArray).size ≤ 9223372036854775807 := by omega
      have z2 : (fnS (ndi l i).2.1 ++ (⟨#[40]⟩ : ByteArray)).size + J.size ≤ 9223372036854775807 := by rw [ByteArray.size_append]; omega
      have z3 : ((fnS (ndi l i).2.1 ++ (⟨#[40]⟩ : ByteArray)) ++ J).size + (⟨#[41]⟩ : ByteArray).size ≤ 9223372036854775807 := by rw [ByteArray.size_append, ByteArray.size_append]; omega
      unfold kidsF at gj
      unfold kd at hj gj
      dsimp only at g1 ⊢
      rw [List.map_map] at gj
      have hkl' : (((ndi l i).2.2.2.2.2.2.2.2.2.2.2.2.2.map encI).length : Int) = ((ndi l i).2.2.2.2.2.2.2.2.2.2.2.2.2.length : Int) := by rw [List.length_map]
      have hll : decide ((ndi l i).2.2.2.2.2.2.2.2.2.2.2.2.2.length = (List.map ((fun x => [PV.s x]) ∘ fun k => textG l f k 1) (ndi l i).2.2.2.2.2.2.2.2.2.2.2.2.2).length) = true := by simp
      have hmm : (List.map (fun k => [PV.s (textG l f k 1)]) (ndi l i).2.2.2.2.2.2.2.2.2.2.2.2.2) = List.map ((fun x => [PV.s x]) ∘ fun k => textG l f k 1) (ndi l i).2.2.2.2.2.2.2.2.2.2.2.2.2 := rfl
      rw [hmm] at hj
      rw [← hkl'] at hj
      show (T_impl_formulaText (F_impl_formulaText m) m (l.map encN) i t).run = _
      refine ask_t (decide_eq_true hxb) (opt_eq hcr (ask_t rfl (opt_eq (cell_0 _) (opt_eq (cell_1 _) (opt_eq (cell_2 _) (opt_eq (cell_3 _) (opt_eq (cell_4 _) (opt_eq (cell_5 _) (opt_eq (cell_6 _) (opt_eq (cell_7 _) (opt_eq (cell_8 _) (opt_eq (cell_9 _) (opt_eq (cell_10 _) (opt_eq (cell_11 _) (opt_eq (cell_12 _) (opt_eq (cell_13 _) ?_))))))))))))))))
      refine ask_f (by rw [k]; rfl) (ask_f (by rw [k]; rfl) (ask_f (by rw [k]; rfl) (ask_f (by rw [k]; rfl) (ask_f (by rw [k]; rfl) (opt_eq hj (opt_eq g1 (ask_t (decide_eq_true z1) (ask_t hll (opt_eq gj (ask_t rfl (ask_t (decide_eq_true z2) (ask_t (decide_eq_true z3) ?_))))))))))))
      rw [run_done, textG, if_neg (by omega), if_neg (by omega), if_neg (by omega), if_neg (by omega), if_neg (by omega), hJ]
theorem ev_impl_formulaText {l : List Nd} (h : Fine l) : ∀ (f : Nat) (i t : Int), f ≤ 12 → (0 ≤ i ∧ i < l.length) → deepG (kidsF l) (i.toNat + 1) i ≤ f → Ev (F_impl_formulaText · (l.map encN) i t) (textG l f i t)
  | 0, i, t, hf, hx, hd => by
    have := deepG_pos (kidsF l) (i.toNat + 1) i hx.1 (by omega)
    omega
  | f + 1, i, t, hf, hx, hd => ev_impl_formulaText_step h f i t hf hx hd fun k hk t' => ev_impl_formulaText h f k t' (by omega) (h.kid hx hd hk).1 (h.kid hx hd hk).2
/-- the text of a formula -/
def formS (l : List Nd) : ByteArray := if formB l = true then (if ((textG l 12 ((l.length : Int) - 1) 1).size : Int) > 200 then ⟨#[]⟩ else textG l 12 ((l.length : Int) - 1) 1) else ⟨#[]⟩
theorem fine_of {l : List Nd} (h : formB l = true) (hk : ∀ c ∈ l, (kd c).length ≤ 140737488351232 ∧ c.2.2.2.2.1.size ≤ 140737488351232) : Fine l ∧ (0 ≤ (l.length : Int) - 1 ∧ (l.length : Int) - 1 < l.length) ∧ deepG (kidsF l) (((l.length : Int) - 1).toNat + 1) ((l.length : Int) - 1) ≤ (12 : Nat) := by
  unfold formB at h
  simp only [Bool.and_eq_true, decide_eq_true_eq] at h
  obtain ⟨h1, h2, h3, h4, h5⟩ := h
  have e : ((l.length : Int) - 1).toNat + 1 = l.length := by omega
  rw [e]
  exact ⟨⟨h1.2, okNodes_iff.1 h2, hk⟩, by omega, h5⟩
theorem ev_spec_FormulaText (l : List Nd) (hl : l.length ≤ 140737488351232) (hk : ∀ c ∈ l, (kd c).length ≤ 140737488351232 ∧ c.2.2.2.2.1.size ≤ 140737488351232) : Ev (F_spec_FormulaText · (l.map encN)) (formS l) := by
  obtain ⟨n1, g1⟩ := ev_spec_FormulaOk l hk
  unfold formS
  cases hf : formB l with
  | false =>
    rw [hf] at g1
    refine ⟨n1 + 1, fun n hn => ?_⟩
    obtain ⟨m, rfl, hm⟩ := up1 hn
    have g1 := g1 m (by omega)
    dsimp only at g1 ⊢
    simp [F_spec_FormulaText, T_spec_FormulaText, run_done, run_fail, run_ask, run_opt, run_inl, run_inr, Option.bind_some, apart_b, apart_i, apart_s, g1]
  | true =>
    rw [hf] at g1
    obtain ⟨q1, q2, q3⟩ := fine_of hf hk
    obtain ⟨n2, g2⟩ := ev_spec_l3Text q1 12 ((l.length : Int) - 1) 0 (by decide) q2 q3
    rw [text_01] at g2
    have hw : IntKind.i64.wrap ((l.length : Int) - 1) = (l.length : Int) - 1 := wrap64 (by omega)
    refine ⟨n1 + n2 + 1, fun n hn => ?_⟩
    obtain ⟨m, rfl, hm⟩ := up1 hn
    have g1 := g1 m (by omega)
    have g2 := g2 m (by omega)
    dsimp only at g1 g2 ⊢
    generalize textG l 12 ((l.length : Int) - 1) 1 = t at *
    simp only [F_spec_FormulaText, T_spec_FormulaText, run_done, run_fail, run_ask, run_opt, run_inl, run_inr, Option.bind_some, apart_b, apart_i, apart_s, g1, List.length_map, hw, g2]
    by_cases h2 : (t.size : Int) > 200 <;> simp [h2]
theorem ev_impl_FormulaText (l : List Nd) (hl : l.length ≤ 140737488351232) (hk : ∀ c ∈ l, (kd c).length ≤ 140737488351232 ∧ c.2.2.2.2.1.size ≤ 140737488351232) : Ev (F_impl_FormulaText · (l.map encN)) (formS l) := by
  obtain ⟨n1, g1⟩ := ev_impl_FormulaOk l hl hk
  unfold formS
  cases hf : formB l with
  | false =>
    rw [hf] at g1
    refine ⟨n1 + 1, fun n hn => ?_⟩
    obtain ⟨m, rfl, hm⟩ := up1 hn
    have g1 := g1 m (by omega)
    dsimp only at g1 ⊢
    simp [F_impl_FormulaText, T_impl_FormulaText, run_done, run_fail, run_ask, run_opt, run_inl, run_inr, Option.bind_some, apart_b, apart_i, apart_s, g1]
  | true =>
    rw [hf] at g1
    obtain ⟨q1, q2, q3⟩ := fine_of hf hk
    obtain ⟨n2, g2⟩ := ev_impl_formulaText q1 12 ((l.length : Int) - 1) 1 (by decide) q2 q3
    have hw : IntKind.i64.wrap ((l.length : Int) - 1) = (l.length : Int) - 1 := wrap64 (by omega)
    refine ⟨n1 + n2 + 1, fun n hn => ?_⟩
    obtain ⟨m, rfl, hm⟩ := up1 hn
    have g1 := g1 m (by omega)
    have g2 := g2 m (by omega)
    dsimp only at g1 g2 ⊢
    generalize textG l 12 ((l.length : Int) - 1) 1 = t at *
    simp only [F_impl_FormulaText, T_impl_FormulaText, run_done, run_fail, run_ask, run_opt, run_inl, run_inr, Option.bind_some, apart_b, apart_i, apart_s, g1, List.length_map, hw, g2]
    by_cases h2 : (t.size : Int) > 200 <;> simp [h2]
theorem law (rows : List (List PV)) (w : rows.length * 120 ≤ 140737488351232 ∧ ∀ r ∈ rows, okR [.i .i64, .i .i64, .i .i64, .i .i64, .s, .i .i64, .i .i64, .b, .b, .i .i64, .i .i64, .b, .b, .sl 8 [.i .i64]] r) : Ev (F_laws_FnExactFormulaText · rows) true := by
  obtain ⟨l, rfl, hs⟩ := rows_nd w.2
  have hl : l.length * 120 ≤ 140737488351232 := by simpa using w.1
  have hk : ∀ c ∈ l, (kd c).length ≤ 140737488351232 ∧ c.2.2.2.2.1.size ≤ 140737488351232 := fun c hc => ⟨by have := (hs c hc).2; omega, (hs c hc).1⟩
  obtain ⟨n1, h1⟩ := ev_laws_toFNodeS l hl (fun c hc => (hs c hc).2)
  obtain ⟨n2, h2⟩ := ev_spec_FormulaText l (by omega) hk
  obtain ⟨n3, h3⟩ := ev_impl_FormulaText l (by omega) hk
  obtain ⟨n4, h4⟩ := ev_laws_eqFNodeS l (by omega) (fun c hc => (hk c hc).1)
  refine ⟨n1 + n2 + n3 + n4 + l.length + 8, fun n hn => ?_⟩
  obtain ⟨m, rfl, hm⟩ := up1 hn
  obtain ⟨r, hr⟩ := ev_laws_szFNodeS l (by omega) 1048576 m (by omega)
  have h1 := h1 m (by omega)
  have h2 := h2 m (by omega)
  have h3 := h3 m (by omega)
  have h4 := h4 m (by omega)
  dsimp only at h1 h2 h3 h4
  simp only [F_laws_FnExactFormulaText, T_laws_FnExactFormulaText, run_done, run_fail, run_ask, run_opt, run_inl, run_inr, Option.bind_some, apart_b, apart_i, apart_s, hr, h1, h2, h3, h4]
  split
  · rfl
  · simp
end Go.Proofs.YtaannlnlddbgdabDoor.KFnExactFormulaText
