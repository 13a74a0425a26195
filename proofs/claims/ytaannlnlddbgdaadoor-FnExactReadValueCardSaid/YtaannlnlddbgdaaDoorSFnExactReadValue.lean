/-
  What the functions that FnExactReadValue calls answer, said of their trees. No condition beside those that stand in the statements.
-/
import Derived.Test.YtaannlnlddbgdaaDoorTFnExactReadValue
import Derived.Test.YtaannlnlddbgdaaDoorE32
import Derived.Lib.Strings
namespace Go.Proofs.YtaannlnlddbgdaaDoor.KFnExactReadValue
open Go.Eng
set_option linter.unusedVariables false
set_option linter.unusedSimpArgs false
def Ev {R : Type} (F : Nat → Option R) (r : R) : Prop := ∃ n0, ∀ n, n0 ≤ n → F n = some r
theorem tl_len (s : ByteArray) : s.toList.length = s.size := by rw [Go.Lib.toList_data]; rfl
theorem toList_nil : (ByteArray.mk #[]).toList = [] := by decide +kernel
theorem wf64 {x : Int} (h : (Lit.int .i64 x).wf = true) : -9223372036854775808 ≤ x ∧ x ≤ 9223372036854775807 := by
  simp only [Lit.wf, Bool.and_eq_true, decide_eq_true_eq] at h
  have h1 : IntKind.i64.min = -9223372036854775808 := by decide
  have h2 : IntKind.i64.max = 9223372036854775807 := by decide
  omega
theorem wrap64 {x : Int} (h : -9223372036854775808 ≤ x ∧ x ≤ 9223372036854775807) : IntKind.i64.wrap x = x := by
  unfold IntKind.wrap
  have e1 : (2 : Int) ^ (64 - 1) = 9223372036854775808 := by decide
  have e2 : (2 : Int) ^ 64 = 18446744073709551616 := by decide
  simp only [IntKind.signed, IntKind.bits, Bool.true_and, decide_eq_true_eq, e1, e2]
  split <;> omega
theorem wrap64_in (x : Int) : -9223372036854775808 ≤ IntKind.i64.wrap x ∧ IntKind.i64.wrap x ≤ 9223372036854775807 := by
  unfold IntKind.wrap
  have e1 : (2 : Int) ^ (64 - 1) = 9223372036854775808 := by decide
  have e2 : (2 : Int) ^ 64 = 18446744073709551616 := by decide
  simp only [IntKind.signed, IntKind.bits, Bool.true_and, decide_eq_true_eq, e1, e2]
  split <;> omega
theorem get_of_lt {s : ByteArray} {i : Nat} (h : i < s.size) : ∃ c, s.toList[i]? = some c := ⟨_, List.getElem?_eq_getElem (by rw [tl_len]; exact h)⟩
theorem drop_cons {α : Type} {s : List α} {i : Nat} {c : α} (h : s[i]? = some c) : s.drop i = c :: s.drop (i + 1) := by
  obtain ⟨h1, rfl⟩ := List.getElem?_eq_some_iff.1 h
  exact List.drop_eq_getElem_cons h1
theorem loopF_inl {V R : Type} {B : V → Tr (V ⊕ R)} {m : Nat} {v v' : V} (h : (B v).run = some (.inl v')) : loopF B (m + 1) v = loopF B m v' := by simp only [loopF, h]
theorem loopF_inr {V R : Type} {B : V → Tr (V ⊕ R)} {m : Nat} {v : V} {r : R} (h : (B v).run = some (.inr r)) : loopF B (m + 1) v = some r := by simp only [loopF, h]
theorem up1 {n n0 : Nat} (h : n0 + 1 ≤ n) : ∃ m, n = m + 1 ∧ n0 ≤ m := ⟨n - 1, by omega, by omega⟩
theorem run_done {α : Type} (x : α) : (Tr.done x).run = some x := rfl
theorem run_fail {α : Type} : (Tr.fail : Tr α).run = none := rfl
theorem run_ask {α : Type} (b : Bool) (t f : Tr α) : (Tr.ask b t f).run = if b = true then t.run else f.run := by cases b <;> rfl
theorem run_opt {α β : Type} (o : Option β) (k : β → Tr α) : (Tr.opt o k).run = o.bind fun x => (k x).run := by cases o <;> rfl
theorem run_inl {α β γ : Type} (x : β) (k : β → Tr α) (l : γ → Tr α) : (Tr.alt (.inl x) k l).run = (k x).run := rfl
theorem run_inr {α β γ : Type} (x : γ) (k : β → Tr α) (l : γ → Tr α) : (Tr.alt (.inr x) k l).run = (l x).run := rfl
theorem ev_list {α R : Type} {F : α → Nat → Option R} {f : α → R} : ∀ (l : List α), (∀ c ∈ l, Ev (F c) (f c)) → ∃ n0, ∀ n, n0 ≤ n → ∀ c ∈ l, F c n = some (f c)
  | [], _ => ⟨0, fun n _ c hc => by cases hc⟩
  | a :: l, h => by
    obtain ⟨n1, h1⟩ := h a (List.mem_cons_self ..)
    obtain ⟨n2, h2⟩ := ev_list l fun c hc => h c (List.mem_cons_of_mem _ hc)
    exact ⟨n1 + n2, fun n hn c hc => by
      rcases List.mem_cons.1 hc with rfl | hc
      · exact h1 n (by omega)
      · exact h2 n (by omega) c hc⟩
/-- a list that is written anew, place by place -/
theorem conv_loop {R : Type} {B : List (List PV) × Nat × Int × List (List PV) → Tr ((List (List PV) × Nat × Int × List (List PV)) ⊕ R)} {rows : List (List PV)} {z : List PV} {r : List (List PV) → R}
    (hs : ∀ (i : Nat) (acc : List (List PV)) (e : List PV), rows[i]? = some e → acc.length = rows.length → acc[i]? = some z → (B (rows, rows.length, (i : Int), acc)).run = some (.inl (rows, rows.length, ((i + 1 : Nat) : Int), acc.set i e)))
    (he : ∀ acc : List (List PV), acc.length = rows.length → (B (rows, rows.length, (rows.length : Int), acc)).run = some (.inr (r acc))) :
    ∀ (m i M : Nat), rows.length = i + m → m + 1 ≤ M → loopF B M (rows, rows.length, (i : Int), rows.take i ++ zrows z m) = some (r rows)
  | m, i, 0, h1, h2 => by omega
  | 0, i, M + 1, h1, h2 => by
    have hi : i = rows.length := by omega
    subst hi
    have e : rows.take rows.length ++ zrows z 0 = rows := by simp [zrows]
    rw [e, loopF_inr (he rows rfl)]
  | m + 1, i, M + 1, h1, h2 => by
    have hl : i < rows.length := by omega
    have hg := List.getElem?_eq_getElem hl
    have hlen : (rows.take i ++ zrows z (m + 1)).length = rows.length := by simp [zrows]; omega
    have hz : (rows.take i ++ zrows z (m + 1))[i]? = some z := by
      rw [List.getElem?_append_right (by simp; omega)]
      simp [zrows, Nat.min_eq_left (Nat.le_of_lt hl)]
    rw [loopF_inl (hs i _ _ hg hlen hz)]
    have e : (rows.take i ++ zrows z (m + 1)).set i rows[i] = rows.take (i + 1) ++ zrows z m := by
      have hx : zrows z (m + 1) = z :: zrows z m := by simp [zrows, List.replicate_succ]
      rw [hx, List.set_append_right (h := by simp; omega)]
      have : i - (rows.take i).length = 0 := by simp; omega
      rw [this, List.set_cons_zero, show rows.take (i + 1) = rows.take i ++ [rows[i]] from by rw [List.take_add_one, hg]; rfl, List.append_assoc]
      rfl
    rw [e]
    exact conv_loop hs he m (i + 1) M (by omega) (by omega)
theorem conv_all {R : Type} {B : List (List PV) × Nat × Int × List (List PV) → Tr ((List (List PV) × Nat × Int × List (List PV)) ⊕ R)} {rows : List (List PV)} {z : List PV} {r : List (List PV) → R} {M : Nat}
    (hs : ∀ (i : Nat) (acc : List (List PV)) (e : List PV), rows[i]? = some e → acc.length = rows.length → acc[i]? = some z → (B (rows, rows.length, (i : Int), acc)).run = some (.inl (rows, rows.length, ((i + 1 : Nat) : Int), acc.set i e)))
    (he : ∀ acc : List (List PV), acc.length = rows.length → (B (rows, rows.length, (rows.length : Int), acc)).run = some (.inr (r acc))) (hM : rows.length + 1 ≤ M) :
    loopF B M (rows, rows.length, 0, zrows z rows.length) = some (r rows) := by
  have := conv_loop (B := B) hs he rows.length 0 M (by omega) hM
  simpa using this
/-- a list held against itself -/
theorem eq_loop {R : Type} {B : List (List PV) × List (List PV) × Int → Tr ((List (List PV) × List (List PV) × Int) ⊕ R)} {rows : List (List PV)} {r : R}
    (hs : ∀ (i : Nat) (e : List PV), rows[i]? = some e → (B (rows, rows, (i : Int))).run = some (.inl (rows, rows, ((i + 1 : Nat) : Int)))) (he : (B (rows, rows, (rows.length : Int))).run = some (.inr r)) :
    ∀ (m i M : Nat), rows.length = i + m → m + 1 ≤ M → loopF B M (rows, rows, (i : Int)) = some r
  | m, i, 0, h1, h2 => by omega
  | 0, i, M + 1, h1, h2 => by
    have hi : i = rows.length := by omega
    subst hi
    rw [loopF_inr he]
  | m + 1, i, M + 1, h1, h2 => by
    have hg := List.getElem?_eq_getElem (l := rows) (i := i) (by omega)
    rw [loopF_inl (hs i _ hg)]
    exact eq_loop hs he m (i + 1) M (by omega) (by omega)
/-- a list's size, as far as it is not too great -/
theorem sz_loop {R : Type} {B : List (List PV) × Int × Int → Tr ((List (List PV) × Int × Int) ⊕ R)} {rows : List (List PV)}
    (hs : ∀ (i : Nat) (e : List PV) (x : Int), rows[i]? = some e → (∃ y, (B (rows, x, (i : Int))).run = some (.inl (rows, y, ((i + 1 : Nat) : Int)))) ∨ ∃ r, (B (rows, x, (i : Int))).run = some (.inr r)) (he : ∀ x, ∃ r, (B (rows, x, (rows.length : Int))).run = some (.inr r)) :
    ∀ (m i M : Nat) (x : Int), rows.length = i + m → m + 1 ≤ M → ∃ r, loopF B M (rows, x, (i : Int)) = some r
  | m, i, 0, x, h1, h2 => by omega
  | 0, i, M + 1, x, h1, h2 => by
    have hi : i = rows.length := by omega
    subst hi
    obtain ⟨r, hr⟩ := he x
    exact ⟨r, loopF_inr hr⟩
  | m + 1, i, M + 1, x, h1, h2 => by
    have hg := List.getElem?_eq_getElem (l := rows) (i := i) (by omega)
    rcases hs i _ x hg with ⟨y, hy⟩ | ⟨r, hr⟩
    · rw [loopF_inl hy]
      exact sz_loop hs he m (i + 1) M y (by omega) (by omega)
    · exact ⟨r, loopF_inr hr⟩
/-- rows of a shape, as a list of what stands in them -/
theorem rows_map {α : Type} {enc : α → List PV} {P : α → Prop} {sh : List Sh} (hd : ∀ e, okR sh e → ∃ a, e = enc a ∧ P a) : ∀ {rows : List (List PV)}, (∀ e ∈ rows, okR sh e) → ∃ l : List α, rows = l.map enc ∧ ∀ a ∈ l, P a
  | [], _ => ⟨[], rfl, fun a h => by cases h⟩
  | e :: rows, h => by
    obtain ⟨a, rfl, ha⟩ := hd e (h e (List.mem_cons_self ..))
    obtain ⟨l, rfl, hl⟩ := rows_map hd fun e he => h e (List.mem_cons_of_mem _ he)
    exact ⟨a :: l, rfl, fun b hb => by
      rcases List.mem_cons.1 hb with rfl | hb
      · exact ha
      · exact hl b hb⟩
theorem opt_eq {α β : Type} {o : Option β} {x : β} {k : β → Tr α} {y : Option α} (h : o = some x) (h2 : (k x).run = y) : (Tr.opt o k).run = y := by rw [h]; exact h2
theorem ask_t {α : Type} {b : Bool} {t f : Tr α} {y : Option α} (h : b = true) (h2 : t.run = y) : (Tr.ask b t f).run = y := by rw [h]; exact h2
theorem ask_f {α : Type} {b : Bool} {t f : Tr α} {y : Option α} (h : b = false) (h2 : f.run = y) : (Tr.ask b t f).run = y := by rw [h]; exact h2
theorem apart_b (b : Bool) : apartR (⟨(.c (.p (.b b))), [], []⟩ : Res) = true := rfl
theorem apart_i (x : Int) : apartR (⟨(.c (.p (.i .i64 x))), [], []⟩ : Res) = true := rfl
theorem apart_s (x : ByteArray) : apartR (⟨(.c (.p (.s x))), [], []⟩ : Res) = true := rfl
theorem ev_spec_l1In (x lo hi : Int) : Ev (F_spec_l1In · x lo hi) (decide (lo ≤ x ∧ x ≤ hi)) := by
  refine ⟨1, fun n hn => ?_⟩
  obtain ⟨m, rfl, hm⟩ := up1 hn
  simp only [F_spec_l1In, T_spec_l1In, run_done, run_fail, run_ask, run_opt, run_inl, run_inr, Option.bind_some, apart_b, apart_i, apart_s]
  by_cases h : x ≥ lo <;> simp [h]
theorem ev_impl_within (x lo hi : Int) : Ev (F_impl_within · x lo hi) (decide (lo ≤ x ∧ x ≤ hi)) := by
  refine ⟨1, fun n hn => ?_⟩
  obtain ⟨m, rfl, hm⟩ := up1 hn
  simp only [F_impl_within, T_impl_within, run_done, run_fail, run_ask, run_opt, run_inl, run_inr, Option.bind_some, apart_b, apart_i, apart_s]
  by_cases h : x ≥ lo <;> simp [h]
/-- the bytes from 32 to 126 -/
def okc (c : UInt8) : Bool := decide (32 ≤ c.toNat ∧ c.toNat ≤ 126)
def plainN (s : ByteArray) (most : Int) : Bool := s.toList.all okc && decide ((s.size : Int) ≤ most)
def okV (k n : Int) (s : ByteArray) : Bool :=
  if k = 2 then decide (n = 0) && plainN s 200 else (s.toList == []) && (if k = 0 then decide (n = 0) else if k = 1 then decide (-1000000000000000 ≤ n ∧ n ≤ 1000000000000000) else if k = 3 then decide (0 ≤ n ∧ n ≤ 1) else if k = 4 then decide (1 ≤ n ∧ n ≤ 5) else false)
theorem l2Plain_loop (n : Nat) (s : ByteArray) (hb : s.size ≤ 140737488351232) : ∀ (m i M : Nat), s.size = i + m → m + 1 ≤ M →
    loopF (B_spec_l2Plain_13 n) M (s, (i : Int)) = some (if (s.toList.drop i).all okc then .inr s else .inl false)
  | m, i, 0, h1, h2 => by omega
  | 0, i, M + 1, h1, h2 => by
    rw [loopF_inr (r := .inr s) (by simp [B_spec_l2Plain_13, run_done, run_fail, run_ask, run_opt, run_inl, run_inr, Option.bind_some, apart_b, apart_i, apart_s, show ¬ ((i : Int) < s.size) by omega])]
    rw [List.drop_eq_nil_of_le (by rw [tl_len]; omega)]
    rfl
  | m + 1, i, M + 1, h1, h2 => by
    obtain ⟨c, hc⟩ := get_of_lt (s := s) (i := i) (by omega)
    have hi : (i : Int) < s.size := by omega
    rw [drop_cons hc]
    by_cases c1 : (c.toNat : Int) < 32
    · rw [loopF_inr (r := .inl false) (by simp [B_spec_l2Plain_13, run_done, run_fail, run_ask, run_opt, run_inl, run_inr, Option.bind_some, apart_b, apart_i, apart_s, hi, hc, c1])]
      have : okc c = false := by simp [okc]; omega
      simp [this]
    · by_cases c2 : (c.toNat : Int) > 126
      · rw [loopF_inr (r := .inl false) (by simp [B_spec_l2Plain_13, run_done, run_fail, run_ask, run_opt, run_inl, run_inr, Option.bind_some, apart_b, apart_i, apart_s, hi, hc, c1, c2])]
        have : okc c = false := by simp [okc]; omega
        simp [this]
      · have hw : IntKind.i64.wrap ((i : Int) + 1) = ((i + 1 : Nat) : Int) := by rw [wrap64 (by omega)]; omega
        rw [loopF_inl (v' := (s, ((i + 1 : Nat) : Int))) (by simp [B_spec_l2Plain_13, run_done, run_fail, run_ask, run_opt, run_inl, run_inr, Option.bind_some, apart_b, apart_i, apart_s, hi, hc, c1, c2, hw])]
        rw [l2Plain_loop n s hb m (i + 1) M (by omega) (by omega)]
        have : okc c = true := by simp [okc]; omega
        simp [this]
theorem ev_spec_l2Plain (s : ByteArray) (hb : s.size ≤ 140737488351232) : Ev (F_spec_l2Plain · s) (plainN s 200) := by
  refine ⟨s.size + 2, fun n hn => ?_⟩
  obtain ⟨m, rfl, hm⟩ := up1 hn
  have h := l2Plain_loop m s hb s.size 0 m (by omega) (by omega)
  simp only [F_spec_l2Plain, T_spec_l2Plain, run_done, run_fail, run_ask, run_opt, run_inl, run_inr, Option.bind_some, apart_b, apart_i, apart_s]
  simp only [Int.natCast_zero, List.drop_zero] at h
  rw [h]
  cases hc : s.toList.all okc <;> simp [run_done, run_fail, run_ask, run_opt, run_inl, run_inr, Option.bind_some, apart_b, apart_i, apart_s, plainN, hc]
theorem isText_loop (n : Nat) (s : ByteArray) (y : Int) (hb : s.size ≤ 140737488351232) : ∀ (m i M : Nat), s.size = i + m → m + 1 ≤ M →
    loopF (B_impl_isText_13 n) M (s, y, (s.size : Int), (i : Int)) = some (if (s.toList.drop i).all okc then .inr (s, y) else .inl false)
  | m, i, 0, h1, h2 => by omega
  | 0, i, M + 1, h1, h2 => by
    rw [loopF_inr (r := .inr (s, y)) (by simp [B_impl_isText_13, run_done, run_fail, run_ask, run_opt, run_inl, run_inr, Option.bind_some, apart_b, apart_i, apart_s, show ¬ ((i : Int) < s.size) by omega])]
    rw [List.drop_eq_nil_of_le (by rw [tl_len]; omega)]
    rfl
  | m + 1, i, M + 1, h1, h2 => by
    obtain ⟨c, hc⟩ := get_of_lt (s := s) (i := i) (by omega)
    have hi : (i : Int) < s.size := by omega
    rw [drop_cons hc]
    by_cases c1 : (c.toNat : Int) < 32
    · rw [loopF_inr (r := .inl false) (by simp [B_impl_isText_13, run_done, run_fail, run_ask, run_opt, run_inl, run_inr, Option.bind_some, apart_b, apart_i, apart_s, hi, hc, c1])]
      have : okc c = false := by simp [okc]; omega
      simp [this]
    · by_cases c2 : (c.toNat : Int) > 126
      · rw [loopF_inr (r := .inl false) (by simp [B_impl_isText_13, run_done, run_fail, run_ask, run_opt, run_inl, run_inr, Option.bind_some, apart_b, apart_i, apart_s, hi, hc, c1, c2])]
        have : okc c = false := by simp [okc]; omega
        simp [this]
      · have hw : IntKind.i64.wrap ((i : Int) + 1) = ((i + 1 : Nat) : Int) := by rw [wrap64 (by omega)]; omega
        rw [loopF_inl (v' := (s, y, (s.size : Int), ((i + 1 : Nat) : Int))) (by simp [B_impl_isText_13, run_done, run_fail, run_ask, run_opt, run_inl, run_inr, Option.bind_some, apart_b, apart_i, apart_s, hi, hc, c1, c2, hw])]
        rw [isText_loop n s y hb m (i + 1) M (by omega) (by omega)]
        have : okc c = true := by simp [okc]; omega
        simp [this]
theorem ev_impl_isText (s : ByteArray) (y : Int) (hb : s.size ≤ 140737488351232) : Ev (F_impl_isText · s y) (plainN s y) := by
  refine ⟨s.size + 2, fun n hn => ?_⟩
  obtain ⟨m, rfl, hm⟩ := up1 hn
  have h := isText_loop m s y hb s.size 0 m (by omega) (by omega)
  simp only [F_impl_isText, T_impl_isText, run_done, run_fail, run_ask, run_opt, run_inl, run_inr, Option.bind_some, apart_b, apart_i, apart_s]
  simp only [Int.natCast_zero, List.drop_zero] at h
  rw [h]
  cases hc : s.toList.all okc <;> simp [run_done, run_fail, run_ask, run_opt, run_inl, run_inr, Option.bind_some, apart_b, apart_i, apart_s, plainN, hc]
theorem ev_spec_ValueOk (k x : Int) (s : ByteArray) (hb : s.size ≤ 140737488351232) : Ev (F_spec_ValueOk · k x s) (okV k x s) := by
  obtain ⟨n1, h1⟩ := ev_spec_l1In x (-1000000000000000) 1000000000000000
  obtain ⟨n2, h2⟩ := ev_spec_l1In x 0 1
  obtain ⟨n3, h3⟩ := ev_spec_l1In x 1 5
  obtain ⟨n4, h4⟩ := ev_spec_l2Plain s hb
  refine ⟨n1 + n2 + n3 + n4 + 1, fun n hn => ?_⟩
  obtain ⟨m, rfl, hm⟩ := up1 hn
  have h1 := h1 m (by omega)
  dsimp only at h1
  have h2 := h2 m (by omega)
  dsimp only at h2
  have h3 := h3 m (by omega)
  dsimp only at h3
  have h4 := h4 m (by omega)
  dsimp only at h4
  simp only [F_spec_ValueOk, T_spec_ValueOk, run_done, run_fail, run_ask, run_opt, run_inl, run_inr, Option.bind_some, apart_b, apart_i, apart_s, h1, h2, h3, h4]
  simp only [okV, toList_nil]
  by_cases k2 : k = 2
  · subst k2
    by_cases x0 : x = 0 <;> simp [x0]
  · by_cases k0 : k = 0
    · subst k0
      by_cases x0 : x = 0 <;> simp [x0]
    · by_cases k1 : k = 1
      · subst k1
        by_cases hx : -1000000000000000 ≤ x ∧ x ≤ 1000000000000000 <;> simp [hx]
      · by_cases k3 : k = 3
        · subst k3
          by_cases hx : 0 ≤ x ∧ x ≤ 1 <;> simp [hx]
        · by_cases k4 : k = 4
          · subst k4
            by_cases hx : 1 ≤ x ∧ x ≤ 5 <;> simp [hx]
          · simp [k0, k1, k2, k3, k4]
theorem ev_impl_ValueOk (k x : Int) (s : ByteArray) (hb : s.size ≤ 140737488351232) : Ev (F_impl_ValueOk · k x s) (okV k x s) := by
  obtain ⟨n1, h1⟩ := ev_impl_within x (-1000000000000000) 1000000000000000
  obtain ⟨n2, h2⟩ := ev_impl_within x 0 1
  obtain ⟨n3, h3⟩ := ev_impl_within x 1 5
  obtain ⟨n4, h4⟩ := ev_impl_isText s 200 hb
  refine ⟨n1 + n2 + n3 + n4 + 1, fun n hn => ?_⟩
  obtain ⟨m, rfl, hm⟩ := up1 hn
  have h1 := h1 m (by omega)
  dsimp only at h1
  have h2 := h2 m (by omega)
  dsimp only at h2
  have h3 := h3 m (by omega)
  dsimp only at h3
  have h4 := h4 m (by omega)
  dsimp only at h4
  simp only [F_impl_ValueOk, T_impl_ValueOk, run_done, run_fail, run_ask, run_opt, run_inl, run_inr, Option.bind_some, apart_b, apart_i, apart_s, h1, h2, h3, h4]
  simp only [okV, toList_nil]
  by_cases k2 : k = 2
  · subst k2
    by_cases x0 : x = 0 <;> simp [x0]
  · by_cases he : s.toList = []
    · by_cases k0 : k = 0
      · subst k0
        by_cases x0 : x = 0 <;> simp [x0, he]
      · by_cases k1 : k = 1
        · subst k1; simp [he]
        · by_cases k3 : k = 3
          · subst k3; simp [he]
          · by_cases k4 : k = 4
            · subst k4; simp [he]
            · simp [k0, k1, k2, k3, k4, he]
    · simp [k2, he]
abbrev V3 := Int × Int × ByteArray
def em : ByteArray := ⟨#[]⟩
/-- a value as a number; else what is answered -/
def num (k x : Int) (s : ByteArray) : Int ⊕ V3 := if okV k x s = true then (if k = 0 ∨ k = 1 then .inl x else if k = 4 then .inr (k, x, s) else .inr (4, 2, em)) else .inr (4, 2, em)
def fin64 (z : Int) : V3 := if -1000000000000000 ≤ z ∧ z ≤ 1000000000000000 then (1, z, em) else (4, 4, em)
def arith (op : Int → Int → V3) (k x : Int) (s : ByteArray) (k' x' : Int) (s' : ByteArray) : V3 := match num k x s with
  | .inr e => e
  | .inl a => match num k' x' s' with
    | .inr e => e
    | .inl b => op a b
theorem num_inr {k x : Int} {s : ByteArray} {e : V3} (h : num k x s = .inr e) : e.1 = 4 := by
  unfold num at h
  split at h
  · split at h
    · cases h
    · split at h
      · cases h; assumption
      · cases h; rfl
  · cases h; rfl
theorem num_ne {k x : Int} {s : ByteArray} {e : V3} (h : num k x s = .inr e) : ¬ e.1 = 0 := by rw [num_inr h]; decide
theorem num_inl {k x : Int} {s : ByteArray} {a : Int} (h : num k x s = .inl a) : -1000000000000000 ≤ a ∧ a ≤ 1000000000000000 := by
  unfold num at h
  split at h
  · rename_i ho
    split at h
    · rename_i hk
      cases h
      unfold okV at ho
      rcases hk with rfl | rfl
      · simp at ho; omega
      · simp at ho; exact ho.2
    · split at h <;> cases h
  · cases h
theorem ev_impl_fault (x : Int) : Ev (F_impl_fault · x) (4, x, em) := by
  refine ⟨1, fun n hn => ?_⟩
  obtain ⟨m, rfl, hm⟩ := up1 hn
  simp only [F_impl_fault, T_impl_fault, run_done, run_fail, run_ask, run_opt, run_inl, run_inr, Option.bind_some, apart_b, apart_i, apart_s]
  rfl
theorem ev_impl_number (x : Int) : Ev (F_impl_number · x) (1, x, em) := by
  refine ⟨1, fun n hn => ?_⟩
  obtain ⟨m, rfl, hm⟩ := up1 hn
  simp only [F_impl_number, T_impl_number, run_done, run_fail, run_ask, run_opt, run_inl, run_inr, Option.bind_some, apart_b, apart_i, apart_s]
  rfl
theorem ev_laws_eqValue (k x : Int) (s : ByteArray) : Ev (F_laws_eqValue · k x s k x s) true := by
  refine ⟨1, fun n hn => ?_⟩
  obtain ⟨m, rfl, hm⟩ := up1 hn
  simp only [F_laws_eqValue, T_laws_eqValue, run_done, run_fail, run_ask, run_opt, run_inl, run_inr, Option.bind_some, apart_b, apart_i, apart_s]
  simp
def absI (x : Int) : Int := if x < 0 then -x else x
def timesV (a b : Int) : V3 := if a = 0 ∨ b = 0 then fin64 0 else if absI a > Int.tdiv 1000000000000000 (absI b) then (4, 4, em) else fin64 (IntKind.i64.wrap (a * b))
theorem tdiv_in {b : Int} (h : 1 ≤ b) : 0 ≤ Int.tdiv 1000000000000000 b ∧ Int.tdiv 1000000000000000 b ≤ 1000000000000000 := by
  rw [Int.tdiv_eq_ediv_of_nonneg (by decide)]
  exact ⟨Int.ediv_nonneg (by decide) (by omega), Int.ediv_le_self _ (by decide)⟩
def okRef (c r : Int) : Bool := decide (1 ≤ c ∧ c ≤ 52) && decide (1 ≤ r ∧ r ≤ 99)
def okArea (a b c d : Int) : Bool := okRef a b && okRef c d && decide (a ≤ c) && decide (b ≤ d)
abbrev A5 := Int × Int × Int × Int × Bool
def common (x0 x1 x2 x3 x4 x5 x6 x7 : Int) : A5 :=
  if okArea x0 x1 x2 x3 = true ∧ okArea x4 x5 x6 x7 = true ∧ okArea (if x4 > x0 then x4 else x0) (if x5 > x1 then x5 else x1) (if x6 < x2 then x6 else x2) (if x7 < x3 then x7 else x3) = true then
    ((if x4 > x0 then x4 else x0), (if x5 > x1 then x5 else x1), (if x6 < x2 then x6 else x2), (if x7 < x3 then x7 else x3), true) else (0, 0, 0, 0, false)
def cmpI (x y : Int) : Int := if x < y then -1 else if x > y then 1 else 0
def cmpS (x y : ByteArray) : Int := if Op.bytesLess x.toList y.toList = true then -1 else if x.toList = y.toList then 0 else 1
def firstNZ : List Int → Int
  | [] => 0
  | x :: r => if x ≠ 0 then x else firstNZ r
def ordV (k x : Int) (s : ByteArray) (k' x' : Int) (s' : ByteArray) : Int := firstNZ [cmpI k k', cmpI x x', cmpS s s']
theorem ev_impl_truth (b : Bool) : Ev (F_impl_truth · b) (3, if b = true then 1 else 0, em) := by
  refine ⟨1, fun n hn => ?_⟩
  obtain ⟨m, rfl, hm⟩ := up1 hn
  simp only [F_impl_truth, T_impl_truth, run_done, run_fail, run_ask, run_opt, run_inl, run_inr, Option.bind_some, apart_b, apart_i, apart_s]
  cases b <;> rfl
def heldB (op o : Int) : Bool := if op = 6 then o == 0 else if op = 7 then o != 0 else if op = 8 then decide (o < 0) else if op = 9 then decide (o ≤ 0) else if op = 10 then decide (o > 0) else decide (o ≥ 0)
def held (op k x : Int) (s : ByteArray) (k' x' : Int) (s' : ByteArray) : Int × Int × ByteArray :=
  if okV k x s = true ∧ okV k' x' s' = true ∧ 6 ≤ op ∧ op ≤ 11 then
    (if k = 4 then (k, x, s) else if k' = 4 then (k', x', s') else (3, if heldB op (ordV (if k = 0 then k' else k) x s (if k' = 0 then k else k') x' s') = true then 1 else 0, em))
  else (4, 2, em)
abbrev CVt := Int × Int × Int × Int × ByteArray
def encCV (c : CVt) : List PV := [.i .i64 c.1, .i .i64 c.2.1, .i .i64 c.2.2.1, .i .i64 c.2.2.2.1, .s c.2.2.2.2]
theorem rows_cv {rows : List (List PV)} (h : ∀ e ∈ rows, okR [.i .i64, .i .i64, .i .i64, .i .i64, .s] e) : ∃ l : List CVt, rows = l.map encCV ∧ ∀ c ∈ l, c.2.2.2.2.size ≤ 140737488351232 := by
  refine rows_map (fun e h => ?_) h
  obtain ⟨c0, t0, rfl, p0, h⟩ := okR_cons h
  obtain ⟨c1, t1, rfl, p1, h1⟩ := okR_cons h
  obtain ⟨c2, t2, rfl, p2, h2⟩ := okR_cons h1
  obtain ⟨c3, t3, rfl, p3, h3⟩ := okR_cons h2
  obtain ⟨c4, t4, rfl, p4, h4⟩ := okR_cons h3
  obtain rfl := okR_nil h4
  obtain ⟨x0, rfl, _⟩ := okP_i p0
  obtain ⟨x1, rfl, _⟩ := okP_i p1
  obtain ⟨x2, rfl, _⟩ := okP_i p2
  obtain ⟨x3, rfl, _⟩ := okP_i p3
  obtain ⟨x4, rfl, w⟩ := okP_s p4
  exact ⟨(x0, x1, x2, x3, x4), rfl, w⟩
theorem cv_get {l : List CVt} {i : Nat} {e : List PV} (h : (l.map encCV)[i]? = some e) : ∃ c, l[i]? = some c ∧ e = encCV c := by
  rw [List.getElem?_map] at h
  obtain ⟨c, h1, h2⟩ := Option.map_eq_some_iff.1 h
  exact ⟨c, h1, h2.symm⟩
theorem un_laws_eqValue (n : Nat) (k x : Int) (s : ByteArray) : F_laws_eqValue (n + 1) k x s k x s = some true := by
  simp only [F_laws_eqValue, T_laws_eqValue, run_done, run_fail, run_ask, run_opt, run_inl, run_inr, Option.bind_some, apart_b, apart_i, apart_s]
  simp
def ahead (a b c d : Int) : Bool := decide (b < d ∨ (b = d ∧ a < c))
/-- a value at its place -/
def cvOk (l : List CVt) (i : Nat) (c : CVt) : Bool := okRef c.1 c.2.1 && okV c.2.2.1 c.2.2.2.1 c.2.2.2.2 && (match i with | 0 => true | j + 1 => match l[j]? with | some p => ahead p.1 p.2.1 c.1 c.2.1 | none => true)
def cvFrom (l : List CVt) : Nat → List CVt → Bool
  | _, [] => true
  | i, c :: r => cvOk l i c && cvFrom l (i + 1) r
def cvsOk (l : List CVt) : Bool := cvFrom l 0 l && decide ((l.length : Int) ≤ 120)
theorem ahead_cmp (a b c d : Int) : decide (firstNZ [cmpI b d, cmpI a c] ≥ 0) = !(ahead a b c d) := by
  unfold firstNZ firstNZ firstNZ cmpI ahead
  by_cases h1 : b < d
  · simp [h1]
  · by_cases h2 : b > d
    · have : ¬ b = d := by omega
      simp [h1, h2, this]
    · have : b = d := by omega
      subst this
      by_cases h3 : a < c
      · simp [h3]
      · by_cases h4 : a > c <;> simp [h3, h4]
/-- what stands at a place -/
def cvAt (c r : Int) : List CVt → V3
  | [] => (0, 0, em)
  | p :: l => if p.1 = c ∧ p.2.1 = r then (p.2.2.1, p.2.2.2.1, p.2.2.2.2) else cvAt c r l
def cvIn (c r : Int) : List CVt → Bool
  | [] => false
  | p :: l => decide (p.1 = c ∧ p.2.1 = r) || cvIn c r l
theorem cvAt_out (c r : Int) : ∀ {l : List CVt}, cvIn c r l = false → cvAt c r l = (0, 0, em)
  | [], _ => rfl
  | p :: l, h => by
    simp only [cvIn, Bool.or_eq_false_iff, decide_eq_false_iff_not] at h
    simp only [cvAt, if_neg h.1, cvAt_out c r h.2]
abbrev Ch := Int × Int × ByteArray × ByteArray
def encCh (c : Ch) : List PV := [.i .i64 c.1, .i .i64 c.2.1, .s c.2.2.1, .s c.2.2.2]
theorem rows_ch {rows : List (List PV)} (h : ∀ e ∈ rows, okR [.i .i64, .i .i64, .s, .s] e) : ∃ l : List Ch, rows = l.map encCh ∧ ∀ c ∈ l, True := by
  refine rows_map (fun e h => ?_) h
  obtain ⟨c0, t0, rfl, p0, h⟩ := okR_cons h
  obtain ⟨c1, t1, rfl, p1, h1⟩ := okR_cons h
  obtain ⟨c2, t2, rfl, p2, h2⟩ := okR_cons h1
  obtain ⟨c3, t3, rfl, p3, h3⟩ := okR_cons h2
  obtain rfl := okR_nil h3
  obtain ⟨x0, rfl, _⟩ := okP_i p0
  obtain ⟨x1, rfl, _⟩ := okP_i p1
  obtain ⟨x2, rfl, _⟩ := okP_s p2
  obtain ⟨x3, rfl, _⟩ := okP_s p3
  exact ⟨(x0, x1, x2, x3), rfl, trivial⟩
theorem ch_get {l : List Ch} {i : Nat} {e : List PV} (h : (l.map encCh)[i]? = some e) : ∃ c, l[i]? = some c ∧ e = encCh c := by
  rw [List.getElem?_map] at h
  obtain ⟨c, h1, h2⟩ := Option.map_eq_some_iff.1 h
  exact ⟨c, h1, h2.symm⟩
theorem apart_ch (m sz ty : Nat) (l : List Ch) : apartR (⟨(.c (.own 0 0 0 m)), [], [⟨0, sz, ty, (.row (l.map encCh))⟩]⟩ : Res) = true := by
  simp [apartR, AV.cvs, flatO, flatB, encCh, CV.flat]
def swp (c : Ch) : Ch := (c.1, c.2.1, c.2.2.2, c.2.2.1)
def turnedL (l : List Ch) : List Ch := (l.map swp).reverse
theorem ev_of {R : Type} {F : Nat → Option R} {r : R} {k : Nat} (h : ∀ n, k ≤ n → F n = some r) : Ev F r := ⟨k, h⟩
theorem wf8 {x : Int} (h : (Lit.int .u8 x).wf = true) : 0 ≤ x ∧ x ≤ 255 := by
  simp only [Lit.wf, Bool.and_eq_true, decide_eq_true_eq] at h
  have h1 : IntKind.u8.min = 0 := by decide
  have h2 : IntKind.u8.max = 255 := by decide
  omega
theorem wrapu_in (x : Int) : 0 ≤ IntKind.u64.wrap x ∧ IntKind.u64.wrap x ≤ 18446744073709551615 := by
  unfold IntKind.wrap
  have e2 : (2 : Int) ^ 64 = 18446744073709551616 := by decide
  simp only [IntKind.signed, IntKind.bits, Bool.false_and, Bool.false_eq_true, if_false, e2]
  omega
theorem wrapu {x : Int} (h : 0 ≤ x ∧ x ≤ 18446744073709551615) : IntKind.u64.wrap x = x := by
  unfold IntKind.wrap
  have e2 : (2 : Int) ^ 64 = 18446744073709551616 := by decide
  simp only [IntKind.signed, IntKind.bits, Bool.false_and, Bool.false_eq_true, if_false, e2]
  omega
/-- a reader's bytes -/
def RdOk (l : List (List PV)) : Prop := l.length ≤ 1048576 ∧ ∀ e ∈ l, ∃ b : Int, e = [.i .u8 b] ∧ 0 ≤ b ∧ b ≤ 255
theorem rdOk_of {l : List (List PV)} (w : ∀ r ∈ l, okR [.i .u8] r) (h : ¬ (l.length : Int) > 1048576) : RdOk l := by
  refine ⟨by omega, fun e he => ?_⟩
  obtain ⟨x, r, rfl, h1, h2⟩ := okR_cons (w e he)
  obtain ⟨n, rfl, h3⟩ := okP_i h1
  obtain rfl := okR_nil h2
  exact ⟨n, rfl, wf8 h3⟩
def rng (a : Int) : Nat → List Int
  | 0 => []
  | n + 1 => a :: rng (a + 1) n
theorem rng_len : ∀ (n : Nat) (a : Int), (rng a n).length = n
  | 0, a => rfl
  | n + 1, a => by simp [rng, rng_len n]
def encRf (x : Int × Int) : List PV := [.i .i64 x.1, .i .i64 x.2]
def rowC (a : Int) (n : Nat) (r : Int) : List (Int × Int) := (rng a n).map fun x => (x, r)
def cellsP (a b c d : Int) : List (Int × Int) := (rng b (d - b + 1).toNat).flatMap fun r => rowC a (c - a + 1).toNat r
def decS (x : Int) : ByteArray := ⟨(Lib.itoa x).toArray⟩
theorem ba_app (a b : ByteArray) : (a ++ b).data.toList = a.data.toList ++ b.data.toList := by
  rw [ByteArray.data_append, Array.toList_append]
theorem ba_eq {a b : ByteArray} (h : a.data.toList = b.data.toList) : a = b := by
  cases a; cases b
  congr 1
  exact Array.toList_inj.1 h
theorem ba_eqL {a b : ByteArray} (h : a.toList = b.toList) : a = b := ba_eq (by rw [← Go.Lib.toList_data, ← Go.Lib.toList_data]; exact h)
theorem ba_size (a : ByteArray) : a.size = a.data.toList.length := by rw [Array.length_toList]; rfl
theorem u8w {q : Nat} (h : q < 10) : IntKind.u8.wrap (IntKind.i64.wrap (48 + (q : Int))) = ((48 + q : Nat) : Int) := by
  rw [wrap64 (by omega)]
  unfold IntKind.wrap
  have e2 : (2 : Int) ^ 8 = 256 := by decide
  simp only [IntKind.signed, IntKind.bits, Bool.false_and, Bool.false_eq_true, if_false, e2]
  omega
theorem nd_le : ∀ (k v : Nat), 1 ≤ v → v < 10 ^ k → Lib.nDigits v ≤ k := by
  intro k
  induction k with
  | zero => intro v hv hv'; simp at hv'; omega
  | succ k ih =>
    intro v hv hv'
    by_cases h10 : v < 10
    · rw [Lib.nDigits_small h10]; omega
    · rw [Lib.nDigits_big h10]
      have := ih (v / 10) (by omega) (by rw [Nat.pow_succ] at hv'; omega)
      omega
theorem dec_len (u : Nat) (h : u ≤ 1000000000000000000) : (Lib.decDigits u).length ≤ 19 := by
  have p : (10 : Nat) ^ 19 = 10000000000000000000 := by decide
  rw [Lib.decDigits_length]
  rcases Nat.lt_or_ge u 1 with h6 | h6
  · have : u = 0 := by omega
    subst this
    rw [Lib.nDigits_small (by decide)]
    decide
  · exact nd_le 19 u h6 (by omega)
def nameS (x : Int) : ByteArray := if x = 1 then ⟨#[35, 68, 73, 86, 33]⟩ else if x = 2 then ⟨#[35, 84, 89, 80, 69, 33]⟩ else if x = 3 then ⟨#[35, 82, 69, 70, 33]⟩ else if x = 4 then ⟨#[35, 79, 86, 69, 82, 33]⟩ else if x = 5 then ⟨#[35, 67, 89, 67, 76, 69, 33]⟩ else ⟨#[]⟩
theorem lt6 {x : Int} (h : 0 ≤ x ∧ x ≤ 5) : x = 0 ∨ x = 1 ∨ x = 2 ∨ x = 3 ∨ x = 4 ∨ x = 5 := by omega
def boolS (x : Int) : ByteArray := if x = 1 then ⟨#[84, 82, 85, 69]⟩ else ⟨#[70, 65, 76, 83, 69]⟩
theorem okV_1 {x : Int} {s : ByteArray} (h : okV 1 x s = true) : -1000000000000000 ≤ x ∧ x ≤ 1000000000000000 := by
  simp [okV] at h; exact h.2
theorem okV_2 {x : Int} {s : ByteArray} (h : okV 2 x s = true) : x = 0 ∧ (s.size : Int) ≤ 200 ∧ s.toList.all okc = true := by
  simp only [okV, plainN, if_true, Bool.and_eq_true, decide_eq_true_eq] at h
  exact ⟨h.1, h.2.2, h.2.1⟩
theorem okV_3 {x : Int} {s : ByteArray} (h : okV 3 x s = true) : 0 ≤ x ∧ x ≤ 1 := by
  simp [okV] at h; exact h.2
theorem okV_4 {x : Int} {s : ByteArray} (h : okV 4 x s = true) : 1 ≤ x ∧ x ≤ 5 := by
  simp [okV] at h; exact h.2
/-- a value's text -/
def vtext (k x : Int) (s : ByteArray) : ByteArray := if k = 1 then decS x else if k = 2 then ⟨#[39]⟩ ++ s else if k = 3 then boolS x else if k = 4 then nameS x else ⟨#[]⟩
theorem decS_size {x : Int} (h : -1000000000000000000 ≤ x ∧ x ≤ 1000000000000000000) : (decS x).size ≤ 20 := by
  rw [ba_size]
  show (Lib.itoa x).length ≤ 20
  unfold Lib.itoa
  split
  · have := dec_len x.natAbs (by omega); simp; omega
  · have := dec_len x.toNat (by omega); omega
theorem vtext_size {k x : Int} {s : ByteArray} (h : okV k x s = true) : (vtext k x s).size ≤ 300 := by
  unfold vtext
  split
  · rename_i k1; subst k1; have := okV_1 h; have := decS_size (x := x) (by omega); omega
  · split
    · rename_i k2; subst k2
      have := okV_2 h
      rw [ByteArray.size_append]
      show 1 + s.size ≤ 300
      omega
    · split
      · unfold boolS; split <;> decide
      · split
        · unfold nameS
          repeat' split
          all_goals decide
        · decide
/-- a value as a text; else what is answered -/
def word (k x : Int) (s : ByteArray) : ByteArray ⊕ V3 := if okV k x s = true then (if k = 4 then .inr (k, x, s) else if k = 2 then .inl s else .inl (vtext k x s)) else .inr (4, 2, em)
theorem word_inr {k x : Int} {s : ByteArray} {e : V3} (h : word k x s = .inr e) : e.1 = 4 ∧ num k x s = .inr e := by
  unfold word at h
  unfold num
  by_cases ho : okV k x s = true
  · rw [if_pos ho] at h ⊢
    split at h
    · rename_i k4
      cases h
      subst k4
      simp
    · split at h <;> cases h
  · rw [if_neg ho] at h ⊢
    cases h
    exact ⟨rfl, rfl⟩
theorem word_size {k x : Int} {s : ByteArray} {t : ByteArray} (h : word k x s = .inl t) : t.size ≤ 300 := by
  unfold word at h
  split at h
  · rename_i ho
    split at h
    · cases h
    · split at h
      · rename_i k2; cases h; subst k2; have := okV_2 ho; omega
      · cases h; exact vtext_size ho
  · cases h
def joinV (a b : ByteArray) : V3 := if ((a.size : Int) + b.size) > 200 then (4, 4, em) else (2, 0, a ++ b)
def joined (k x : Int) (s : ByteArray) (k' x' : Int) (s' : ByteArray) : V3 := match word k x s with
  | .inr e => e
  | .inl a => match word k' x' s' with
    | .inr e => e
    | .inl b => joinV a b
/-- a column's letters -/
def colS (x : Int) : ByteArray := if x < 1 ∨ x > 52 then ⟨#[]⟩ else if x ≤ 26 then ⟨#[UInt8.ofNat (64 + x.toNat)]⟩ else ⟨#[65, UInt8.ofNat (65 + (x.toNat - 1) % 26)]⟩
theorem colS_size (x : Int) : (colS x).size ≤ 2 := by
  unfold colS
  split
  · decide
  · split
    · exact (show (1 : Nat) ≤ 2 by decide)
    · exact (show (2 : Nat) ≤ 2 by decide)
theorem u8wrap {q : Int} (h : 0 ≤ q ∧ q < 256) : IntKind.u8.wrap q = q := by
  unfold IntKind.wrap
  have e2 : (2 : Int) ^ 8 = 256 := by decide
  simp only [IntKind.signed, IntKind.bits, Bool.false_and, Bool.false_eq_true, if_false, e2]
  omega
/-- a place's text -/
def placeS (c r : Int) (fc fr : Bool) : ByteArray := if okRef c r = true then ⟨((if fc = true then [36] else []) ++ (colS c).data.toList ++ (if fr = true then [36] else []) ++ (decS r).data.toList).toArray⟩ else ⟨#[]⟩
theorem decS_size' {x : Int} (h : 1 ≤ x ∧ x ≤ 99) : (decS x).size ≤ 20 := by
  rw [ba_size]
  show (Lib.itoa x).length ≤ 20
  unfold Lib.itoa
  rw [if_neg (by omega)]
  have := dec_len x.toNat (by omega)
  omega
theorem okRef_in {c r : Int} (h : okRef c r = true) : (1 ≤ c ∧ c ≤ 52) ∧ (1 ≤ r ∧ r ≤ 99) := by
  simpa [okRef] using h
def isDig (c : UInt8) : Bool := decide (48 ≤ c.toNat) && decide (c.toNat ≤ 57)
def dvalN (acc : Nat) (l : List UInt8) : Nat := l.foldl (fun a c => a * 10 + (c.toNat - 48)) acc
theorem dval_nil (acc : Nat) : dvalN acc [] = acc := rfl
theorem dval_cons (acc : Nat) (c : UInt8) (r : List UInt8) : dvalN acc (c :: r) = dvalN (acc * 10 + (c.toNat - 48)) r := by simp only [dvalN, List.foldl_cons]
theorem dval_app (l : List UInt8) (acc : Nat) (c : UInt8) : dvalN acc (l ++ [c]) = dvalN acc l * 10 + (c.toNat - 48) := by
  simp only [dvalN, List.foldl_append, List.foldl_cons, List.foldl_nil]
theorem dval_ge : ∀ (l : List UInt8) (acc : Nat), acc ≤ dvalN acc l
  | [], acc => by rw [dval_nil]; exact Nat.le_refl _
  | c :: r, acc => by
    have h := dval_ge r (acc * 10 + (c.toNat - 48))
    have h2 : acc ≤ acc * 10 + (c.toNat - 48) := by omega
    rw [dval_cons]
    exact Nat.le_trans h2 h
theorem dig_of {d : Nat} (h : d < 10) : (UInt8.ofNat (48 + d)).toNat = 48 + d := by
  rw [UInt8.toNat_ofNat']; omega
theorem isDig_of {d : Nat} (h : d < 10) : isDig (UInt8.ofNat (48 + d)) = true := by
  unfold isDig
  rw [dig_of h]
  simp
  omega
theorem dec_props : ∀ u : Nat, (Lib.decDigits u).all isDig = true ∧ dvalN 0 (Lib.decDigits u) = u ∧ Lib.decDigits u ≠ [] ∧ (10 ≤ u → (Lib.decDigits u).head? ≠ some 48) ∧ (1 ≤ u → (Lib.decDigits u).head? ≠ some 48) := by
  intro u
  induction u using Nat.strongRecOn with
  | _ u ih =>
    by_cases h : u < 10
    · rw [Lib.decDigits, dif_pos h]
      have h1 : ∀ k, 1 ≤ k → k < 10 → UInt8.ofNat (48 + k) ≠ 48 := fun k hk hk' e => by
        have := congrArg UInt8.toNat e
        rw [dig_of hk'] at this
        have h2 : (48 : UInt8).toNat = 48 := rfl
        omega
      refine ⟨by simp only [List.all_cons, List.all_nil, isDig_of h, Bool.and_true], by rw [dval_cons, dval_nil, dig_of h]; omega, by simp, fun _ => by omega, fun hu => ?_⟩
      simp only [List.head?_cons, ne_eq, Option.some.injEq]
      exact h1 u hu h
    · obtain ⟨i1, i2, i3, i4, i5⟩ := ih (u / 10) (by omega)
      rw [Lib.decDigits, dif_neg h]
      have hd : u % 10 < 10 := by omega
      have hh : (Lib.decDigits (u / 10) ++ [UInt8.ofNat (48 + u % 10)]).head? = (Lib.decDigits (u / 10)).head? := by
        cases hq : Lib.decDigits (u / 10) with
        | nil => exact absurd hq i3
        | cons a b => rfl
      refine ⟨by simp only [List.all_append, i1, List.all_cons, List.all_nil, isDig_of hd, Bool.and_true], by rw [dval_app, i2, dig_of hd]; omega, by simp, fun _ => ?_, fun _ => ?_⟩
      · rw [hh]; exact i5 (by omega)
      · rw [hh]; exact i5 (by omega)
/-- digits, no nought ahead of others -/
def canon (l : List UInt8) : Bool := !(l == []) && l.all isDig && (!(l.head? == some 48) || l.length == 1)
theorem dec_canon (u : Nat) : canon (Lib.decDigits u) = true := by
  obtain ⟨h1, h2, h3, h4, h5⟩ := dec_props u
  simp only [canon, h1, Bool.and_true, Bool.and_eq_true, Bool.not_eq_true', beq_eq_false_iff_ne, Bool.or_eq_true]
  refine ⟨h3, ?_⟩
  by_cases hu : u < 10
  · right; rw [Lib.decDigits, dif_pos hu]; rfl
  · left; exact h4 (by omega)
theorem canon_dec : ∀ (n : Nat) (l : List UInt8), l.length = n → canon l = true → Lib.decDigits (dvalN 0 l) = l
  | 0, l, hn, h => by
    have := List.eq_nil_of_length_eq_zero hn
    subst this
    simp [canon] at h
  | n + 1, l, hn, h => by
    simp only [canon, Bool.and_eq_true, Bool.not_eq_true', beq_eq_false_iff_ne, Bool.or_eq_true, beq_iff_eq] at h
    obtain ⟨⟨h1, h2⟩, h3⟩ := h
    obtain ⟨ini, c, rfl⟩ : ∃ ini c, l = ini ++ [c] := ⟨l.dropLast, l.getLast h1, (List.dropLast_concat_getLast h1).symm⟩
    simp only [List.all_append, Bool.and_eq_true, List.all_cons, List.all_nil, Bool.and_true] at h2
    obtain ⟨h2, hc⟩ := h2
    simp only [isDig, Bool.and_eq_true, decide_eq_true_eq] at hc
    have ec : UInt8.ofNat (48 + (c.toNat - 48)) = c := by
      have : 48 + (c.toNat - 48) = c.toNat := by omega
      rw [this]; simp
    rw [dval_app]
    cases ini with
    | nil =>
      rw [dval_nil, Nat.zero_mul, Nat.zero_add, List.nil_append, Lib.decDigits, dif_pos (by omega), ec]
    | cons a b =>
      have hl : (a :: b).length = n := by simp at hn ⊢; omega
      have h48 : ¬ a = 48 := by
        rcases h3 with h3 | h3
        · simpa using h3
        · simp at h3
      have hcn : canon (a :: b) = true := by
        simp only [canon, h2, Bool.and_true, Bool.and_eq_true, Bool.not_eq_true', beq_eq_false_iff_ne, Bool.or_eq_true]
        exact ⟨by simp, .inl (by simpa using h48)⟩
      have ih := canon_dec n (a :: b) hl hcn
      have hp : 1 ≤ dvalN 0 (a :: b) := by
        rcases Nat.eq_zero_or_pos (dvalN 0 (a :: b)) with h0 | h0
        · rw [h0, Lib.decDigits, dif_pos (by decide)] at ih
          have : a = 48 := by
            have := congrArg List.head? ih
            simpa using this.symm
          exact absurd this h48
        · exact h0
      rw [Lib.decDigits, dif_neg (by omega)]
      have e1 : (dvalN 0 (a :: b) * 10 + (c.toNat - 48)) / 10 = dvalN 0 (a :: b) := by omega
      have e2 : (dvalN 0 (a :: b) * 10 + (c.toNat - 48)) % 10 = c.toNat - 48 := by omega
      rw [e1, e2, ih, ec]
/-- what the law's reader of numbers answers -/
def l1I (l : List UInt8) (most : Int) : Int × Bool := if (l.length : Int) ≤ most ∧ canon l = true then ((dvalN 0 l : Int), true) else (0, false)
theorem dval_lt : ∀ (l : List UInt8) (acc k : Nat), l.all isDig = true → acc < 10 ^ k → dvalN acc l < 10 ^ (k + l.length)
  | [], acc, k, _, h => by rw [dval_nil]; simpa using h
  | c :: r, acc, k, hd, h => by
    simp only [List.all_cons, Bool.and_eq_true] at hd
    have hc := hd.1
    simp only [isDig, Bool.and_eq_true, decide_eq_true_eq] at hc
    have := dval_lt r (acc * 10 + (c.toNat - 48)) (k + 1) hd.2 (by rw [Nat.pow_succ]; omega)
    rw [dval_cons, List.length_cons, show k + (r.length + 1) = k + 1 + r.length by omega]
    exact this
theorem parseM_ok : ∀ (l : List UInt8) (acc : Nat), l.all isDig = true → dvalN acc l ≤ 1000000000000000000 → Lib.parseUintM (2 ^ 64 - 1) acc l = .ok (dvalN acc l)
  | [], acc, _, _ => by simp only [Lib.parseUintM, dval_nil]
  | c :: r, acc, hd, h => by
    simp only [List.all_cons, Bool.and_eq_true] at hd
    have hc := hd.1
    simp only [isDig, Bool.and_eq_true, decide_eq_true_eq] at hc
    rw [dval_cons] at h ⊢
    have g1 := dval_ge r (acc * 10 + (c.toNat - 48))
    have p : (2 : Nat) ^ 64 - 1 = 18446744073709551615 := by decide
    simp only [Lib.parseUintM]
    rw [if_pos hc, if_neg (by omega), if_neg (by rw [p]; omega)]
    exact parseM_ok r _ hd.2 h
theorem parse_dec {u : Nat} (h : u ≤ 1000000000000000000) : Lib.parseUintB 64 (Lib.decDigits u) = .ok u := by
  obtain ⟨h1, h2, h3, _, _⟩ := dec_props u
  unfold Lib.parseUintB
  rw [if_neg h3, parseM_ok _ 0 h1 (by rw [h2]; exact h), h2]
theorem dec_cons (u : Nat) : ∃ c r, Lib.decDigits u = c :: r ∧ isDig c = true := by
  obtain ⟨h1, _, h3, _, _⟩ := dec_props u
  cases hq : Lib.decDigits u with
  | nil => exact absurd hq h3
  | cons c r =>
    rw [hq] at h1
    simp only [List.all_cons, Bool.and_eq_true] at h1
    exact ⟨c, r, rfl, h1.1⟩
theorem parse_itoa {x : Int} (h : -1000000000000000 ≤ x ∧ x ≤ 1000000000000000) : Lib.parseIntB 64 (Lib.itoa x) = .ok x := by
  have p : (2 : Nat) ^ (64 - 1) = 9223372036854775808 := by decide
  by_cases hx : x < 0
  · have e : Lib.itoa x = 45 :: Lib.decDigits x.natAbs := by unfold Lib.itoa; rw [if_pos hx]
    have c45 : (45 : UInt8).toNat = 45 := rfl
    rw [e]
    simp only [Lib.parseIntB, c45, or_true, if_true, parse_dec (u := x.natAbs) (by omega), p]
    rw [if_neg (by simp), if_neg (by omega)]
    congr 1
    omega
  · have e : Lib.itoa x = Lib.decDigits x.toNat := by unfold Lib.itoa; rw [if_neg hx]
    obtain ⟨c, r, hcr, hd⟩ := dec_cons x.toNat
    simp only [isDig, Bool.and_eq_true, decide_eq_true_eq] at hd
    rw [e, hcr]
    simp only [Lib.parseIntB]
    rw [if_neg (by omega), ← hcr, parse_dec (u := x.toNat) (by omega)]
    simp only [p]
    rw [if_neg (by omega), if_neg (by omega), if_neg (by omega)]
    congr 1
    omega
/-- a number that is read: it is its own text -/
def numR (l : List UInt8) : Option Int := if l.head? = some 45 then (if (l1I (l.drop 1) 16).2 = true ∧ (l1I (l.drop 1) 16).1 ≠ 0 then some (-(l1I (l.drop 1) 16).1) else none) else (if (l1I l 16).2 = true then some (l1I l 16).1 else none)
theorem l1I_true {l : List UInt8} (h : (l1I l 16).2 = true) : l.length ≤ 16 ∧ canon l = true ∧ (l1I l 16).1 = (dvalN 0 l : Int) ∧ Lib.decDigits (dvalN 0 l) = l := by
  unfold l1I at h ⊢
  split at h
  · rename_i hc
    rw [if_pos hc]
    exact ⟨by omega, hc.2, rfl, canon_dec _ l rfl hc.2⟩
  · cases h
theorem l1I_dec {u : Nat} (h : u ≤ 1000000000000000) : l1I (Lib.decDigits u) 16 = ((u : Int), true) := by
  obtain ⟨h1, h2, h3, _, _⟩ := dec_props u
  have hl : (Lib.decDigits u).length ≤ 16 := by
    rw [Lib.decDigits_length]
    have : Lib.nDigits 1000000000000000 = 16 := Lib.nDigits_unique 15 _ (by decide) (by decide)
    rcases Nat.lt_or_ge 16 (Lib.nDigits u) with h4 | h4
    · have h5 : u < 10 ^ 16 := by have : (10 : Nat) ^ 16 = 10000000000000000 := by decide
                                  omega
      exfalso
      rcases Nat.lt_or_ge u 1 with h6 | h6
      · have : u = 0 := by omega
        subst this
        rw [Lib.nDigits_small (by decide)] at h4
        omega
      · have key : ∀ (k v : Nat), 1 ≤ v → v < 10 ^ k → Lib.nDigits v ≤ k := by
          intro k
          induction k with
          | zero => intro v hv hv'; simp at hv'; omega
          | succ k ih =>
            intro v hv hv'
            by_cases h10 : v < 10
            · rw [Lib.nDigits_small h10]; omega
            · rw [Lib.nDigits_big h10]
              have := ih (v / 10) (by omega) (by rw [Nat.pow_succ] at hv'; omega)
              omega
        have := key 16 u h6 h5
        omega
    · exact h4
  unfold l1I
  rw [if_pos ⟨by omega, dec_canon u⟩, h2]
theorem numR_some {l : List UInt8} {x : Int} (h : numR l = some x) : l = Lib.itoa x := by
  unfold numR at h
  split at h
  · rename_i h45
    split at h
    · rename_i hc
      cases h
      obtain ⟨a1, a2, a3, a4⟩ := l1I_true hc.1
      have hne := hc.2
      rw [a3] at hne ⊢
      unfold Lib.itoa
      rw [if_pos (by omega)]
      have : (-(dvalN 0 (l.drop 1) : Int)).natAbs = dvalN 0 (l.drop 1) := by omega
      rw [this, a4]
      cases l with
      | nil => cases h45
      | cons c r => simp at h45; simp [h45]
    · cases h
  · split at h
    · rename_i hc
      cases h
      obtain ⟨a1, a2, a3, a4⟩ := l1I_true hc
      rw [a3]
      unfold Lib.itoa
      rw [if_neg (by omega), Int.toNat_natCast, a4]
    · cases h
theorem numR_itoa {x : Int} (h : -1000000000000000 ≤ x ∧ x ≤ 1000000000000000) : numR (Lib.itoa x) = some x := by
  unfold numR
  by_cases hx : x < 0
  · have e : Lib.itoa x = 45 :: Lib.decDigits x.natAbs := by unfold Lib.itoa; rw [if_pos hx]
    have e2 := l1I_dec (u := x.natAbs) (by omega)
    rw [e, List.head?_cons, if_pos rfl, List.drop_succ_cons, List.drop_zero, e2, if_pos ⟨rfl, by show ((x.natAbs : Nat) : Int) ≠ 0; omega⟩]
    congr 1
    show -((x.natAbs : Nat) : Int) = x
    omega
  · have e : Lib.itoa x = Lib.decDigits x.toNat := by unfold Lib.itoa; rw [if_neg hx]
    have e2 := l1I_dec (u := x.toNat) (by omega)
    obtain ⟨c, r, hcr, hd⟩ := dec_cons x.toNat
    have h45 : ¬ (Lib.decDigits x.toNat).head? = some 45 := by
      rw [hcr]
      simp only [List.head?_cons, Option.some.injEq]
      intro hc
      subst hc
      simp [isDig] at hd
    rw [e, if_neg h45, e2, if_pos rfl]
    congr 1
    show ((x.toNat : Nat) : Int) = x
    omega
theorem numR_in {l : List UInt8} {x : Int} (h : numR l = some x) : -10000000000000000 ≤ x ∧ x ≤ 10000000000000000 := by
  have p16 : (10 : Nat) ^ 16 = 10000000000000000 := by decide
  have key : ∀ {q : List UInt8}, (l1I q 16).2 = true → (0 ≤ (l1I q 16).1 ∧ (l1I q 16).1 ≤ 10000000000000000) := fun {q} hq => by
    obtain ⟨a1, a2, a3, a4⟩ := l1I_true hq
    rw [a3]
    simp only [canon, Bool.and_eq_true] at a2
    have := dval_lt q 0 0 a2.1.2 (by decide)
    have h2 : (10 : Nat) ^ (0 + q.length) ≤ 10 ^ 16 := Nat.pow_le_pow_right (by decide) (by omega)
    omega
  unfold numR at h
  split at h
  · split at h
    · rename_i hc; cases h; have := key hc.1; omega
    · cases h
  · split at h
    · rename_i hc; cases h; have := key hc; omega
    · cases h
def parseN (s : ByteArray) : Int := match L_strconv_ParseInt s 10 64 with
  | some (.inl v) => v
  | some (.inr v) => v
  | none => 0
theorem parseN_itoa {s : ByteArray} {x : Int} (hs : s.toList = Lib.itoa x) (h : -1000000000000000 ≤ x ∧ x ≤ 1000000000000000) : parseN s = x := by
  have hd : s.data.toList = Lib.itoa x := by rw [← Go.Lib.toList_data]; exact hs
  have hsz : s.size ≤ 281474976710656 := by
    rw [← tl_len, hs]
    unfold Lib.itoa
    split
    · have := dec_len x.natAbs (by omega); simp; omega
    · have := dec_len x.toNat (by omega); omega
  unfold parseN L_strconv_ParseInt
  rw [if_pos ⟨rfl, rfl, hsz⟩, hd, parse_itoa h]
/-- which error's name a text is -/
def idxN (s : ByteArray) : Int := if (nameS 5).toList = s.toList then 5 else if (nameS 4).toList = s.toList then 4 else if (nameS 3).toList = s.toList then 3 else if (nameS 2).toList = s.toList then 2 else if (nameS 1).toList = s.toList then 1 else 0
theorem idxN_in (s : ByteArray) : 0 ≤ idxN s ∧ idxN s ≤ 5 := by
  unfold idxN
  repeat' split
  all_goals decide
theorem idxN_ne {s : ByteArray} (h : ¬ idxN s = 0) : nameS (idxN s) = s := by
  unfold idxN at h ⊢
  by_cases h5 : (nameS 5).toList = s.toList
  · rw [if_pos h5]; exact ba_eqL h5
  rw [if_neg h5] at h ⊢
  by_cases h4 : (nameS 4).toList = s.toList
  · rw [if_pos h4]; exact ba_eqL h4
  rw [if_neg h4] at h ⊢
  by_cases h3 : (nameS 3).toList = s.toList
  · rw [if_pos h3]; exact ba_eqL h3
  rw [if_neg h3] at h ⊢
  by_cases h2 : (nameS 2).toList = s.toList
  · rw [if_pos h2]; exact ba_eqL h2
  rw [if_neg h2] at h ⊢
  by_cases h1 : (nameS 1).toList = s.toList
  · rw [if_pos h1]; exact ba_eqL h1
  rw [if_neg h1] at h
  exact absurd rfl h
theorem five {i : Int} (h : 1 ≤ i ∧ i ≤ 5) : i = 1 ∨ i = 2 ∨ i = 3 ∨ i = 4 ∨ i = 5 := by omega
/-- what a text may be the text of -/
def candV (s : ByteArray) : V3 :=
  if s.toList.head? = some 39 then (2, 0, ⟨s.toList.tail.toArray⟩) else
  if s.toList = [70, 65, 76, 83, 69] then (3, 0, em) else if s.toList = [84, 82, 85, 69] then (3, 1, em) else
  if s.toList.head? = some 35 then (if idxN s = 0 then (0, 0, em) else (4, idxN s, em)) else
  if s.toList = [] then (0, 0, em) else (1, parseN s, em)
/-- a text, read as a value: it is that value's text -/
def readV (s : ByteArray) : Int × Int × ByteArray × Bool := if okV (candV s).1 (candV s).2.1 (candV s).2.2 = true ∧ (vtext (candV s).1 (candV s).2.1 (candV s).2.2).toList = s.toList then ((candV s).1, (candV s).2.1, (candV s).2.2, true) else (0, 0, ⟨#[]⟩, false)
theorem ev_FormatInt (x : Int) (h : -9223372036854775808 ≤ x ∧ x ≤ 9223372036854775807) : Ev (F_strconv_FormatInt · x 10) (decS x) := by
  refine ⟨1, fun n hn => ?_⟩
  obtain ⟨m, rfl, hm⟩ := up1 hn
  show L_strconv_FormatInt x 10 = _
  unfold L_strconv_FormatInt
  rw [if_pos ⟨rfl, h⟩]
  rfl
theorem ev_impl_decimal (x : Int) (h : -9223372036854775808 ≤ x ∧ x ≤ 9223372036854775807) : Ev (F_impl_decimal · x) (decS x) := by
  obtain ⟨n1, h1⟩ := ev_FormatInt x h
  refine ⟨n1 + 1, fun n hn => ?_⟩
  obtain ⟨m, rfl, hm⟩ := up1 hn
  have h1 := h1 m (by omega)
  dsimp only at h1
  simp only [F_impl_decimal, T_impl_decimal, run_done, run_fail, run_ask, run_opt, run_inl, run_inr, Option.bind_some, apart_b, apart_i, apart_s, h1]
theorem ev_spec_l2Name (x : Int) (h : 0 ≤ x ∧ x ≤ 5) : Ev (F_spec_l2Name · x) (nameS x) := by
  refine ⟨1, fun n hn => ?_⟩
  obtain ⟨m, rfl, hm⟩ := up1 hn
  simp only [F_spec_l2Name, T_spec_l2Name, run_done, run_fail, run_ask, run_opt, run_inl, run_inr, Option.bind_some, apart_b, apart_i, apart_s]
  rcases lt6 h with rfl | rfl | rfl | rfl | rfl | rfl <;> simp [cellS, nameS]
theorem ev_impl_errorText (x : Int) (h : 0 ≤ x ∧ x ≤ 5) : Ev (F_impl_errorText · x) (nameS x) := by
  refine ⟨1, fun n hn => ?_⟩
  obtain ⟨m, rfl, hm⟩ := up1 hn
  simp only [F_impl_errorText, T_impl_errorText, run_done, run_fail, run_ask, run_opt, run_inl, run_inr, Option.bind_some, apart_b, apart_i, apart_s]
  rcases lt6 h with rfl | rfl | rfl | rfl | rfl | rfl <;> simp [cellS, nameS]
theorem ev_impl_valueText (k x : Int) (s : ByteArray) (ho : okV k x s = true) : Ev (F_impl_valueText · k x s) (vtext k x s) := by
  by_cases k1 : k = 1
  · subst k1
    have := okV_1 ho
    obtain ⟨n1, h1⟩ := ev_impl_decimal x (by omega)
    refine ⟨n1 + 1, fun n hn => ?_⟩
    obtain ⟨m, rfl, hm⟩ := up1 hn
    have h1 := h1 m (by omega)
    dsimp only at h1
    simp only [F_impl_valueText, T_impl_valueText, run_done, run_fail, run_ask, run_opt, run_inl, run_inr, Option.bind_some, apart_b, apart_i, apart_s, h1]
    simp [vtext]
  · by_cases k2 : k = 2
    · subst k2
      have := okV_2 ho
      have hz : (⟨#[39]⟩ : ByteArray).size + s.size ≤ 9223372036854775807 := by show 1 + s.size ≤ _; omega
      refine ⟨1, fun n hn => ?_⟩
      obtain ⟨m, rfl, hm⟩ := up1 hn
      simp only [F_impl_valueText, T_impl_valueText, run_done, run_fail, run_ask, run_opt, run_inl, run_inr, Option.bind_some, apart_b, apart_i, apart_s]
      simp [vtext, hz]
    · by_cases k3 : k = 3
      · subst k3
        have := okV_3 ho
        refine ⟨1, fun n hn => ?_⟩
        obtain ⟨m, rfl, hm⟩ := up1 hn
        simp only [F_impl_valueText, T_impl_valueText, run_done, run_fail, run_ask, run_opt, run_inl, run_inr, Option.bind_some, apart_b, apart_i, apart_s]
        have c : x = 0 ∨ x = 1 := by omega
        rcases c with rfl | rfl <;> simp [cellS, vtext, boolS]
      · by_cases k4 : k = 4
        · subst k4
          have := okV_4 ho
          obtain ⟨n1, h1⟩ := ev_impl_errorText x (by omega)
          refine ⟨n1 + 1, fun n hn => ?_⟩
          obtain ⟨m, rfl, hm⟩ := up1 hn
          have h1 := h1 m (by omega)
          dsimp only at h1
          simp only [F_impl_valueText, T_impl_valueText, run_done, run_fail, run_ask, run_opt, run_inl, run_inr, Option.bind_some, apart_b, apart_i, apart_s, h1]
          simp [vtext]
        · refine ⟨1, fun n hn => ?_⟩
          obtain ⟨m, rfl, hm⟩ := up1 hn
          simp only [F_impl_valueText, T_impl_valueText, run_done, run_fail, run_ask, run_opt, run_inl, run_inr, Option.bind_some, apart_b, apart_i, apart_s]
          simp [vtext, k1, k2, k3, k4]
theorem l1Int_loop (n : Nat) (s : ByteArray) : ∀ (r pre : List UInt8) (acc M : Nat), s.toList = pre ++ r → acc < 10 ^ pre.length → pre.length + r.length ≤ 17 → r.length + 1 ≤ M →
    loopF (B_spec_l1Int_61 n) M (s, (acc : Int), (pre.length : Int)) = some (if r.all isDig = true then .inr ((dvalN acc r : Nat) : Int) else .inl (0, false))
  | r, pre, acc, 0, h1, h2, h3, h4 => by omega
  | [], pre, acc, M + 1, h1, h2, h3, h4 => by
    have hs : s.size = pre.length := by rw [← tl_len, h1]; simp
    rw [loopF_inr (r := .inr (acc : Int)) (by simp [B_spec_l1Int_61, run_done, run_fail, run_ask, run_opt, run_inl, run_inr, Option.bind_some, apart_b, apart_i, apart_s, hs])]
    simp [dval_nil]
  | c :: r, pre, acc, M + 1, h1, h2, h3, h4 => by
    have hs : s.size = pre.length + (r.length + 1) := by rw [← tl_len, h1]; simp
    have hi : (pre.length : Int) < s.size := by omega
    have hg : s.toList[pre.length]? = some c := by rw [h1]; simp
    simp only [List.length_cons] at h3 h4
    by_cases c1 : (c.toNat : Int) < 48
    · rw [loopF_inr (r := .inl (0, false)) (by simp [B_spec_l1Int_61, run_done, run_fail, run_ask, run_opt, run_inl, run_inr, Option.bind_some, apart_b, apart_i, apart_s, hi, hg, c1])]
      have : isDig c = false := by simp [isDig]; omega
      simp [this]
    · by_cases c2 : (c.toNat : Int) > 57
      · rw [loopF_inr (r := .inl (0, false)) (by simp [B_spec_l1Int_61, run_done, run_fail, run_ask, run_opt, run_inl, run_inr, Option.bind_some, apart_b, apart_i, apart_s, hi, hg, c1, c2])]
        have : isDig c = false := by simp [isDig]; omega
        simp [this]
      · have hc : isDig c = true := by simp [isDig]; omega
        have hp : 10 ^ pre.length ≤ 10 ^ 16 := Nat.pow_le_pow_right (by decide) (by omega)
        have p16 : (10 : Nat) ^ 16 = 10000000000000000 := by decide
        have w1 : IntKind.i64.wrap ((acc : Int) * 10) = (acc : Int) * 10 := wrap64 (by omega)
        have w2 : IntKind.u8.wrap ((c.toNat : Int) - 48) = ((c.toNat - 48 : Nat) : Int) := by rw [u8wrap (by omega)]; omega
        have w3 : IntKind.i64.wrap ((c.toNat - 48 : Nat) : Int) = ((c.toNat - 48 : Nat) : Int) := wrap64 (by omega)
        have w4 : IntKind.i64.wrap ((acc : Int) * 10 + ((c.toNat - 48 : Nat) : Int)) = ((acc * 10 + (c.toNat - 48) : Nat) : Int) := by rw [wrap64 (by omega)]; omega
        have w5 : IntKind.i64.wrap ((pre.length : Int) + 1) = (pre.length : Int) + 1 := wrap64 (by omega)
        have e0 : ((pre ++ [c]).length : Int) = (pre.length : Int) + 1 := by simp
        rw [loopF_inl (v' := (s, ((acc * 10 + (c.toNat - 48) : Nat) : Int), ((pre ++ [c]).length : Int))) (by
          rw [e0]
          simp [B_spec_l1Int_61, run_done, run_fail, run_ask, run_opt, run_inl, run_inr, Option.bind_some, apart_b, apart_i, apart_s, hi, hg, c1, c2, w1, w2, w3, w4, w5])]
        rw [l1Int_loop n s r (pre ++ [c]) (acc * 10 + (c.toNat - 48)) M (by rw [h1]; simp) (by rw [List.length_append, List.length_singleton, Nat.pow_succ]; omega) (by simp; omega) (by omega)]
        simp [hc, dval_cons]
theorem ev_spec_l1Int (s : ByteArray) (most : Int) (hm : most ≤ 16) : Ev (F_spec_l1Int · s most) (l1I s.toList most) := by
  have hsz : s.size = s.toList.length := (tl_len s).symm
  by_cases h0 : s.toList = []
  · have hz : s.size = 0 := by rw [hsz, h0]; rfl
    refine ⟨1, fun n hn => ?_⟩
    obtain ⟨m, rfl, hm⟩ := up1 hn
    simp only [F_spec_l1Int, T_spec_l1Int, run_done, run_fail, run_ask, run_opt, run_inl, run_inr, Option.bind_some, apart_b, apart_i, apart_s]
    simp [hz, h0, l1I, canon]
  · obtain ⟨c, r, hcr⟩ : ∃ c r, s.toList = c :: r := by
      cases hq : s.toList with
      | nil => exact absurd hq h0
      | cons a b => exact ⟨a, b, rfl⟩
    have hl : s.size = r.length + 1 := by rw [hsz, hcr]; rfl
    have z1 : ¬ (s.size : Int) < 1 := by omega
    by_cases h1 : (s.size : Int) > most
    · refine ⟨1, fun n hn => ?_⟩
      obtain ⟨m, rfl, hm⟩ := up1 hn
      simp only [F_spec_l1Int, T_spec_l1Int, run_done, run_fail, run_ask, run_opt, run_inl, run_inr, Option.bind_some, apart_b, apart_i, apart_s]
      have : ¬ ((s.toList.length : Int) ≤ most) := by rw [← hsz]; omega
      simp [z1, h1, l1I, this]
    · have hle : (s.toList.length : Int) ≤ most := by rw [← hsz]; omega
      refine ⟨30, fun n hn => ?_⟩
      obtain ⟨m, rfl, hm'⟩ := up1 hn
      have hg : s.toList[0]? = some c := by rw [hcr]; rfl
      have lp := l1Int_loop m s s.toList [] 0 m rfl (by decide) (by simp; omega) (by omega)
      simp only [List.length_nil, Int.natCast_zero] at lp
      have c48 : ((c.toNat : Int) == 48) = (c == 48) := by
        by_cases e : c = 48
        · subst e; rfl
        · have : ¬ (c.toNat : Int) = 48 := fun h => e (UInt8.toNat_inj.1 (by show c.toNat = 48; omega))
          rw [beq_eq_false_iff_ne.2 this, beq_eq_false_iff_ne.2 e]
      simp only [F_spec_l1Int, T_spec_l1Int, run_done, run_fail, run_ask, run_opt, run_inl, run_inr, Option.bind_some, apart_b, apart_i, apart_s, lp, Int.toNat_zero, hg, c48]
      rw [if_neg (by simpa using z1), if_neg (by simpa using h1), if_pos (by simp)]
      have ne : (s.toList == []) = false := by simpa using h0
      have hd : s.toList.head? = some c := by rw [hcr]; rfl
      by_cases hc : c = 48
      · subst hc
        by_cases h2 : (s.size : Int) > 1
        · have : ¬ s.toList.length = 1 := by omega
          simp [h2, l1I, canon, hd, this]
        · have : s.toList.length = 1 := by omega
          cases hall : s.toList.all isDig <;> simp [h2, l1I, canon, hd, this, hall, ne, hle, run_done, run_fail, run_ask, run_opt, run_inl, run_inr, Option.bind_some, apart_b, apart_i, apart_s]
          · omega
      · have : (some c == some 48) = false := by simpa using hc
        cases hall : s.toList.all isDig <;> simp [hc, l1I, canon, hd, this, hall, ne, hle, run_done, run_fail, run_ask, run_opt, run_inl, run_inr, Option.bind_some, apart_b, apart_i, apart_s]
theorem ev_ParseInt (s : ByteArray) (h : s.size ≤ 281474976710656) : Ev (F_strconv_ParseInt · s 10 64) (.inl (parseN s)) ∨ Ev (F_strconv_ParseInt · s 10 64) (.inr (parseN s)) := by
  have key : ∃ r, L_strconv_ParseInt s 10 64 = some r := by
    unfold L_strconv_ParseInt
    rw [if_pos ⟨rfl, rfl, h⟩]
    split <;> exact ⟨_, rfl⟩
  obtain ⟨r, hr⟩ := key
  have e : Ev (F_strconv_ParseInt · s 10 64) r := ⟨1, fun n hn => by
    obtain ⟨m, rfl, hm⟩ := up1 hn
    exact hr⟩
  rcases r with v | v
  · exact .inl (by unfold parseN; rw [hr]; exact e)
  · exact .inr (by unfold parseN; rw [hr]; exact e)
theorem ev_CutPrefix (s : ByteArray) (c : UInt8) : Ev (F_strings_CutPrefix · s ⟨#[c]⟩) (if s.toList.head? = some c then (⟨s.toList.tail.toArray⟩, true) else (s, false)) := by
  refine ⟨1, fun n hn => ?_⟩
  obtain ⟨m, rfl, hm⟩ := up1 hn
  show L_strings_CutPrefix s ⟨#[c]⟩ = _
  unfold L_strings_CutPrefix Lib.trimPrefix Lib.hasPrefix
  rw [← Go.Lib.toList_data s]
  have es : (⟨s.toList.toArray⟩ : ByteArray) = s := ba_eq (by rw [← Go.Lib.toList_data s])
  generalize s.toList = l at *
  cases l with
  | nil => simp [es]
  | cons a r =>
    by_cases h : a = c
    · subst h; simp
    · have : ¬ c = a := fun e => h e.symm
      simp [h, this, es, List.isPrefixOf]
theorem ev_HasPrefix (s : ByteArray) (c : UInt8) : Ev (F_strings_HasPrefix · s ⟨#[c]⟩) (s.toList.head? == some c) := by
  refine ⟨2, fun n hn => ?_⟩
  obtain ⟨m, rfl, hm⟩ := up1 hn
  obtain ⟨m, rfl, hm⟩ := up1 hm
  have z : (⟨#[c]⟩ : ByteArray).size = 1 := rfl
  have tc : (⟨#[c]⟩ : ByteArray).toList = [c] := by rw [Go.Lib.toList_data]
  have hsz : s.size = s.toList.length := (tl_len s).symm
  simp only [F_strings_HasPrefix, T_strings_HasPrefix, F_internal_stringslite_HasPrefix, T_internal_stringslite_HasPrefix, run_done, run_fail, run_ask, run_opt, run_inl, run_inr, Option.bind_some, apart_b, apart_i, apart_s, z, tc]
  cases hq : s.toList with
  | nil =>
    have : s.size = 0 := by rw [hsz, hq]; rfl
    simp [this]
  | cons a r =>
    have h1 : (1 : Int) ≤ s.size := by rw [hsz, hq]; simp; omega
    have e : (s.extract 0 1).toList = [a] := by
      rw [Go.Lib.toList_data, ByteArray.data_extract, Array.toList_extract]
      rw [Go.Lib.toList_data] at hq
      simp [hq]
    have h2 : 1 ≤ s.size := by omega
    simp [h1, h2, e]
theorem impl_rv_step (n : Nat) (s : ByteArray) (a b : Int) (c : ByteArray) (i : Int) (v : V3) (hi : 1 ≤ i ∧ i ≤ 5) (h1 : F_impl_errorText n i = some (nameS i)) (h2 : F_impl_fault n i = some (4, i, em)) :
    (B_impl_ReadValue_3837 n (s, i, a, b, c, v.1, v.2.1, v.2.2)).run = some (.inl (s, i + 1, a, b, c, if (nameS i).toList = s.toList then (4, i, em) else v)) := by
  have w1 : IntKind.i64.wrap (i + 1) = i + 1 := wrap64 (by omega)
  simp only [B_impl_ReadValue_3837, run_done, run_fail, run_ask, run_opt, run_inl, run_inr, Option.bind_some, apart_b, apart_i, apart_s, h1, h2, w1]
  rw [if_pos (decide_eq_true hi.2)]
  by_cases h : (nameS i).toList = s.toList <;> simp [h]
def updK (s : ByteArray) : Nat → Int → V3 → V3
  | 0, _, v => v
  | k + 1, i, v => updK s k (i + 1) (if (nameS i).toList = s.toList then (4, i, em) else v)
theorem updK_5 (s : ByteArray) : updK s 5 1 (0, 0, em) = if idxN s = 0 then (0, 0, em) else (4, idxN s, em) := by
  have a2 : (1 : Int) + 1 = 2 := by decide
  have a3 : (2 : Int) + 1 = 3 := by decide
  have a4 : (3 : Int) + 1 = 4 := by decide
  have a5 : (4 : Int) + 1 = 5 := by decide
  simp only [updK, idxN, a2, a3, a4, a5]
  by_cases h5 : (nameS 5).toList = s.toList
  · simp [h5]
  by_cases h4 : (nameS 4).toList = s.toList
  · simp [h5, h4]
  by_cases h3 : (nameS 3).toList = s.toList
  · simp [h5, h4, h3]
  by_cases h2 : (nameS 2).toList = s.toList
  · simp [h5, h4, h3, h2]
  by_cases h1 : (nameS 1).toList = s.toList <;> simp [h5, h4, h3, h2, h1]
theorem impl_rv_loop (n : Nat) (s : ByteArray) (a b : Int) (c : ByteArray) (h1 : ∀ i, 0 ≤ i ∧ i ≤ 5 → F_impl_errorText n i = some (nameS i)) (h2 : ∀ i, 1 ≤ i ∧ i ≤ 5 → F_impl_fault n i = some (4, i, em)) :
    ∀ (k : Nat) (i : Int) (v : V3) (M : Nat), i + k = 6 → 1 ≤ i → k + 1 ≤ M → loopF (B_impl_ReadValue_3837 n) M (s, i, a, b, c, v.1, v.2.1, v.2.2) = some (s, a, b, c, (updK s k i v).1, (updK s k i v).2.1, (updK s k i v).2.2)
  | k, i, v, 0, e, h, hM => by omega
  | 0, i, v, M + 1, e, h, hM => by
    have hi : ¬ i ≤ 5 := by omega
    rw [loopF_inr (r := (s, a, b, c, v.1, v.2.1, v.2.2)) (by simp [B_impl_ReadValue_3837, run_done, run_fail, run_ask, run_opt, run_inl, run_inr, Option.bind_some, apart_b, apart_i, apart_s, hi])]
    rfl
  | k + 1, i, v, M + 1, e, h, hM => by
    rw [loopF_inl (impl_rv_step n s a b c i v (by omega) (h1 i (by omega)) (h2 i (by omega)))]
    exact impl_rv_loop n s a b c h1 h2 k (i + 1) _ M (by omega) (by omega) (by omega)
theorem okV_blank : okV 0 0 em = true := by simp [okV, em, toList_nil]
theorem vtext_blank : vtext 0 0 em = ⟨#[]⟩ := rfl
theorem ev_all5 {R : Type} {F : Nat → Int → Option R} {f : Int → R} {lo : Int} (h0 : 0 ≤ lo) (h : ∀ i, lo ≤ i ∧ i ≤ 5 → Ev (F · i) (f i)) : ∃ n0, ∀ n, n0 ≤ n → ∀ i, lo ≤ i ∧ i ≤ 5 → F n i = some (f i) := by
  obtain ⟨n0, h1⟩ := ev_list (F := fun i n => if lo ≤ i ∧ i ≤ 5 then F n i else some (f i)) (f := f) [0, 1, 2, 3, 4, 5] (fun i _ => by
    by_cases hi : lo ≤ i ∧ i ≤ 5
    · obtain ⟨n0, h1⟩ := h i hi
      exact ⟨n0, fun n hn => by simp only [if_pos hi]; exact h1 n hn⟩
    · exact ⟨0, fun n _ => by simp only [if_neg hi]⟩)
  refine ⟨n0, fun n hn i hi => ?_⟩
  have := h1 n hn i (by
    have c : i = 0 ∨ i = 1 ∨ i = 2 ∨ i = 3 ∨ i = 4 ∨ i = 5 := by omega
    rcases c with rfl | rfl | rfl | rfl | rfl | rfl <;> simp)
  simp only [if_pos hi] at this
  exact this
theorem ev_impl_ReadValue (s : ByteArray) (hb : s.size ≤ 1048576) : Ev (F_impl_ReadValue · s) (readV s) := by
  have te : (⟨#[]⟩ : ByteArray).toList = [] := toList_nil
  have tF : (⟨#[70, 65, 76, 83, 69]⟩ : ByteArray).toList = [70, 65, 76, 83, 69] := by rw [Go.Lib.toList_data]
  have tT : (⟨#[84, 82, 85, 69]⟩ : ByteArray).toList = [84, 82, 85, 69] := by rw [Go.Lib.toList_data]
  -- what is found, and whether it is right
  have fin : ∀ k x (t : ByteArray), candV s = (k, x, t) → t.size ≤ 140737488351232 → ∃ n0, ∀ n, n0 ≤ n → F_impl_ValueOk n k x t = some (okV k x t) ∧ (okV k x t = true → F_impl_valueText n k x t = some (vtext k x t)) := fun k x t _ ht => by
    obtain ⟨n1, h1⟩ := ev_impl_ValueOk k x t ht
    by_cases ho : okV k x t = true
    · obtain ⟨n2, h2⟩ := ev_impl_valueText k x t ho
      exact ⟨n1 + n2, fun n hn => ⟨h1 n (by omega), fun _ => h2 n (by omega)⟩⟩
    · exact ⟨n1, fun n hn => ⟨h1 n hn, fun h => absurd h ho⟩⟩
  have rd : ∀ k x (t : ByteArray), candV s = (k, x, t) → readV s = if okV k x t = true ∧ (vtext k x t).toList = s.toList then (k, x, t, true) else (0, 0, ⟨#[]⟩, false) := fun k x t h => by unfold readV; rw [h]
  by_cases h39 : s.toList.head? = some 39
  · have hc : candV s = (2, 0, ⟨s.toList.tail.toArray⟩) := by unfold candV; rw [if_pos h39]
    have hsz : (⟨s.toList.tail.toArray⟩ : ByteArray).size ≤ 140737488351232 := by rw [ba_size]; simp only [List.length_tail]; rw [tl_len]; omega
    obtain ⟨n0, hf⟩ := fin _ _ _ hc hsz
    rw [rd _ _ _ hc]
    obtain ⟨n1, h1⟩ := ev_CutPrefix s 39
    refine ⟨n0 + n1 + 1, fun n hn => ?_⟩
    obtain ⟨m, rfl, hm⟩ := up1 hn
    have h1 := h1 m (by omega)
    obtain ⟨g1, g2⟩ := hf m (by omega)
    dsimp only at h1
    simp only [F_impl_ReadValue, T_impl_ReadValue, run_done, run_fail, run_ask, run_opt, run_inl, run_inr, Option.bind_some, apart_b, apart_i, apart_s, h1, if_pos h39, g1]
    cases ho : okV 2 0 (⟨s.toList.tail.toArray⟩ : ByteArray) with
    | false => simp
    | true =>
      simp only [g2 ho]
      by_cases e : (vtext 2 0 (⟨s.toList.tail.toArray⟩ : ByteArray)).toList = s.toList <;> simp [e]
  · have cut := ev_CutPrefix s 39
    rw [if_neg h39] at cut
    by_cases hF : s.toList = [70, 65, 76, 83, 69]
    · have hc : candV s = (3, 0, em) := by unfold candV; rw [if_neg h39, if_pos hF]
      have hT : ¬ s.toList = [84, 82, 85, 69] := by rw [hF]; decide
      obtain ⟨n0, hf⟩ := fin _ _ _ hc (by decide)
      rw [rd _ _ _ hc]
      obtain ⟨n1, h1⟩ := cut
      obtain ⟨n2, h2⟩ := ev_impl_truth false
      refine ⟨n0 + n1 + n2 + 1, fun n hn => ?_⟩
      obtain ⟨m, rfl, hm⟩ := up1 hn
      have h1 := h1 m (by omega)
      have h2 := h2 m (by omega)
      obtain ⟨g1, g2⟩ := hf m (by omega)
      dsimp only at h1 h2
      simp only [Bool.false_eq_true, if_false] at h2
      have bT : (s.toList == [84, 82, 85, 69]) = false := by simpa using hT
      have bF : (s.toList == [70, 65, 76, 83, 69]) = true := by simpa using hF
      simp only [F_impl_ReadValue, T_impl_ReadValue, run_done, run_fail, run_ask, run_opt, run_inl, run_inr, Option.bind_some, apart_b, apart_i, apart_s, h1, tF, tT, bT, bF, h2, g1]
      cases ho : okV 3 0 em with
      | false => simp
      | true =>
        simp only [g2 ho]
        by_cases e : (vtext 3 0 em).toList = s.toList <;> simp [e]
    · by_cases hT : s.toList = [84, 82, 85, 69]
      · have hc : candV s = (3, 1, em) := by unfold candV; rw [if_neg h39, if_neg hF, if_pos hT]
        obtain ⟨n0, hf⟩ := fin _ _ _ hc (by decide)
        rw [rd _ _ _ hc]
        obtain ⟨n1, h1⟩ := cut
        obtain ⟨n2, h2⟩ := ev_impl_truth true
        refine ⟨n0 + n1 + n2 + 1, fun n hn => ?_⟩
        obtain ⟨m, rfl, hm⟩ := up1 hn
        have h1 := h1 m (by omega)
        have h2 := h2 m (by omega)
        obtain ⟨g1, g2⟩ := hf m (by omega)
        dsimp only at h1 h2
        simp only [if_true] at h2
        have bT : (s.toList == [84, 82, 85, 69]) = true := by simpa using hT
        have bF : (s.toList == [70, 65, 76, 83, 69]) = false := by simpa using hF
        simp only [F_impl_ReadValue, T_impl_ReadValue, run_done, run_fail, run_ask, run_opt, run_inl, run_inr, Option.bind_some, apart_b, apart_i, apart_s, h1, tF, tT, bT, bF, h2, g1]
        cases ho : okV 3 1 em with
        | false => simp
        | true =>
          simp only [g2 ho]
          by_cases e : (vtext 3 1 em).toList = s.toList <;> simp [e]
      · have bT : (s.toList == [84, 82, 85, 69]) = false := by simpa using hT
        have bF : (s.toList == [70, 65, 76, 83, 69]) = false := by simpa using hF
        have pre := ev_HasPrefix s 35
        by_cases h35 : s.toList.head? = some 35
        · have hc : candV s = (if idxN s = 0 then (0, 0, em) else (4, idxN s, em)) := by unfold candV; rw [if_neg h39, if_neg hF, if_neg hT, if_pos h35]
          have main : ∀ k x (t : ByteArray), candV s = (k, x, t) → updK s 5 1 (0, 0, em) = (k, x, t) → t.size ≤ 140737488351232 → Ev (F_impl_ReadValue · s) (readV s) := fun k x t hc hu ht => by
            obtain ⟨n0, hf⟩ := fin _ _ _ hc ht
            rw [rd _ _ _ hc]
            obtain ⟨n1, h1⟩ := cut
            obtain ⟨n2, h2⟩ := pre
            obtain ⟨n3, h3⟩ := ev_all5 (F := F_impl_errorText) (f := nameS) (lo := 0) (by decide) ev_impl_errorText
            obtain ⟨n4, h4⟩ := ev_all5 (F := F_impl_fault) (f := fun i => (4, i, em)) (lo := 1) (by decide) (fun i _ => ev_impl_fault i)
            refine ⟨n0 + n1 + n2 + n3 + n4 + 10, fun n hn => ?_⟩
            obtain ⟨m, rfl, hm⟩ := up1 hn
            have h1 := h1 m (by omega)
            have h2 := h2 m (by omega)
            have lp := impl_rv_loop m s 0 0 ⟨#[]⟩ (h3 m (by omega)) (h4 m (by omega)) 5 1 (0, 0, em) m (by decide) (by decide) (by omega)
            rw [hu] at lp
            obtain ⟨g1, g2⟩ := hf m (by omega)
            dsimp only [em] at h1 h2 lp g1 g2
            have b35 : (s.toList.head? == some 35) = true := by simpa using h35
            simp only [F_impl_ReadValue, T_impl_ReadValue, run_done, run_fail, run_ask, run_opt, run_inl, run_inr, Option.bind_some, apart_b, apart_i, apart_s, h1, tF, tT, bT, bF, h2, b35, lp, g1]
            cases ho : okV k x t with
            | false => simp
            | true =>
              simp only [g2 ho]
              by_cases e : (vtext k x t).toList = s.toList <;> simp [e]
          by_cases hz : idxN s = 0
          · rw [if_pos hz] at hc
            exact main _ _ _ hc (by rw [updK_5, if_pos hz]) (show (0 : Nat) ≤ 140737488351232 by decide)
          · rw [if_neg hz] at hc
            exact main _ _ _ hc (by rw [updK_5, if_neg hz]) (show (0 : Nat) ≤ 140737488351232 by decide)
        · have b35 : (s.toList.head? == some 35) = false := by simpa using h35
          by_cases h0 : s.toList = []
          · have hc : candV s = (0, 0, em) := by unfold candV; rw [if_neg h39, if_neg hF, if_neg hT, if_neg h35, if_pos h0]
            obtain ⟨n0, hf⟩ := fin _ _ _ hc (by decide)
            rw [rd _ _ _ hc]
            obtain ⟨n1, h1⟩ := cut
            obtain ⟨n2, h2⟩ := pre
            refine ⟨n0 + n1 + n2 + 1, fun n hn => ?_⟩
            obtain ⟨m, rfl, hm⟩ := up1 hn
            have h1 := h1 m (by omega)
            have h2 := h2 m (by omega)
            obtain ⟨g1, g2⟩ := hf m (by omega)
            dsimp only [em] at h1 h2 g1 g2
            have b0 : (!(s.toList == [])) = false := by simpa using h0
            simp only [F_impl_ReadValue, T_impl_ReadValue, run_done, run_fail, run_ask, run_opt, run_inl, run_inr, Option.bind_some, apart_b, apart_i, apart_s, h1, tF, tT, bT, bF, h2, b35, te, b0, g1]
            have ho := okV_blank
            dsimp only [em] at ho
            simp only [g2 ho, ho]
            by_cases e : (vtext 0 0 (⟨#[]⟩ : ByteArray)).toList = s.toList <;> simp [em, ho, e]
          · have hc : candV s = (1, parseN s, em) := by unfold candV; rw [if_neg h39, if_neg hF, if_neg hT, if_neg h35, if_neg h0]
            obtain ⟨n0, hf⟩ := fin _ _ _ hc (by decide)
            rw [rd _ _ _ hc]
            obtain ⟨n1, h1⟩ := cut
            obtain ⟨n2, h2⟩ := pre
            obtain ⟨n4, h4⟩ := ev_impl_number (parseN s)
            have b0 : (!(s.toList == [])) = true := by simpa using h0
            rcases ev_ParseInt s (by omega) with ⟨n3, h3⟩ | ⟨n3, h3⟩
            all_goals
              refine ⟨n0 + n1 + n2 + n3 + n4 + 1, fun n hn => ?_⟩
              obtain ⟨m, rfl, hm⟩ := up1 hn
              have h1 := h1 m (by omega)
              have h2 := h2 m (by omega)
              have h3 := h3 m (by omega)
              have h4 := h4 m (by omega)
              obtain ⟨g1, g2⟩ := hf m (by omega)
              dsimp only at h1 h2 h3 h4
              simp only [F_impl_ReadValue, T_impl_ReadValue, run_done, run_fail, run_ask, run_opt, run_inl, run_inr, Option.bind_some, apart_b, apart_i, apart_s, h1, tF, tT, bT, bF, h2, b35, te, b0, h3, h4, g1]
              cases ho : okV 1 (parseN s) em with
              | false => simp
              | true =>
                simp only [g2 ho]
                by_cases e : (vtext 1 (parseN s) em).toList = s.toList <;> simp [e]
theorem spec_rv_loop (n : Nat) (s : ByteArray) (a b : Int) (c : ByteArray) (h1 : ∀ i, 0 ≤ i ∧ i ≤ 5 → F_spec_l2Name n i = some (nameS i)) :
    ∀ (k : Nat) (i x : Int) (M : Nat), i + k = 6 → 1 ≤ i → k + 1 ≤ M → (updK s k i (4, x, em)).1 = 4 ∧ (updK s k i (4, x, em)).2.2 = em ∧ loopF (B_spec_ReadValue_15355 n) M (s, i, a, b, c, 4, x, ⟨#[]⟩) = some (a, b, c, 4, (updK s k i (4, x, em)).2.1, ⟨#[]⟩)
  | k, i, x, 0, e, h, hM => by omega
  | 0, i, x, M + 1, e, h, hM => by
    have hi : ¬ i ≤ 5 := by omega
    refine ⟨rfl, rfl, ?_⟩
    rw [loopF_inr (r := (a, b, c, 4, x, ⟨#[]⟩)) (by simp [B_spec_ReadValue_15355, run_done, run_fail, run_ask, run_opt, run_inl, run_inr, Option.bind_some, apart_b, apart_i, apart_s, hi])]
    rfl
  | k + 1, i, x, M + 1, e, h, hM => by
    have hi : i ≤ 5 := by omega
    have g := h1 i (by omega)
    have w1 : IntKind.i64.wrap (i + 1) = i + 1 := wrap64 (by omega)
    have hu : updK s (k + 1) i (4, x, em) = updK s k (i + 1) (4, if (nameS i).toList = s.toList then i else x, em) := by
      simp only [updK]
      split <;> rfl
    rw [hu, loopF_inl (v' := (s, i + 1, a, b, c, 4, (if (nameS i).toList = s.toList then i else x), ⟨#[]⟩)) (by
      simp only [B_spec_ReadValue_15355, run_done, run_fail, run_ask, run_opt, run_inl, run_inr, Option.bind_some, apart_b, apart_i, apart_s, g, w1]
      rw [if_pos (decide_eq_true hi)]
      by_cases hq : (nameS i).toList = s.toList <;> simp [hq])]
    exact spec_rv_loop n s a b c h1 k (i + 1) _ M (by omega) (by omega) (by omega)
theorem updK_54 (s : ByteArray) : updK s 5 1 (4, 0, em) = (4, idxN s, em) := by
  have a2 : (1 : Int) + 1 = 2 := by decide
  have a3 : (2 : Int) + 1 = 3 := by decide
  have a4 : (3 : Int) + 1 = 4 := by decide
  have a5 : (4 : Int) + 1 = 5 := by decide
  simp only [updK, idxN, a2, a3, a4, a5]
  by_cases h5 : (nameS 5).toList = s.toList
  · simp [h5]
  by_cases h4 : (nameS 4).toList = s.toList
  · simp [h5, h4]
  by_cases h3 : (nameS 3).toList = s.toList
  · simp [h5, h4, h3]
  by_cases h2 : (nameS 2).toList = s.toList
  · simp [h5, h4, h3, h2]
  by_cases h1 : (nameS 1).toList = s.toList <;> simp [h5, h4, h3, h2, h1]
theorem ext1 (s : ByteArray) : (s.extract (1 : Int).toNat ((s.size : Int)).toNat).toList = s.toList.tail := by
  have e1 : (1 : Int).toNat = 1 := rfl
  rw [Int.toNat_natCast, e1, Go.Lib.toList_data, ByteArray.data_extract, Array.toList_extract, Go.Lib.toList_data]
  have hl : s.data.toList.length = s.size := by rw [← ba_size]
  show (s.data.toList.drop 1).take (s.size - 1) = s.data.toList.tail
  rw [List.take_of_length_le (by rw [List.length_drop, hl]; exact Nat.le_refl _), List.drop_one]
theorem head_get {s : ByteArray} {c : UInt8} {r : List UInt8} (h : s.toList = c :: r) : s.toList[((0 : Int)).toNat]? = some c := by rw [h]; rfl
theorem beqI (c : UInt8) (k : Nat) (hk : k < 256) : ((c.toNat : Int) == (k : Int)) = (some c == some (UInt8.ofNat k)) := by
  by_cases e : c = UInt8.ofNat k
  · subst e
    have : (UInt8.ofNat k).toNat = k := by rw [UInt8.toNat_ofNat']; omega
    simp [this]
  · have h1 : ¬ (c.toNat : Int) = (k : Int) := fun h => e (by
      have : c.toNat = k := by omega
      rw [← this]; simp)
    have h2 : ¬ some c = some (UInt8.ofNat k) := fun h => e (by simpa using h)
    rw [beq_eq_false_iff_ne.2 h1, beq_eq_false_iff_ne.2 h2]
theorem okV_int {x : Int} : okV 1 x em = decide (-1000000000000000 ≤ x ∧ x ≤ 1000000000000000) := by
  simp [okV, em, toList_nil]
/-- what begins otherwise is read as a number -/
theorem readV_num {s : ByteArray} (h39 : ¬ s.toList.head? = some 39) (hF : ¬ s.toList = [70, 65, 76, 83, 69]) (hT : ¬ s.toList = [84, 82, 85, 69]) (h35 : ¬ s.toList.head? = some 35) (h0 : ¬ s.toList = []) :
    readV s = match numR s.toList with
      | some x => if okV 1 x em = true then (1, x, em, true) else (0, 0, ⟨#[]⟩, false)
      | none => (0, 0, ⟨#[]⟩, false) := by
  have hc : candV s = (1, parseN s, em) := by unfold candV; rw [if_neg h39, if_neg hF, if_neg hT, if_neg h35, if_neg h0]
  have rd : readV s = if okV 1 (parseN s) em = true ∧ (vtext 1 (parseN s) em).toList = s.toList then (1, parseN s, em, true) else (0, 0, ⟨#[]⟩, false) := by unfold readV; rw [hc]
  have tx : ∀ x, (vtext 1 x em).toList = Lib.itoa x := fun x => by
    rw [Go.Lib.toList_data]; simp [vtext, decS]
  have back : okV 1 (parseN s) em = true ∧ (vtext 1 (parseN s) em).toList = s.toList → numR s.toList = some (parseN s) := fun ⟨a, b⟩ => by
    rw [tx] at b
    rw [okV_int] at a
    rw [← b]
    exact numR_itoa (by simpa using a)
  rw [rd]
  cases hn : numR s.toList with
  | none =>
    rw [if_neg (fun h => by rw [back h] at hn; cases hn)]
  | some x =>
    by_cases hx : okV 1 x em = true
    · have hi := numR_some hn
      have hr : -1000000000000000 ≤ x ∧ x ≤ 1000000000000000 := by rw [okV_int] at hx; simpa using hx
      have hp := parseN_itoa hi hr
      dsimp only
      rw [hp, if_pos ⟨hx, by rw [tx, hi]⟩, if_pos hx]
    · dsimp only
      rw [if_neg hx, if_neg (fun h => by
        have := back h
        rw [hn] at this
        cases this
        exact hx h.1)]
theorem numR_case (s : ByteArray) {c : UInt8} {r : List UInt8} (hcr : s.toList = c :: r) : numR s.toList = if c = 45 then (if (l1I s.toList.tail 16).2 = true ∧ (l1I s.toList.tail 16).1 ≠ 0 then some (-(l1I s.toList.tail 16).1) else none) else (if (l1I s.toList 16).2 = true then some (l1I s.toList 16).1 else none) := by
  unfold numR
  rw [hcr]
  simp only [List.head?_cons, Option.some.injEq, List.drop_one]
theorem ev_spec_ReadValue (s : ByteArray) (hb : s.size ≤ 1048576) : Ev (F_spec_ReadValue · s) (readV s) := by
  have te : (⟨#[]⟩ : ByteArray).toList = [] := toList_nil
  have tF : (⟨#[70, 65, 76, 83, 69]⟩ : ByteArray).toList = [70, 65, 76, 83, 69] := by rw [Go.Lib.toList_data]
  have tT : (⟨#[84, 82, 85, 69]⟩ : ByteArray).toList = [84, 82, 85, 69] := by rw [Go.Lib.toList_data]
  have hsz : s.size = s.toList.length := (tl_len s).symm
  by_cases h0 : s.toList = []
  · have hv : readV s = (0, 0, ⟨#[]⟩, true) := by
      have hc : candV s = (0, 0, em) := by unfold candV; rw [h0]; simp
      unfold readV
      rw [hc, if_pos ⟨okV_blank, by rw [vtext_blank, h0]; exact te⟩]
      rfl
    rw [hv]
    refine ⟨1, fun n hn => ?_⟩
    obtain ⟨m, rfl, hm⟩ := up1 hn
    simp only [F_spec_ReadValue, T_spec_ReadValue, run_done, run_fail, run_ask, run_opt, run_inl, run_inr, Option.bind_some, apart_b, apart_i, apart_s]
    simp [h0, te]
  · obtain ⟨c, r, hcr⟩ : ∃ c r, s.toList = c :: r := by
      cases hq : s.toList with
      | nil => exact absurd hq h0
      | cons a b => exact ⟨a, b, rfl⟩
    have hg := head_get hcr
    have hd : s.toList.head? = some c := by rw [hcr]; rfl
    have b0 : (s.toList == []) = false := by simpa using h0
    have s1 : (1 : Int) ≤ (s.size : Int) := by rw [hsz, hcr]; simp; omega
    have k39 := beqI c 39 (by decide)
    have k35 := beqI c 35 (by decide)
    have k45 := beqI c 45 (by decide)
    have u39 : UInt8.ofNat 39 = 39 := rfl
    have u35 : UInt8.ofNat 35 = 35 := rfl
    have u45 : UInt8.ofNat 45 = 45 := rfl
    rw [u39] at k39
    rw [u35] at k35
    rw [u45] at k45
    have q39 : ((39 : Nat) : Int) = 39 := rfl
    have q35 : ((35 : Nat) : Int) = 35 := rfl
    have q45 : ((45 : Nat) : Int) = 45 := rfl
    rw [q39] at k39
    rw [q35] at k35
    rw [q45] at k45
    by_cases h39 : c = 39
    · have hx : (⟨s.toList.tail.toArray⟩ : ByteArray) = s.extract (1 : Int).toNat ((s.size : Int)).toNat := ba_eqL (by rw [ext1]; rw [Go.Lib.toList_data])
      have hc : candV s = (2, 0, s.extract (1 : Int).toNat ((s.size : Int)).toNat) := by unfold candV; rw [if_pos (by rw [hd, h39]), hx]
      have hz : (s.extract (1 : Int).toNat ((s.size : Int)).toNat).size ≤ 140737488351232 := by rw [← hx, ba_size]; simp only [List.length_tail]; rw [tl_len]; omega
      have hvt : (vtext 2 0 (s.extract (1 : Int).toNat ((s.size : Int)).toNat)).toList = s.toList := by
        rw [← hx, Go.Lib.toList_data]
        show ((⟨#[39]⟩ : ByteArray) ++ _).data.toList = _
        rw [ba_app, hcr, h39]
        rfl
      have hv : readV s = if okV 2 0 (s.extract (1 : Int).toNat ((s.size : Int)).toNat) = true then (2, 0, s.extract (1 : Int).toNat ((s.size : Int)).toNat, true) else (0, 0, ⟨#[]⟩, false) := by
        unfold readV
        rw [hc]
        simp only [hvt, and_true]
      rw [hv]
      have e39 : (some c == some 39) = true := by rw [h39]; rfl
      obtain ⟨n1, h1⟩ := ev_spec_ValueOk 2 0 (s.extract (1 : Int).toNat ((s.size : Int)).toNat) hz
      refine ⟨n1 + 1, fun n hn => ?_⟩
      obtain ⟨m, rfl, hm⟩ := up1 hn
      have h1 := h1 m (by omega)
      dsimp only at h1
      simp only [F_spec_ReadValue, T_spec_ReadValue, run_done, run_fail, run_ask, run_opt, run_inl, run_inr, Option.bind_some, apart_b, apart_i, apart_s, h1]
      simp only [run_done, run_fail, run_ask, run_opt, run_inl, run_inr, Option.bind_some, apart_b, apart_i, apart_s, te, b0, hg, k39, e39]
      cases ho : okV 2 0 (s.extract (1 : Int).toNat ((s.size : Int)).toNat) <;> simp [s1]
    · have n39 : ¬ s.toList.head? = some 39 := by rw [hd]; simpa using h39
      have e39 : (some c == some 39) = false := by simpa using h39
      by_cases hT : s.toList = [84, 82, 85, 69]
      · have hF : ¬ s.toList = [70, 65, 76, 83, 69] := by rw [hT]; decide
        have hc : candV s = (3, 1, em) := by unfold candV; rw [if_neg n39, if_neg hF, if_pos hT]
        have ho : okV 3 1 em = true := by simp [okV, em, toList_nil]
        have hv : readV s = (3, 1, ⟨#[]⟩, true) := by
          unfold readV
          rw [hc, if_pos ⟨ho, by rw [hT]; exact tT⟩]
          rfl
        rw [hv]
        have bT : (s.toList == [84, 82, 85, 69]) = true := by simpa using hT
        obtain ⟨n1, h1⟩ := ev_spec_ValueOk 3 1 ⟨#[]⟩ (by decide)
        refine ⟨n1 + 1, fun n hn => ?_⟩
        obtain ⟨m, rfl, hm⟩ := up1 hn
        have h1 := h1 m (by omega)
        dsimp only at h1
        simp only [F_spec_ReadValue, T_spec_ReadValue, run_done, run_fail, run_ask, run_opt, run_inl, run_inr, Option.bind_some, apart_b, apart_i, apart_s, h1]
        dsimp only [em] at ho
        simp only [run_done, run_fail, run_ask, run_opt, run_inl, run_inr, Option.bind_some, apart_b, apart_i, apart_s, te, b0, hg, k39, e39, tT, bT, ho]
        simp
      · have bT : (s.toList == [84, 82, 85, 69]) = false := by simpa using hT
        by_cases hF : s.toList = [70, 65, 76, 83, 69]
        · have hc : candV s = (3, 0, em) := by unfold candV; rw [if_neg n39, if_pos hF]
          have ho : okV 3 0 em = true := by simp [okV, em, toList_nil]
          have hv : readV s = (3, 0, ⟨#[]⟩, true) := by
            unfold readV
            rw [hc, if_pos ⟨ho, by rw [hF]; exact tF⟩]
            rfl
          rw [hv]
          have bF : (s.toList == [70, 65, 76, 83, 69]) = true := by simpa using hF
          obtain ⟨n1, h1⟩ := ev_spec_ValueOk 3 0 ⟨#[]⟩ (by decide)
          refine ⟨n1 + 1, fun n hn => ?_⟩
          obtain ⟨m, rfl, hm⟩ := up1 hn
          have h1 := h1 m (by omega)
          dsimp only at h1
          simp only [F_spec_ReadValue, T_spec_ReadValue, run_done, run_fail, run_ask, run_opt, run_inl, run_inr, Option.bind_some, apart_b, apart_i, apart_s, h1]
          dsimp only [em] at ho
          simp only [run_done, run_fail, run_ask, run_opt, run_inl, run_inr, Option.bind_some, apart_b, apart_i, apart_s, te, b0, hg, k39, e39, tT, bT, tF, bF, ho]
          simp
        · have bF : (s.toList == [70, 65, 76, 83, 69]) = false := by simpa using hF
          by_cases h35 : c = 35
          · have n35 : s.toList.head? = some 35 := by rw [hd, h35]
            have e35 : (some c == some 35) = true := by rw [h35]; rfl
            have hc : candV s = (if idxN s = 0 then (0, 0, em) else (4, idxN s, em)) := by unfold candV; rw [if_neg n39, if_neg hF, if_neg hT, if_pos n35]
            have hin := idxN_in s
            have ho : okV 4 (idxN s) (⟨#[]⟩ : ByteArray) = !(idxN s == 0) := by
              by_cases hz : idxN s = 0
              · simp [okV, toList_nil, hz]
              · have hr : 1 ≤ idxN s ∧ idxN s ≤ 5 := by omega
                simp [okV, toList_nil, hr, hz]
            have hv : readV s = if idxN s = 0 then (0, 0, ⟨#[]⟩, false) else (4, idxN s, ⟨#[]⟩, true) := by
              unfold readV
              rw [hc]
              by_cases hz : idxN s = 0
              · simp only [if_pos hz]
                rw [if_neg (fun h => h0 (by rw [← h.2, vtext_blank]; exact te))]
              · simp only [if_neg hz]
                have ho' : okV 4 (idxN s) em = true := by show okV 4 (idxN s) ⟨#[]⟩ = true; rw [ho]; simpa using hz
                rw [if_pos ⟨ho', by show (nameS (idxN s)).toList = s.toList; rw [idxN_ne hz]⟩]
                rfl
            rw [hv]
            obtain ⟨n1, h1⟩ := ev_spec_ValueOk 4 (idxN s) ⟨#[]⟩ (by decide)
            obtain ⟨n3, h3⟩ := ev_all5 (F := F_spec_l2Name) (f := nameS) (lo := 0) (by decide) ev_spec_l2Name
            refine ⟨n1 + n3 + 10, fun n hn => ?_⟩
            obtain ⟨m, rfl, hm⟩ := up1 hn
            have h1 := h1 m (by omega)
            dsimp only at h1
            obtain ⟨_, _, lp⟩ := spec_rv_loop m s 0 0 ⟨#[]⟩ (h3 m (by omega)) 5 1 0 m (by decide) (by decide) (by omega)
            rw [updK_54] at lp
            simp only [F_spec_ReadValue, T_spec_ReadValue, run_done, run_fail, run_ask, run_opt, run_inl, run_inr, Option.bind_some, apart_b, apart_i, apart_s, te, b0, hg, k39, e39, tT, bT, tF, bF, k35, e35, lp, h1, ho]
            by_cases hz : idxN s = 0 <;> simp [hz]
          · have n35 : ¬ s.toList.head? = some 35 := by rw [hd]; simpa using h35
            have e35 : (some c == some 35) = false := by simpa using h35
            rw [readV_num n39 hF hT n35 h0, numR_case s hcr]
            dsimp only [em]
            by_cases h45 : c = 45
            · have e45 : (some c == some 45) = true := by rw [h45]; rfl
              have g16 : ∀ {q : List UInt8}, (l1I q 16).2 = true → (0 ≤ (l1I q 16).1 ∧ (l1I q 16).1 ≤ 10000000000000000) := fun {q} hq => by
                have p16 : (10 : Nat) ^ 16 = 10000000000000000 := by decide
                obtain ⟨a1, a2, a3, a4⟩ := l1I_true hq
                rw [a3]
                simp only [canon, Bool.and_eq_true] at a2
                have := dval_lt q 0 0 a2.1.2 (by decide)
                have h2 : (10 : Nat) ^ (0 + q.length) ≤ 10 ^ 16 := Nat.pow_le_pow_right (by decide) (by omega)
                omega
              have hl := ev_spec_l1Int (s.extract (1 : Int).toNat ((s.size : Int)).toNat) 16 (by decide)
              rw [ext1] at hl
              have hrange := @g16 s.toList.tail
              generalize l1I s.toList.tail 16 = q at *
              obtain ⟨x, ok⟩ := q
              have w1 : ok = true → IntKind.i64.wrap (0 - x) = -x := fun h => by
                have := hrange h
                dsimp only at this
                rw [Int.zero_sub]; exact wrap64 (by omega)
              obtain ⟨n1, h1⟩ := hl
              obtain ⟨n2, h2⟩ := ev_spec_ValueOk 1 (-x) ⟨#[]⟩ (by decide)
              refine ⟨n1 + n2 + 1, fun n hn => ?_⟩
              obtain ⟨m, rfl, hm⟩ := up1 hn
              have h1 := h1 m (by omega)
              dsimp only at h1
              have h2 := h2 m (by omega)
              dsimp only at h2
              simp only [F_spec_ReadValue, T_spec_ReadValue, run_done, run_fail, run_ask, run_opt, run_inl, run_inr, Option.bind_some, apart_b, apart_i, apart_s, h1, h2]
              simp only [run_done, run_fail, run_ask, run_opt, run_inl, run_inr, Option.bind_some, apart_b, apart_i, apart_s, te, b0, hg, k39, e39, tT, bT, tF, bF, k35, e35, k45, e45, h45, if_true]
              cases ok with
              | false => simp [s1]
              | true =>
                simp only [run_done, run_fail, run_ask, run_opt, run_inl, run_inr, Option.bind_some, apart_b, apart_i, apart_s, w1 rfl, h2]
                by_cases hx : x = 0
                · simp [s1, hx]
                · cases ho : okV 1 (-x) (⟨#[]⟩ : ByteArray) <;> simp [s1, hx, ho]
            · have e45 : (some c == some 45) = false := by simpa using h45
              have hl := ev_spec_l1Int s 16 (by decide)
              generalize l1I s.toList 16 = q at *
              obtain ⟨x, ok⟩ := q
              obtain ⟨n1, h1⟩ := hl
              obtain ⟨n2, h2⟩ := ev_spec_ValueOk 1 x ⟨#[]⟩ (by decide)
              refine ⟨n1 + n2 + 1, fun n hn => ?_⟩
              obtain ⟨m, rfl, hm⟩ := up1 hn
              have h1 := h1 m (by omega)
              dsimp only at h1
              have h2 := h2 m (by omega)
              dsimp only at h2
              simp only [F_spec_ReadValue, T_spec_ReadValue, run_done, run_fail, run_ask, run_opt, run_inl, run_inr, Option.bind_some, apart_b, apart_i, apart_s, h1, h2]
              simp only [run_done, run_fail, run_ask, run_opt, run_inl, run_inr, Option.bind_some, apart_b, apart_i, apart_s, te, b0, hg, k39, e39, tT, bT, tF, bF, k35, e35, k45, e45, if_neg h45]
              cases ok with
              | false => simp
              | true => cases ho : okV 1 x (⟨#[]⟩ : ByteArray) <;> simp [ho]
theorem law (s : ByteArray) (hb : s.size ≤ 140737488351232) : Ev (F_laws_FnExactReadValue · s) true := by
  by_cases h : (s.size : Int) > 1048576
  · refine ⟨1, fun n hn => ?_⟩
    obtain ⟨m, rfl, hm⟩ := up1 hn
    simp only [F_laws_FnExactReadValue, T_laws_FnExactReadValue, run_done, run_fail, run_ask, run_opt, run_inl, run_inr, Option.bind_some, apart_b, apart_i, apart_s]
    simp [h]
  · obtain ⟨n1, h1⟩ := ev_spec_ReadValue s (by omega)
    obtain ⟨n2, h2⟩ := ev_impl_ReadValue s (by omega)
    obtain ⟨n3, h3⟩ := ev_laws_eqValue (readV s).1 (readV s).2.1 (readV s).2.2.1
    refine ⟨n1 + n2 + n3 + 1, fun n hn => ?_⟩
    obtain ⟨m, rfl, hm⟩ := up1 hn
    have h1 := h1 m (by omega)
    dsimp only at h1
    have h2 := h2 m (by omega)
    dsimp only at h2
    have h3 := h3 m (by omega)
    dsimp only at h3
    simp only [F_laws_FnExactReadValue, T_laws_FnExactReadValue, run_done, run_fail, run_ask, run_opt, run_inl, run_inr, Option.bind_some, apart_b, apart_i, apart_s, h1, h2, h3]
    simp [h]
end Go.Proofs.YtaannlnlddbgdaaDoor.KFnExactReadValue
