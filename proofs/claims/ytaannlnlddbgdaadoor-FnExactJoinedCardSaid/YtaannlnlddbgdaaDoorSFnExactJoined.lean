/-
  What the functions that FnExactJoined calls answer, said of their trees. No condition beside those that stand in the statements.
-/
import Derived.Test.YtaannlnlddbgdaaDoorTFnExactJoined
import Derived.Test.YtaannlnlddbgdaaDoorE32
import Derived.Lib.Strings
namespace Go.Proofs.YtaannlnlddbgdaaDoor.KFnExactJoined
open Go.Eng
set_option linter.unusedVariables false
set_option linter.unusedSimpArgs false
def Ev {R : Type} (F : Nat → Option R) (r : R) : Prop := ∃ n0, ∀ n, n0 ≤ n → F n = some r
theorem tl_len (s : ByteArray) : s.toList.length = s.size := by rw [Go.Lib.toList_data]; rfl
theorem toList_nil : (ByteArray.mk #[]).toList = [] := by decide +kernel
theorem wf64 {x : Int} (h : (Lit.int .i64 x).wf = true) : -9223372036854775808 ≤ x ∧ x ≤ 9223372036854775807 := by
  simp only [Lit.wf, Bool.and_eq_true, decide_eq_true_eq] at h
  have h1 : IntKind.i64.min = -9223372036854775808 := by decide
  have h2 : IntKind.i64.max = 9223372036854775807 := by decide
  omega
theorem wrap64 {x : Int} (h : -9223372036854775808 ≤ x ∧ x ≤ 9223372036854775807) : IntKind.i64.wrap x = x := by
  unfold IntKind.wrap
  have e1 : (2 : Int) ^ (64 - 1) = 9223372036854775808 := by decide
  have e2 : (2 : Int) ^ 64 = 18446744073709551616 := by decide
  simp only [IntKind.signed, IntKind.bits, Bool.true_and, decide_eq_true_eq, e1, e2]
  split <;> omega
theorem wrap64_in (x : Int) : -9223372036854775808 ≤ IntKind.i64.wrap x ∧ IntKind.i64.wrap x ≤ 9223372036854775807 := by
  unfold IntKind.wrap
  have e1 : (2 : Int) ^ (64 - 1) = 9223372036854775808 := by decide
  have e2 : (2 : Int) ^ 64 = 18446744073709551616 := by decide
  simp only [IntKind.signed, IntKind.bits, Bool.true_and, decide_eq_true_eq, e1, e2]
  split <;> omega
theorem get_of_lt {s : ByteArray} {i : Nat} (h : i < s.size) : ∃ c, s.toList[i]? = some c := ⟨_, List.getElem?_eq_getElem (by rw [tl_len]; exact h)⟩
theorem drop_cons {α : Type} {s : List α} {i : Nat} {c : α} (h : s[i]? = some c) : s.drop i = c :: s.drop (i + 1) := by
  obtain ⟨h1, rfl⟩ := List.getElem?_eq_some_iff.1 h
  exact List.drop_eq_getElem_cons h1
theorem loopF_inl {V R : Type} {B : V → Tr (V ⊕ R)} {m : Nat} {v v' : V} (h : (B v).run = some (.inl v')) : loopF B (m + 1) v = loopF B m v' := by simp only [loopF, h]
theorem loopF_inr {V R : Type} {B : V → Tr (V ⊕ R)} {m : Nat} {v : V} {r : R} (h : (B v).run = some (.inr r)) : loopF B (m + 1) v = some r := by simp only [loopF, h]
theorem up1 {n n0 : Nat} (h : n0 + 1 ≤ n) : ∃ m, n = m + 1 ∧ n0 ≤ m := ⟨n - 1, by omega, by omega⟩
theorem run_done {α : Type} (x : α) : (Tr.done x).run = some x := rfl
theorem run_fail {α : Type} : (Tr.fail : Tr α).run = none := rfl
theorem run_ask {α : Type} (b : Bool) (t f : Tr α) : (Tr.ask b t f).run = if b = true then t.run else f.run := by cases b <;> rfl
theorem run_opt {α β : Type} (o : Option β) (k : β → Tr α) : (Tr.opt o k).run = o.bind fun x => (k x).run := by cases o <;> rfl
theorem run_inl {α β γ : Type} (x : β) (k : β → Tr α) (l : γ → Tr α) : (Tr.alt (.inl x) k l).run = (k x).run := rfl
theorem run_inr {α β γ : Type} (x : γ) (k : β → Tr α) (l : γ → Tr α) : (Tr.alt (.inr x) k l).run = (l x).run := rfl
theorem ev_list {α R : Type} {F : α → Nat → Option R} {f : α → R} : ∀ (l : List α), (∀ c ∈ l, Ev (F c) (f c)) → ∃ n0, ∀ n, n0 ≤ n → ∀ c ∈ l, F c n = some (f c)
  | [], _ => ⟨0, fun n _ c hc => by cases hc⟩
  | a :: l, h => by
    obtain ⟨n1, h1⟩ := h a (List.mem_cons_self ..)
    obtain ⟨n2, h2⟩ := ev_list l fun c hc => h c (List.mem_cons_of_mem _ hc)
    exact ⟨n1 + n2, fun n hn c hc => by
      rcases List.mem_cons.1 hc with rfl | hc
      · exact h1 n (by omega)
      · exact h2 n (by omega) c hc⟩
/-- a list that is written anew, place by place -/
theorem conv_loop {R : Type} {B : List (List PV) × Nat × Int × List (List PV) → Tr ((List (List PV) × Nat × Int × List (List PV)) ⊕ R)} {rows : List (List PV)} {z : List PV} {r : List (List PV) → R}
    (hs : ∀ (i : Nat) (acc : List (List PV)) (e : List PV), rows[i]? = some e → acc.length = rows.length → acc[i]? = some z → (B (rows, rows.length, (i : Int), acc)).run = some (.inl (rows, rows.length, ((i + 1 : Nat) : Int), acc.set i e)))
    (he : ∀ acc : List (List PV), acc.length = rows.length → (B (rows, rows.length, (rows.length : Int), acc)).run = some (.inr (r acc))) :
    ∀ (m i M : Nat), rows.length = i + m → m + 1 ≤ M → loopF B M (rows, rows.length, (i : Int), rows.take i ++ zrows z m) = some (r rows)
  | m, i, 0, h1, h2 => by omega
  | 0, i, M + 1, h1, h2 => by
    have hi : i = rows.length := by omega
    subst hi
    have e : rows.take rows.length ++ zrows z 0 = rows := by simp [zrows]
    rw [e, loopF_inr (he rows rfl)]
  | m + 1, i, M + 1, h1, h2 => by
    have hl : i < rows.length := by omega
    have hg := List.getElem?_eq_getElem hl
    have hlen : (rows.take i ++ zrows z (m + 1)).length = rows.length := by simp [zrows]; omega
    have hz : (rows.take i ++ zrows z (m + 1))[i]? = some z := by
      rw [List.getElem?_append_right (by simp; omega)]
      simp [zrows, Nat.min_eq_left (Nat.le_of_lt hl)]
    rw [loopF_inl (hs i _ _ hg hlen hz)]
    have e : (rows.take i ++ zrows z (m + 1)).set i rows[i] = rows.take (i + 1) ++ zrows z m := by
      have hx : zrows z (m + 1) = z :: zrows z m := by simp [zrows, List.replicate_succ]
      rw [hx, List.set_append_right (h := by simp; omega)]
      have : i - (rows.take i).length = 0 := by simp; omega
      rw [this, List.set_cons_zero, show rows.take (i + 1) = rows.take i ++ [rows[i]] from by rw [List.take_add_one, hg]; rfl, List.append_assoc]
      rfl
    rw [e]
    exact conv_loop hs he m (i + 1) M (by omega) (by omega)
theorem conv_all {R : Type} {B : List (List PV) × Nat × Int × List (List PV) → Tr ((List (List PV) × Nat × Int × List (List PV)) ⊕ R)} {rows : List (List PV)} {z : List PV} {r : List (List PV) → R} {M : Nat}
    (hs : ∀ (i : Nat) (acc : List (List PV)) (e : List PV), rows[i]? = some e → acc.length = rows.length → acc[i]? = some z → (B (rows, rows.length, (i : Int), acc)).run = some (.inl (rows, rows.length, ((i + 1 : Nat) : Int), acc.set i e)))
    (he : ∀ acc : List (List PV), acc.length = rows.length → (B (rows, rows.length, (rows.length : Int), acc)).run = some (.inr (r acc))) (hM : rows.length + 1 ≤ M) :
    loopF B M (rows, rows.length, 0, zrows z rows.length) = some (r rows) := by
  have := conv_loop (B := B) hs he rows.length 0 M (by omega) hM
  simpa using this
/-- a list held against itself -/
theorem eq_loop {R : Type} {B : List (List PV) × List (List PV) × Int → Tr ((List (List PV) × List (List PV) × Int) ⊕ R)} {rows : List (List PV)} {r : R}
    (hs : ∀ (i : Nat) (e : List PV), rows[i]? = some e → (B (rows, rows, (i : Int))).run = some (.inl (rows, rows, ((i + 1 : Nat) : Int)))) (he : (B (rows, rows, (rows.length : Int))).run = some (.inr r)) :
    ∀ (m i M : Nat), rows.length = i + m → m + 1 ≤ M → loopF B M (rows, rows, (i : Int)) = some r
  | m, i, 0, h1, h2 => by omega
  | 0, i, M + 1, h1, h2 => by
    have hi : i = rows.length := by omega
    subst hi
    rw [loopF_inr he]
  | m + 1, i, M + 1, h1, h2 => by
    have hg := List.getElem?_eq_getElem (l := rows) (i := i) (by omega)
    rw [loopF_inl (hs i _ hg)]
    exact eq_loop hs he m (i + 1) M (by omega) (by omega)
/-- a list's size, as far as it is not too great -/
theorem sz_loop {R : Type} {B : List (List PV) × Int × Int → Tr ((List (List PV) × Int × Int) ⊕ R)} {rows : List (List PV)}
    (hs : ∀ (i : Nat) (e : List PV) (x : Int), rows[i]? = some e → (∃ y, (B (rows, x, (i : Int))).run = some (.inl (rows, y, ((i + 1 : Nat) : Int)))) ∨ ∃ r, (B (rows, x, (i : Int))).run = some (.inr r)) (he : ∀ x, ∃ r, (B (rows, x, (rows.length : Int))).run = some (.inr r)) :
    ∀ (m i M : Nat) (x : Int), rows.length = i + m → m + 1 ≤ M → ∃ r, loopF B M (rows, x, (i : Int)) = some r
  | m, i, 0, x, h1, h2 => by omega
  | 0, i, M + 1, x, h1, h2 => by
    have hi : i = rows.length := by omega
    subst hi
    obtain ⟨r, hr⟩ := he x
    exact ⟨r, loopF_inr hr⟩
  | m + 1, i, M + 1, x, h1, h2 => by
    have hg := List.getElem?_eq_getElem (l := rows) (i := i) (by omega)
    rcases hs i _ x hg with ⟨y, hy⟩ | ⟨r, hr⟩
    · rw [loopF_inl hy]
      exact sz_loop hs he m (i + 1) M y (by omega) (by omega)
    · exact ⟨r, loopF_inr hr⟩
/-- rows of a shape, as a list of what stands in them -/
theorem rows_map {α : Type} {enc : α → List PV} {P : α → Prop} {sh : List Sh} (hd : ∀ e, okR sh e → ∃ a, e = enc a ∧ P a) : ∀ {rows : List (List PV)}, (∀ e ∈ rows, okR sh e) → ∃ l : List α, rows = l.map enc ∧ ∀ a ∈ l, P a
  | [], _ => ⟨[], rfl, fun a h => by cases h⟩
  | e :: rows, h => by
    obtain ⟨a, rfl, ha⟩ := hd e (h e (List.mem_cons_self ..))
    obtain ⟨l, rfl, hl⟩ := rows_map hd fun e he => h e (List.mem_cons_of_mem _ he)
    exact ⟨a :: l, rfl, fun b hb => by
      rcases List.mem_cons.1 hb with rfl | hb
      · exact ha
      · exact hl b hb⟩
theorem opt_eq {α β : Type} {o : Option β} {x : β} {k : β → Tr α} {y : Option α} (h : o = some x) (h2 : (k x).run = y) : (Tr.opt o k).run = y := by rw [h]; exact h2
theorem ask_t {α : Type} {b : Bool} {t f : Tr α} {y : Option α} (h : b = true) (h2 : t.run = y) : (Tr.ask b t f).run = y := by rw [h]; exact h2
theorem ask_f {α : Type} {b : Bool} {t f : Tr α} {y : Option α} (h : b = false) (h2 : f.run = y) : (Tr.ask b t f).run = y := by rw [h]; exact h2
theorem apart_b (b : Bool) : apartR (⟨(.c (.p (.b b))), [], []⟩ : Res) = true := rfl
theorem apart_i (x : Int) : apartR (⟨(.c (.p (.i .i64 x))), [], []⟩ : Res) = true := rfl
theorem apart_s (x : ByteArray) : apartR (⟨(.c (.p (.s x))), [], []⟩ : Res) = true := rfl
theorem ev_spec_l1In (x lo hi : Int) : Ev (F_spec_l1In · x lo hi) (decide (lo ≤ x ∧ x ≤ hi)) := by
  refine ⟨1, fun n hn => ?_⟩
  obtain ⟨m, rfl, hm⟩ := up1 hn
  simp only [F_spec_l1In, T_spec_l1In, run_done, run_fail, run_ask, run_opt, run_inl, run_inr, Option.bind_some, apart_b, apart_i, apart_s]
  by_cases h : x ≥ lo <;> simp [h]
theorem ev_impl_within (x lo hi : Int) : Ev (F_impl_within · x lo hi) (decide (lo ≤ x ∧ x ≤ hi)) := by
  refine ⟨1, fun n hn => ?_⟩
  obtain ⟨m, rfl, hm⟩ := up1 hn
  simp only [F_impl_within, T_impl_within, run_done, run_fail, run_ask, run_opt, run_inl, run_inr, Option.bind_some, apart_b, apart_i, apart_s]
  by_cases h : x ≥ lo <;> simp [h]
/-- the bytes from 32 to 126 -/
def okc (c : UInt8) : Bool := decide (32 ≤ c.toNat ∧ c.toNat ≤ 126)
def plainN (s : ByteArray) (most : Int) : Bool := s.toList.all okc && decide ((s.size : Int) ≤ most)
def okV (k n : Int) (s : ByteArray) : Bool :=
  if k = 2 then decide (n = 0) && plainN s 200 else (s.toList == []) && (if k = 0 then decide (n = 0) else if k = 1 then decide (-1000000000000000 ≤ n ∧ n ≤ 1000000000000000) else if k = 3 then decide (0 ≤ n ∧ n ≤ 1) else if k = 4 then decide (1 ≤ n ∧ n ≤ 5) else false)
theorem l2Plain_loop (n : Nat) (s : ByteArray) (hb : s.size ≤ 140737488351232) : ∀ (m i M : Nat), s.size = i + m → m + 1 ≤ M →
    loopF (B_spec_l2Plain_13 n) M (s, (i : Int)) = some (if (s.toList.drop i).all okc then .inr s else .inl false)
  | m, i, 0, h1, h2 => by omega
  | 0, i, M + 1, h1, h2 => by
    rw [loopF_inr (r := .inr s) (by simp [B_spec_l2Plain_13, run_done, run_fail, run_ask, run_opt, run_inl, run_inr, Option.bind_some, apart_b, apart_i, apart_s, show ¬ ((i : Int) < s.size) by omega])]
    rw [List.drop_eq_nil_of_le (by rw [tl_len]; omega)]
    rfl
  | m + 1, i, M + 1, h1, h2 => by
    obtain ⟨c, hc⟩ := get_of_lt (s := s) (i := i) (by omega)
    have hi : (i : Int) < s.size := by omega
    rw [drop_cons hc]
    by_cases c1 : (c.toNat : Int) < 32
    · rw [loopF_inr (r := .inl false) (by simp [B_spec_l2Plain_13, run_done, run_fail, run_ask, run_opt, run_inl, run_inr, Option.bind_some, apart_b, apart_i, apart_s, hi, hc, c1])]
      have : okc c = false := by simp [okc]; omega
      simp [this]
    · by_cases c2 : (c.toNat : Int) > 126
      · rw [loopF_inr (r := .inl false) (by simp [B_spec_l2Plain_13, run_done, run_fail, run_ask, run_opt, run_inl, run_inr, Option.bind_some, apart_b, apart_i, apart_s, hi, hc, c1, c2])]
        have : okc c = false := by simp [okc]; omega
        simp [this]
      · have hw : IntKind.i64.wrap ((i : Int) + 1) = ((i + 1 : Nat) : Int) := by rw [wrap64 (by omega)]; omega
        rw [loopF_inl (v' := (s, ((i + 1 : Nat) : Int))) (by simp [B_spec_l2Plain_13, run_done, run_fail, run_ask, run_opt, run_inl, run_inr, Option.bind_some, apart_b, apart_i, apart_s, hi, hc, c1, c2, hw])]
        rw [l2Plain_loop n s hb m (i + 1) M (by omega) (by omega)]
        have : okc c = true := by simp [okc]; omega
        simp [this]
theorem ev_spec_l2Plain (s : ByteArray) (hb : s.size ≤ 140737488351232) : Ev (F_spec_l2Plain · s) (plainN s 200) := by
  refine ⟨s.size + 2, fun n hn => ?_⟩
  obtain ⟨m, rfl, hm⟩ := up1 hn
  have h := l2Plain_loop m s hb s.size 0 m (by omega) (by omega)
  simp only [F_spec_l2Plain, T_spec_l2Plain, run_done, run_fail, run_ask, run_opt, run_inl, run_inr, Option.bind_some, apart_b, apart_i, apart_s]
  simp only [Int.natCast_zero, List.drop_zero] at h
  rw [h]
  cases hc : s.toList.all okc <;> simp [run_done, run_fail, run_ask, run_opt, run_inl, run_inr, Option.bind_some, apart_b, apart_i, apart_s, plainN, hc]
theorem isText_loop (n : Nat) (s : ByteArray) (y : Int) (hb : s.size ≤ 140737488351232) : ∀ (m i M : Nat), s.size = i + m → m + 1 ≤ M →
    loopF (B_impl_isText_13 n) M (s, y, (s.size : Int), (i : Int)) = some (if (s.toList.drop i).all okc then .inr (s, y) else .inl false)
  | m, i, 0, h1, h2 => by omega
  | 0, i, M + 1, h1, h2 => by
    rw [loopF_inr (r := .inr (s, y)) (by simp [B_impl_isText_13, run_done, run_fail, run_ask, run_opt, run_inl, run_inr, Option.bind_some, apart_b, apart_i, apart_s, show ¬ ((i : Int) < s.size) by omega])]
    rw [List.drop_eq_nil_of_le (by rw [tl_len]; omega)]
    rfl
  | m + 1, i, M + 1, h1, h2 => by
    obtain ⟨c, hc⟩ := get_of_lt (s := s) (i := i) (by omega)
    have hi : (i : Int) < s.size := by omega
    rw [drop_cons hc]
    by_cases c1 : (c.toNat : Int) < 32
    · rw [loopF_inr (r := .inl false) (by simp [B_impl_isText_13, run_done, run_fail, run_ask, run_opt, run_inl, run_inr, Option.bind_some, apart_b, apart_i, apart_s, hi, hc, c1])]
      have : okc c = false := by simp [okc]; omega
      simp [this]
    · by_cases c2 : (c.toNat : Int) > 126
      · rw [loopF_inr (r := .inl false) (by simp [B_impl_isText_13, run_done, run_fail, run_ask, run_opt, run_inl, run_inr, Option.bind_some, apart_b, apart_i, apart_s, hi, hc, c1, c2])]
        have : okc c = false := by simp [okc]; omega
        simp [this]
      · have hw : IntKind.i64.wrap ((i : Int) + 1) = ((i + 1 : Nat) : Int) := by rw [wrap64 (by omega)]; omega
        rw [loopF_inl (v' := (s, y, (s.size : Int), ((i + 1 : Nat) : Int))) (by simp [B_impl_isText_13, run_done, run_fail, run_ask, run_opt, run_inl, run_inr, Option.bind_some, apart_b, apart_i, apart_s, hi, hc, c1, c2, hw])]
        rw [isText_loop n s y hb m (i + 1) M (by omega) (by omega)]
        have : okc c = true := by simp [okc]; omega
        simp [this]
theorem ev_impl_isText (s : ByteArray) (y : Int) (hb : s.size ≤ 140737488351232) : Ev (F_impl_isText · s y) (plainN s y) := by
  refine ⟨s.size + 2, fun n hn => ?_⟩
  obtain ⟨m, rfl, hm⟩ := up1 hn
  have h := isText_loop m s y hb s.size 0 m (by omega) (by omega)
  simp only [F_impl_isText, T_impl_isText, run_done, run_fail, run_ask, run_opt, run_inl, run_inr, Option.bind_some, apart_b, apart_i, apart_s]
  simp only [Int.natCast_zero, List.drop_zero] at h
  rw [h]
  cases hc : s.toList.all okc <;> simp [run_done, run_fail, run_ask, run_opt, run_inl, run_inr, Option.bind_some, apart_b, apart_i, apart_s, plainN, hc]
theorem ev_spec_ValueOk (k x : Int) (s : ByteArray) (hb : s.size ≤ 140737488351232) : Ev (F_spec_ValueOk · k x s) (okV k x s) := by
  obtain ⟨n1, h1⟩ := ev_spec_l1In x (-1000000000000000) 1000000000000000
  obtain ⟨n2, h2⟩ := ev_spec_l1In x 0 1
  obtain ⟨n3, h3⟩ := ev_spec_l1In x 1 5
  obtain ⟨n4, h4⟩ := ev_spec_l2Plain s hb
  refine ⟨n1 + n2 + n3 + n4 + 1, fun n hn => ?_⟩
  obtain ⟨m, rfl, hm⟩ := up1 hn
  have h1 := h1 m (by omega)
  dsimp only at h1
  have h2 := h2 m (by omega)
  dsimp only at h2
  have h3 := h3 m (by omega)
  dsimp only at h3
  have h4 := h4 m (by omega)
  dsimp only at h4
  simp only [F_spec_ValueOk, T_spec_ValueOk, run_done, run_fail, run_ask, run_opt, run_inl, run_inr, Option.bind_some, apart_b, apart_i, apart_s, h1, h2, h3, h4]
  simp only [okV, toList_nil]
  by_cases k2 : k = 2
  · subst k2
    by_cases x0 : x = 0 <;> simp [x0]
  · by_cases k0 : k = 0
    · subst k0
      by_cases x0 : x = 0 <;> simp [x0]
    · by_cases k1 : k = 1
      · subst k1
        by_cases hx : -1000000000000000 ≤ x ∧ x ≤ 1000000000000000 <;> simp [hx]
      · by_cases k3 : k = 3
        · subst k3
          by_cases hx : 0 ≤ x ∧ x ≤ 1 <;> simp [hx]
        · by_cases k4 : k = 4
          · subst k4
            by_cases hx : 1 ≤ x ∧ x ≤ 5 <;> simp [hx]
          · simp [k0, k1, k2, k3, k4]
theorem ev_impl_ValueOk (k x : Int) (s : ByteArray) (hb : s.size ≤ 140737488351232) : Ev (F_impl_ValueOk · k x s) (okV k x s) := by
  obtain ⟨n1, h1⟩ := ev_impl_within x (-1000000000000000) 1000000000000000
  obtain ⟨n2, h2⟩ := ev_impl_within x 0 1
  obtain ⟨n3, h3⟩ := ev_impl_within x 1 5
  obtain ⟨n4, h4⟩ := ev_impl_isText s 200 hb
  refine ⟨n1 + n2 + n3 + n4 + 1, fun n hn => ?_⟩
  obtain ⟨m, rfl, hm⟩ := up1 hn
  have h1 := h1 m (by omega)
  dsimp only at h1
  have h2 := h2 m (by omega)
  dsimp only at h2
  have h3 := h3 m (by omega)
  dsimp only at h3
  have h4 := h4 m (by omega)
  dsimp only at h4
  simp only [F_impl_ValueOk, T_impl_ValueOk, run_done, run_fail, run_ask, run_opt, run_inl, run_inr, Option.bind_some, apart_b, apart_i, apart_s, h1, h2, h3, h4]
  simp only [okV, toList_nil]
  by_cases k2 : k = 2
  · subst k2
    by_cases x0 : x = 0 <;> simp [x0]
  · by_cases he : s.toList = []
    · by_cases k0 : k = 0
      · subst k0
        by_cases x0 : x = 0 <;> simp [x0, he]
      · by_cases k1 : k = 1
        · subst k1; simp [he]
        · by_cases k3 : k = 3
          · subst k3; simp [he]
          · by_cases k4 : k = 4
            · subst k4; simp [he]
            · simp [k0, k1, k2, k3, k4, he]
    · simp [k2, he]
abbrev V3 := Int × Int × ByteArray
def em : ByteArray := ⟨#[]⟩
/-- a value as a number; else what is answered -/
def num (k x : Int) (s : ByteArray) : Int ⊕ V3 := if okV k x s = true then (if k = 0 ∨ k = 1 then .inl x else if k = 4 then .inr (k, x, s) else .inr (4, 2, em)) else .inr (4, 2, em)
def fin64 (z : Int) : V3 := if -1000000000000000 ≤ z ∧ z ≤ 1000000000000000 then (1, z, em) else (4, 4, em)
def arith (op : Int → Int → V3) (k x : Int) (s : ByteArray) (k' x' : Int) (s' : ByteArray) : V3 := match num k x s with
  | .inr e => e
  | .inl a => match num k' x' s' with
    | .inr e => e
    | .inl b => op a b
theorem num_inr {k x : Int} {s : ByteArray} {e : V3} (h : num k x s = .inr e) : e.1 = 4 := by
  unfold num at h
  split at h
  · split at h
    · cases h
    · split at h
      · cases h; assumption
      · cases h; rfl
  · cases h; rfl
theorem num_ne {k x : Int} {s : ByteArray} {e : V3} (h : num k x s = .inr e) : ¬ e.1 = 0 := by rw [num_inr h]; decide
theorem num_inl {k x : Int} {s : ByteArray} {a : Int} (h : num k x s = .inl a) : -1000000000000000 ≤ a ∧ a ≤ 1000000000000000 := by
  unfold num at h
  split at h
  · rename_i ho
    split at h
    · rename_i hk
      cases h
      unfold okV at ho
      rcases hk with rfl | rfl
      · simp at ho; omega
      · simp at ho; exact ho.2
    · split at h <;> cases h
  · cases h
theorem ev_spec_l2Error (x : Int) : Ev (F_spec_l2Error · x) (4, x, em) := by
  refine ⟨1, fun n hn => ?_⟩
  obtain ⟨m, rfl, hm⟩ := up1 hn
  simp only [F_spec_l2Error, T_spec_l2Error, run_done, run_fail, run_ask, run_opt, run_inl, run_inr, Option.bind_some, apart_b, apart_i, apart_s]
  rfl
theorem ev_impl_fault (x : Int) : Ev (F_impl_fault · x) (4, x, em) := by
  refine ⟨1, fun n hn => ?_⟩
  obtain ⟨m, rfl, hm⟩ := up1 hn
  simp only [F_impl_fault, T_impl_fault, run_done, run_fail, run_ask, run_opt, run_inl, run_inr, Option.bind_some, apart_b, apart_i, apart_s]
  rfl
theorem ev_impl_none (k x : Int) (s : ByteArray) (hb : s.size ≤ 140737488351232) {e : V3} (h : num k x s = .inr e) : Ev (F_impl_none · k x s) e := by
  obtain ⟨n1, h1⟩ := ev_impl_ValueOk k x s hb
  obtain ⟨n2, h2⟩ := ev_impl_fault 2
  refine ⟨n1 + n2 + 1, fun n hn => ?_⟩
  obtain ⟨m, rfl, hm⟩ := up1 hn
  have h1 := h1 m (by omega)
  dsimp only at h1
  have h2 := h2 m (by omega)
  dsimp only at h2
  simp only [F_impl_none, T_impl_none, run_done, run_fail, run_ask, run_opt, run_inl, run_inr, Option.bind_some, apart_b, apart_i, apart_s, h1, h2]
  unfold num at h
  cases ho : okV k x s with
  | false => rw [ho] at h; cases h; simp
  | true =>
    rw [ho] at h
    by_cases k4 : k = 4
    · subst k4; simp at h; simp [h]
    · by_cases k0 : k = 0 ∨ k = 1
      · simp [k0] at h
      · simp [k0, k4] at h; simp [k4, h]
theorem ev_laws_szValue (k x : Int) (s : ByteArray) (left : Int) : ∃ r, Ev (F_laws_szValue · k x s left) r := by
  by_cases h : IntKind.i64.wrap (left - s.size) < 0
  · refine ⟨-1, ?_⟩
    refine ⟨1, fun n hn => ?_⟩
    obtain ⟨m, rfl, hm⟩ := up1 hn
    simp only [F_laws_szValue, T_laws_szValue, run_done, run_fail, run_ask, run_opt, run_inl, run_inr, Option.bind_some, apart_b, apart_i, apart_s]
    simp [h]
  · refine ⟨IntKind.i64.wrap (left - s.size), ?_⟩
    refine ⟨1, fun n hn => ?_⟩
    obtain ⟨m, rfl, hm⟩ := up1 hn
    simp only [F_laws_szValue, T_laws_szValue, run_done, run_fail, run_ask, run_opt, run_inl, run_inr, Option.bind_some, apart_b, apart_i, apart_s]
    simp [h]
theorem ev_laws_toValue (k x : Int) (s : ByteArray) : Ev (F_laws_toValue · k x s) (k, x, s) := by
  refine ⟨1, fun n hn => ?_⟩
  obtain ⟨m, rfl, hm⟩ := up1 hn
  simp only [F_laws_toValue, T_laws_toValue, run_done, run_fail, run_ask, run_opt, run_inl, run_inr, Option.bind_some, apart_b, apart_i, apart_s]
theorem ev_laws_eqValue (k x : Int) (s : ByteArray) : Ev (F_laws_eqValue · k x s k x s) true := by
  refine ⟨1, fun n hn => ?_⟩
  obtain ⟨m, rfl, hm⟩ := up1 hn
  simp only [F_laws_eqValue, T_laws_eqValue, run_done, run_fail, run_ask, run_opt, run_inl, run_inr, Option.bind_some, apart_b, apart_i, apart_s]
  simp
def absI (x : Int) : Int := if x < 0 then -x else x
def timesV (a b : Int) : V3 := if a = 0 ∨ b = 0 then fin64 0 else if absI a > Int.tdiv 1000000000000000 (absI b) then (4, 4, em) else fin64 (IntKind.i64.wrap (a * b))
theorem tdiv_in {b : Int} (h : 1 ≤ b) : 0 ≤ Int.tdiv 1000000000000000 b ∧ Int.tdiv 1000000000000000 b ≤ 1000000000000000 := by
  rw [Int.tdiv_eq_ediv_of_nonneg (by decide)]
  exact ⟨Int.ediv_nonneg (by decide) (by omega), Int.ediv_le_self _ (by decide)⟩
def okRef (c r : Int) : Bool := decide (1 ≤ c ∧ c ≤ 52) && decide (1 ≤ r ∧ r ≤ 99)
def okArea (a b c d : Int) : Bool := okRef a b && okRef c d && decide (a ≤ c) && decide (b ≤ d)
abbrev A5 := Int × Int × Int × Int × Bool
def common (x0 x1 x2 x3 x4 x5 x6 x7 : Int) : A5 :=
  if okArea x0 x1 x2 x3 = true ∧ okArea x4 x5 x6 x7 = true ∧ okArea (if x4 > x0 then x4 else x0) (if x5 > x1 then x5 else x1) (if x6 < x2 then x6 else x2) (if x7 < x3 then x7 else x3) = true then
    ((if x4 > x0 then x4 else x0), (if x5 > x1 then x5 else x1), (if x6 < x2 then x6 else x2), (if x7 < x3 then x7 else x3), true) else (0, 0, 0, 0, false)
def cmpI (x y : Int) : Int := if x < y then -1 else if x > y then 1 else 0
def cmpS (x y : ByteArray) : Int := if Op.bytesLess x.toList y.toList = true then -1 else if x.toList = y.toList then 0 else 1
def firstNZ : List Int → Int
  | [] => 0
  | x :: r => if x ≠ 0 then x else firstNZ r
def ordV (k x : Int) (s : ByteArray) (k' x' : Int) (s' : ByteArray) : Int := firstNZ [cmpI k k', cmpI x x', cmpS s s']
def heldB (op o : Int) : Bool := if op = 6 then o == 0 else if op = 7 then o != 0 else if op = 8 then decide (o < 0) else if op = 9 then decide (o ≤ 0) else if op = 10 then decide (o > 0) else decide (o ≥ 0)
def held (op k x : Int) (s : ByteArray) (k' x' : Int) (s' : ByteArray) : Int × Int × ByteArray :=
  if okV k x s = true ∧ okV k' x' s' = true ∧ 6 ≤ op ∧ op ≤ 11 then
    (if k = 4 then (k, x, s) else if k' = 4 then (k', x', s') else (3, if heldB op (ordV (if k = 0 then k' else k) x s (if k' = 0 then k else k') x' s') = true then 1 else 0, em))
  else (4, 2, em)
abbrev CVt := Int × Int × Int × Int × ByteArray
def encCV (c : CVt) : List PV := [.i .i64 c.1, .i .i64 c.2.1, .i .i64 c.2.2.1, .i .i64 c.2.2.2.1, .s c.2.2.2.2]
theorem rows_cv {rows : List (List PV)} (h : ∀ e ∈ rows, okR [.i .i64, .i .i64, .i .i64, .i .i64, .s] e) : ∃ l : List CVt, rows = l.map encCV ∧ ∀ c ∈ l, c.2.2.2.2.size ≤ 140737488351232 := by
  refine rows_map (fun e h => ?_) h
  obtain ⟨c0, t0, rfl, p0, h⟩ := okR_cons h
  obtain ⟨c1, t1, rfl, p1, h1⟩ := okR_cons h
  obtain ⟨c2, t2, rfl, p2, h2⟩ := okR_cons h1
  obtain ⟨c3, t3, rfl, p3, h3⟩ := okR_cons h2
  obtain ⟨c4, t4, rfl, p4, h4⟩ := okR_cons h3
  obtain rfl := okR_nil h4
  obtain ⟨x0, rfl, _⟩ := okP_i p0
  obtain ⟨x1, rfl, _⟩ := okP_i p1
  obtain ⟨x2, rfl, _⟩ := okP_i p2
  obtain ⟨x3, rfl, _⟩ := okP_i p3
  obtain ⟨x4, rfl, w⟩ := okP_s p4
  exact ⟨(x0, x1, x2, x3, x4), rfl, w⟩
theorem cv_get {l : List CVt} {i : Nat} {e : List PV} (h : (l.map encCV)[i]? = some e) : ∃ c, l[i]? = some c ∧ e = encCV c := by
  rw [List.getElem?_map] at h
  obtain ⟨c, h1, h2⟩ := Option.map_eq_some_iff.1 h
  exact ⟨c, h1, h2.symm⟩
theorem un_laws_szValue (n : Nat) (k x : Int) (s : ByteArray) (left : Int) : ∃ r, F_laws_szValue (n + 1) k x s left = some r := by
  simp only [F_laws_szValue, T_laws_szValue, run_done, run_fail, run_ask, run_opt, run_inl, run_inr, Option.bind_some, apart_b, apart_i, apart_s]
  by_cases h : IntKind.i64.wrap (left - s.size) < 0
  · exact ⟨-1, by simp [h]⟩
  · exact ⟨IntKind.i64.wrap (left - s.size), by simp [h]⟩
theorem un_laws_eqValue (n : Nat) (k x : Int) (s : ByteArray) : F_laws_eqValue (n + 1) k x s k x s = some true := by
  simp only [F_laws_eqValue, T_laws_eqValue, run_done, run_fail, run_ask, run_opt, run_inl, run_inr, Option.bind_some, apart_b, apart_i, apart_s]
  simp
def ahead (a b c d : Int) : Bool := decide (b < d ∨ (b = d ∧ a < c))
/-- a value at its place -/
def cvOk (l : List CVt) (i : Nat) (c : CVt) : Bool := okRef c.1 c.2.1 && okV c.2.2.1 c.2.2.2.1 c.2.2.2.2 && (match i with | 0 => true | j + 1 => match l[j]? with | some p => ahead p.1 p.2.1 c.1 c.2.1 | none => true)
def cvFrom (l : List CVt) : Nat → List CVt → Bool
  | _, [] => true
  | i, c :: r => cvOk l i c && cvFrom l (i + 1) r
def cvsOk (l : List CVt) : Bool := cvFrom l 0 l && decide ((l.length : Int) ≤ 120)
theorem ahead_cmp (a b c d : Int) : decide (firstNZ [cmpI b d, cmpI a c] ≥ 0) = !(ahead a b c d) := by
  unfold firstNZ firstNZ firstNZ cmpI ahead
  by_cases h1 : b < d
  · simp [h1]
  · by_cases h2 : b > d
    · have : ¬ b = d := by omega
      simp [h1, h2, this]
    · have : b = d := by omega
      subst this
      by_cases h3 : a < c
      · simp [h3]
      · by_cases h4 : a > c <;> simp [h3, h4]
/-- what stands at a place -/
def cvAt (c r : Int) : List CVt → V3
  | [] => (0, 0, em)
  | p :: l => if p.1 = c ∧ p.2.1 = r then (p.2.2.1, p.2.2.2.1, p.2.2.2.2) else cvAt c r l
def cvIn (c r : Int) : List CVt → Bool
  | [] => false
  | p :: l => decide (p.1 = c ∧ p.2.1 = r) || cvIn c r l
theorem cvAt_out (c r : Int) : ∀ {l : List CVt}, cvIn c r l = false → cvAt c r l = (0, 0, em)
  | [], _ => rfl
  | p :: l, h => by
    simp only [cvIn, Bool.or_eq_false_iff, decide_eq_false_iff_not] at h
    simp only [cvAt, if_neg h.1, cvAt_out c r h.2]
abbrev Ch := Int × Int × ByteArray × ByteArray
def encCh (c : Ch) : List PV := [.i .i64 c.1, .i .i64 c.2.1, .s c.2.2.1, .s c.2.2.2]
theorem rows_ch {rows : List (List PV)} (h : ∀ e ∈ rows, okR [.i .i64, .i .i64, .s, .s] e) : ∃ l : List Ch, rows = l.map encCh ∧ ∀ c ∈ l, True := by
  refine rows_map (fun e h => ?_) h
  obtain ⟨c0, t0, rfl, p0, h⟩ := okR_cons h
  obtain ⟨c1, t1, rfl, p1, h1⟩ := okR_cons h
  obtain ⟨c2, t2, rfl, p2, h2⟩ := okR_cons h1
  obtain ⟨c3, t3, rfl, p3, h3⟩ := okR_cons h2
  obtain rfl := okR_nil h3
  obtain ⟨x0, rfl, _⟩ := okP_i p0
  obtain ⟨x1, rfl, _⟩ := okP_i p1
  obtain ⟨x2, rfl, _⟩ := okP_s p2
  obtain ⟨x3, rfl, _⟩ := okP_s p3
  exact ⟨(x0, x1, x2, x3), rfl, trivial⟩
theorem ch_get {l : List Ch} {i : Nat} {e : List PV} (h : (l.map encCh)[i]? = some e) : ∃ c, l[i]? = some c ∧ e = encCh c := by
  rw [List.getElem?_map] at h
  obtain ⟨c, h1, h2⟩ := Option.map_eq_some_iff.1 h
  exact ⟨c, h1, h2.symm⟩
theorem apart_ch (m sz ty : Nat) (l : List Ch) : apartR (⟨(.c (.own 0 0 0 m)), [], [⟨0, sz, ty, (.row (l.map encCh))⟩]⟩ : Res) = true := by
  simp [apartR, AV.cvs, flatO, flatB, encCh, CV.flat]
def swp (c : Ch) : Ch := (c.1, c.2.1, c.2.2.2, c.2.2.1)
def turnedL (l : List Ch) : List Ch := (l.map swp).reverse
theorem ev_of {R : Type} {F : Nat → Option R} {r : R} {k : Nat} (h : ∀ n, k ≤ n → F n = some r) : Ev F r := ⟨k, h⟩
theorem wf8 {x : Int} (h : (Lit.int .u8 x).wf = true) : 0 ≤ x ∧ x ≤ 255 := by
  simp only [Lit.wf, Bool.and_eq_true, decide_eq_true_eq] at h
  have h1 : IntKind.u8.min = 0 := by decide
  have h2 : IntKind.u8.max = 255 := by decide
  omega
theorem wrapu_in (x : Int) : 0 ≤ IntKind.u64.wrap x ∧ IntKind.u64.wrap x ≤ 18446744073709551615 := by
  unfold IntKind.wrap
  have e2 : (2 : Int) ^ 64 = 18446744073709551616 := by decide
  simp only [IntKind.signed, IntKind.bits, Bool.false_and, Bool.false_eq_true, if_false, e2]
  omega
theorem wrapu {x : Int} (h : 0 ≤ x ∧ x ≤ 18446744073709551615) : IntKind.u64.wrap x = x := by
  unfold IntKind.wrap
  have e2 : (2 : Int) ^ 64 = 18446744073709551616 := by decide
  simp only [IntKind.signed, IntKind.bits, Bool.false_and, Bool.false_eq_true, if_false, e2]
  omega
/-- a reader's bytes -/
def RdOk (l : List (List PV)) : Prop := l.length ≤ 1048576 ∧ ∀ e ∈ l, ∃ b : Int, e = [.i .u8 b] ∧ 0 ≤ b ∧ b ≤ 255
theorem rdOk_of {l : List (List PV)} (w : ∀ r ∈ l, okR [.i .u8] r) (h : ¬ (l.length : Int) > 1048576) : RdOk l := by
  refine ⟨by omega, fun e he => ?_⟩
  obtain ⟨x, r, rfl, h1, h2⟩ := okR_cons (w e he)
  obtain ⟨n, rfl, h3⟩ := okP_i h1
  obtain rfl := okR_nil h2
  exact ⟨n, rfl, wf8 h3⟩
def rng (a : Int) : Nat → List Int
  | 0 => []
  | n + 1 => a :: rng (a + 1) n
theorem rng_len : ∀ (n : Nat) (a : Int), (rng a n).length = n
  | 0, a => rfl
  | n + 1, a => by simp [rng, rng_len n]
def encRf (x : Int × Int) : List PV := [.i .i64 x.1, .i .i64 x.2]
def rowC (a : Int) (n : Nat) (r : Int) : List (Int × Int) := (rng a n).map fun x => (x, r)
def cellsP (a b c d : Int) : List (Int × Int) := (rng b (d - b + 1).toNat).flatMap fun r => rowC a (c - a + 1).toNat r
def decS (x : Int) : ByteArray := ⟨(Lib.itoa x).toArray⟩
theorem ba_app (a b : ByteArray) : (a ++ b).data.toList = a.data.toList ++ b.data.toList := by
  rw [ByteArray.data_append, Array.toList_append]
theorem ba_eq {a b : ByteArray} (h : a.data.toList = b.data.toList) : a = b := by
  cases a; cases b
  congr 1
  exact Array.toList_inj.1 h
theorem ba_size (a : ByteArray) : a.size = a.data.toList.length := by rw [Array.length_toList]; rfl
theorem u8w {q : Nat} (h : q < 10) : IntKind.u8.wrap (IntKind.i64.wrap (48 + (q : Int))) = ((48 + q : Nat) : Int) := by
  rw [wrap64 (by omega)]
  unfold IntKind.wrap
  have e2 : (2 : Int) ^ 8 = 256 := by decide
  simp only [IntKind.signed, IntKind.bits, Bool.false_and, Bool.false_eq_true, if_false, e2]
  omega
theorem l1Dec_loop (n : Nat) : ∀ (f u : Nat) (s : ByteArray), u < 10 ^ (f + 1) → u ≤ 9223372036854775807 → s.size + f ≤ 1000 → ∃ (q : Nat) (t : ByteArray), q < 10 ∧ t.size ≤ s.size + f ∧ UInt8.ofNat (48 + q) :: t.data.toList = Lib.decDigits u ++ s.data.toList ∧ ∀ M, f + 1 ≤ M → loopF (B_spec_l1Dec_30 n) M ((u : Int), s) = some ((q : Int), t)
  | f, u, s, h1, h2, h3 => by
    by_cases h : u < 10
    · refine ⟨u, s, h, by omega, by rw [Lib.decDigits, dif_pos h]; rfl, fun M hM => ?_⟩
      obtain ⟨M, rfl⟩ : ∃ k, M = k + 1 := ⟨M - 1, by omega⟩
      have hc : ¬ (u : Int) ≥ 10 := by omega
      rw [loopF_inr (r := ((u : Int), s)) (by simp [B_spec_l1Dec_30, run_done, run_fail, run_ask, run_opt, run_inl, run_inr, Option.bind_some, apart_b, apart_i, apart_s, hc])]
    · cases f with
      | zero => simp at h1; omega
      | succ f =>
        have e1 : Int.tmod (u : Int) 10 = ((u % 10 : Nat) : Int) := by rw [Int.tmod_eq_emod_of_nonneg (by omega)]; omega
        have e2 : IntKind.i64.wrap (Int.tdiv (u : Int) 10) = ((u / 10 : Nat) : Int) := by
          rw [Int.tdiv_eq_ediv_of_nonneg (by omega), wrap64 (by omega)]; omega
        have e3 := u8w (q := u % 10) (by omega)
        have h4 : u / 10 < 10 ^ (f + 1) := by
          have : 10 ^ (f + 1 + 1) = 10 ^ (f + 1) * 10 := Nat.pow_succ 10 (f + 1)
          omega
        let d : ByteArray := ⟨#[UInt8.ofNat (48 + u % 10)]⟩
        have hd : d.size = 1 := rfl
        have hs : (d ++ s).size = s.size + 1 := by rw [ByteArray.size_append]; omega
        obtain ⟨q, t, g1, g2, g3, g4⟩ := l1Dec_loop n f (u / 10) (d ++ s) h4 (by omega) (by omega)
        refine ⟨q, t, g1, by omega, ?_, fun M hM => ?_⟩
        · rw [g3, ba_app, Lib.decDigits.eq_1 u, dif_neg h]
          simp [d]
        · obtain ⟨M, rfl⟩ : ∃ k, M = k + 1 := ⟨M - 1, by omega⟩
          have hc : (u : Int) ≥ 10 := by omega
          have hz : d.size + s.size ≤ 9223372036854775807 := by omega
          rw [loopF_inl (v' := (((u / 10 : Nat) : Int), d ++ s)) (by
            simp only [B_spec_l1Dec_30, run_done, run_fail, run_ask, run_opt, run_inl, run_inr, Option.bind_some, apart_b, apart_i, apart_s, e1, e2, e3, bytesOf, Option.map_some, Int.toNat_natCast]
            rw [if_pos (by simpa using hc), if_pos (by simp), if_pos (decide_eq_true hz)])]
          exact g4 M (by omega)
theorem dec_len (u : Nat) (h : u ≤ 1000000000000000000) : (Lib.decDigits u).length ≤ 19 := by
  have p : (10 : Nat) ^ (18 + 1) = 10000000000000000000 := by decide
  obtain ⟨q, t, g1, g2, g3, g4⟩ := l1Dec_loop 0 18 u ⟨#[]⟩ (by omega) (by omega) (by show 0 + 18 ≤ 1000; decide)
  have := congrArg List.length g3
  simp at this
  have g2 : t.size ≤ 0 + 18 := g2
  rw [ba_size] at g2
  simp at g2
  omega
theorem un_l1Dec_pos (u : Nat) (h : u ≤ 1000000000000000000) : ∀ n, 25 ≤ n → F_spec_l1Dec n (u : Int) = some (decS u) := by
  intro n hn
  obtain ⟨m, rfl, hm⟩ := up1 hn
  have p : (10 : Nat) ^ (18 + 1) = 10000000000000000000 := by decide
  obtain ⟨q, t, g1, g2, g3, g4⟩ := l1Dec_loop m 18 u ⟨#[]⟩ (by omega) (by omega) (by show 0 + 18 ≤ 1000; decide)
  have g4 := g4 m (by omega)
  have e3 := u8w g1
  have hc : ¬ (u : Int) < 0 := by omega
  have hz : (⟨#[UInt8.ofNat (48 + q)]⟩ : ByteArray).size + t.size ≤ 9223372036854775807 := by
    have g2 : t.size ≤ 0 + 18 := g2
    show 1 + t.size ≤ _
    omega
  simp only [F_spec_l1Dec, T_spec_l1Dec, run_done, run_fail, run_ask, run_opt, run_inl, run_inr, Option.bind_some, apart_b, apart_i, apart_s, g4, e3, bytesOf, Option.map_some, Int.toNat_natCast]
  rw [if_neg (by simp), if_pos (by simp), if_pos (decide_eq_true hz)]
  congr 1
  apply ba_eq
  rw [ba_app]
  have e : Lib.itoa (u : Int) = Lib.decDigits u := by unfold Lib.itoa; rw [if_neg hc]; simp
  show UInt8.ofNat (48 + q) :: t.data.toList = Lib.itoa (u : Int)
  rw [g3, e]
  simp
theorem ev_spec_l1Dec (x : Int) (h : -1000000000000000000 ≤ x ∧ x ≤ 1000000000000000000) : Ev (F_spec_l1Dec · x) (decS x) := by
  by_cases hx : x < 0
  · refine ⟨30, fun n hn => ?_⟩
    obtain ⟨m, rfl, hm⟩ := up1 hn
    have e1 : IntKind.i64.wrap (0 - x) = ((x.natAbs : Nat) : Int) := by rw [wrap64 (by omega)]; omega
    have g := un_l1Dec_pos x.natAbs (by omega) m (by omega)
    have hl := dec_len x.natAbs (by omega)
    have e0 : Lib.itoa ((x.natAbs : Nat) : Int) = Lib.decDigits x.natAbs := by unfold Lib.itoa; rw [if_neg (by omega)]; simp
    have hz : (⟨#[45]⟩ : ByteArray).size + (decS ((x.natAbs : Nat) : Int)).size ≤ 9223372036854775807 := by
      have : (decS ((x.natAbs : Nat) : Int)).size = (Lib.decDigits x.natAbs).length := by rw [ba_size]; simp [decS, e0]
      show 1 + _ ≤ _
      omega
    simp only [F_spec_l1Dec, T_spec_l1Dec, run_done, run_fail, run_ask, run_opt, run_inl, run_inr, Option.bind_some, apart_b, apart_i, apart_s, e1, g]
    rw [if_pos (by simpa using hx), if_pos (decide_eq_true hz)]
    congr 1
    apply ba_eq
    rw [ba_app]
    have e : Lib.itoa x = 45 :: Lib.decDigits x.natAbs := by unfold Lib.itoa; rw [if_pos hx]
    show 45 :: (Lib.itoa ((x.natAbs : Nat) : Int)) = Lib.itoa x
    rw [e, e0]
  · obtain ⟨u, rfl⟩ : ∃ u : Nat, x = u := ⟨x.toNat, by omega⟩
    exact ⟨25, un_l1Dec_pos u (by omega)⟩
theorem ev_FormatInt (x : Int) (h : -9223372036854775808 ≤ x ∧ x ≤ 9223372036854775807) : Ev (F_strconv_FormatInt · x 10) (decS x) := by
  refine ⟨1, fun n hn => ?_⟩
  obtain ⟨m, rfl, hm⟩ := up1 hn
  show L_strconv_FormatInt x 10 = _
  unfold L_strconv_FormatInt
  rw [if_pos ⟨rfl, h⟩]
  rfl
theorem ev_impl_decimal (x : Int) (h : -9223372036854775808 ≤ x ∧ x ≤ 9223372036854775807) : Ev (F_impl_decimal · x) (decS x) := by
  obtain ⟨n1, h1⟩ := ev_FormatInt x h
  refine ⟨n1 + 1, fun n hn => ?_⟩
  obtain ⟨m, rfl, hm⟩ := up1 hn
  have h1 := h1 m (by omega)
  dsimp only at h1
  simp only [F_impl_decimal, T_impl_decimal, run_done, run_fail, run_ask, run_opt, run_inl, run_inr, Option.bind_some, apart_b, apart_i, apart_s, h1]
def nameS (x : Int) : ByteArray := if x = 1 then ⟨#[35, 68, 73, 86, 33]⟩ else if x = 2 then ⟨#[35, 84, 89, 80, 69, 33]⟩ else if x = 3 then ⟨#[35, 82, 69, 70, 33]⟩ else if x = 4 then ⟨#[35, 79, 86, 69, 82, 33]⟩ else if x = 5 then ⟨#[35, 67, 89, 67, 76, 69, 33]⟩ else ⟨#[]⟩
theorem lt6 {x : Int} (h : 0 ≤ x ∧ x ≤ 5) : x = 0 ∨ x = 1 ∨ x = 2 ∨ x = 3 ∨ x = 4 ∨ x = 5 := by omega
theorem ev_spec_l2Name (x : Int) (h : 0 ≤ x ∧ x ≤ 5) : Ev (F_spec_l2Name · x) (nameS x) := by
  refine ⟨1, fun n hn => ?_⟩
  obtain ⟨m, rfl, hm⟩ := up1 hn
  simp only [F_spec_l2Name, T_spec_l2Name, run_done, run_fail, run_ask, run_opt, run_inl, run_inr, Option.bind_some, apart_b, apart_i, apart_s]
  rcases lt6 h with rfl | rfl | rfl | rfl | rfl | rfl <;> simp [cellS, nameS]
theorem ev_impl_errorText (x : Int) (h : 0 ≤ x ∧ x ≤ 5) : Ev (F_impl_errorText · x) (nameS x) := by
  refine ⟨1, fun n hn => ?_⟩
  obtain ⟨m, rfl, hm⟩ := up1 hn
  simp only [F_impl_errorText, T_impl_errorText, run_done, run_fail, run_ask, run_opt, run_inl, run_inr, Option.bind_some, apart_b, apart_i, apart_s]
  rcases lt6 h with rfl | rfl | rfl | rfl | rfl | rfl <;> simp [cellS, nameS]
def boolS (x : Int) : ByteArray := if x = 1 then ⟨#[84, 82, 85, 69]⟩ else ⟨#[70, 65, 76, 83, 69]⟩
theorem ev_spec_l2Bool (x : Int) : Ev (F_spec_l2Bool · x) (boolS x) := by
  refine ⟨1, fun n hn => ?_⟩
  obtain ⟨m, rfl, hm⟩ := up1 hn
  simp only [F_spec_l2Bool, T_spec_l2Bool, run_done, run_fail, run_ask, run_opt, run_inl, run_inr, Option.bind_some, apart_b, apart_i, apart_s]
  by_cases h : x = 1 <;> simp [boolS, h]
theorem okV_1 {x : Int} {s : ByteArray} (h : okV 1 x s = true) : -1000000000000000 ≤ x ∧ x ≤ 1000000000000000 := by
  simp [okV] at h; exact h.2
theorem okV_2 {x : Int} {s : ByteArray} (h : okV 2 x s = true) : x = 0 ∧ (s.size : Int) ≤ 200 ∧ s.toList.all okc = true := by
  simp only [okV, plainN, if_true, Bool.and_eq_true, decide_eq_true_eq] at h
  exact ⟨h.1, h.2.2, h.2.1⟩
theorem okV_3 {x : Int} {s : ByteArray} (h : okV 3 x s = true) : 0 ≤ x ∧ x ≤ 1 := by
  simp [okV] at h; exact h.2
theorem okV_4 {x : Int} {s : ByteArray} (h : okV 4 x s = true) : 1 ≤ x ∧ x ≤ 5 := by
  simp [okV] at h; exact h.2
/-- a value's text -/
def vtext (k x : Int) (s : ByteArray) : ByteArray := if k = 1 then decS x else if k = 2 then ⟨#[39]⟩ ++ s else if k = 3 then boolS x else if k = 4 then nameS x else ⟨#[]⟩
theorem ev_spec_ValueText (k x : Int) (s : ByteArray) (hb : s.size ≤ 140737488351232) : Ev (F_spec_ValueText · k x s) (if okV k x s = true then vtext k x s else ⟨#[]⟩) := by
  cases ho : okV k x s with
  | false =>
    obtain ⟨n1, h1⟩ := ev_spec_ValueOk k x s hb
    refine ⟨n1 + 1, fun n hn => ?_⟩
    obtain ⟨m, rfl, hm⟩ := up1 hn
    have h1 := h1 m (by omega)
    dsimp only at h1
    simp only [F_spec_ValueText, T_spec_ValueText, run_done, run_fail, run_ask, run_opt, run_inl, run_inr, Option.bind_some, apart_b, apart_i, apart_s, h1]
    simp [ho]
  | true =>
    by_cases k1 : k = 1
    · subst k1
      have := okV_1 ho
      obtain ⟨n1, h1⟩ := ev_spec_ValueOk 1 x s hb
      obtain ⟨n2, h2⟩ := ev_spec_l1Dec x (by omega)
      refine ⟨n1 + n2 + 1, fun n hn => ?_⟩
      obtain ⟨m, rfl, hm⟩ := up1 hn
      have h1 := h1 m (by omega)
      dsimp only at h1
      have h2 := h2 m (by omega)
      dsimp only at h2
      simp only [F_spec_ValueText, T_spec_ValueText, run_done, run_fail, run_ask, run_opt, run_inl, run_inr, Option.bind_some, apart_b, apart_i, apart_s, h1, h2]
      simp [ho, vtext]
    · by_cases k2 : k = 2
      · subst k2
        have := okV_2 ho
        have hz : (⟨#[39]⟩ : ByteArray).size + s.size ≤ 9223372036854775807 := by show 1 + s.size ≤ _; omega
        obtain ⟨n1, h1⟩ := ev_spec_ValueOk 2 x s hb
        refine ⟨n1 + 1, fun n hn => ?_⟩
        obtain ⟨m, rfl, hm⟩ := up1 hn
        have h1 := h1 m (by omega)
        dsimp only at h1
        simp only [F_spec_ValueText, T_spec_ValueText, run_done, run_fail, run_ask, run_opt, run_inl, run_inr, Option.bind_some, apart_b, apart_i, apart_s, h1]
        simp [ho, vtext, hz]
      · by_cases k3 : k = 3
        · subst k3
          obtain ⟨n1, h1⟩ := ev_spec_ValueOk 3 x s hb
          obtain ⟨n2, h2⟩ := ev_spec_l2Bool x
          refine ⟨n1 + n2 + 1, fun n hn => ?_⟩
          obtain ⟨m, rfl, hm⟩ := up1 hn
          have h1 := h1 m (by omega)
          dsimp only at h1
          have h2 := h2 m (by omega)
          dsimp only at h2
          simp only [F_spec_ValueText, T_spec_ValueText, run_done, run_fail, run_ask, run_opt, run_inl, run_inr, Option.bind_some, apart_b, apart_i, apart_s, h1, h2]
          simp [ho, vtext]
        · by_cases k4 : k = 4
          · subst k4
            have := okV_4 ho
            obtain ⟨n1, h1⟩ := ev_spec_ValueOk 4 x s hb
            obtain ⟨n2, h2⟩ := ev_spec_l2Name x (by omega)
            refine ⟨n1 + n2 + 1, fun n hn => ?_⟩
            obtain ⟨m, rfl, hm⟩ := up1 hn
            have h1 := h1 m (by omega)
            dsimp only at h1
            have h2 := h2 m (by omega)
            dsimp only at h2
            simp only [F_spec_ValueText, T_spec_ValueText, run_done, run_fail, run_ask, run_opt, run_inl, run_inr, Option.bind_some, apart_b, apart_i, apart_s, h1, h2]
            simp [ho, vtext]
          · obtain ⟨n1, h1⟩ := ev_spec_ValueOk k x s hb
            refine ⟨n1 + 1, fun n hn => ?_⟩
            obtain ⟨m, rfl, hm⟩ := up1 hn
            have h1 := h1 m (by omega)
            dsimp only at h1
            simp only [F_spec_ValueText, T_spec_ValueText, run_done, run_fail, run_ask, run_opt, run_inl, run_inr, Option.bind_some, apart_b, apart_i, apart_s, h1]
            simp [ho, vtext, k1, k2, k3, k4]
theorem ev_impl_valueText (k x : Int) (s : ByteArray) (ho : okV k x s = true) : Ev (F_impl_valueText · k x s) (vtext k x s) := by
  by_cases k1 : k = 1
  · subst k1
    have := okV_1 ho
    obtain ⟨n1, h1⟩ := ev_impl_decimal x (by omega)
    refine ⟨n1 + 1, fun n hn => ?_⟩
    obtain ⟨m, rfl, hm⟩ := up1 hn
    have h1 := h1 m (by omega)
    dsimp only at h1
    simp only [F_impl_valueText, T_impl_valueText, run_done, run_fail, run_ask, run_opt, run_inl, run_inr, Option.bind_some, apart_b, apart_i, apart_s, h1]
    simp [vtext]
  · by_cases k2 : k = 2
    · subst k2
      have := okV_2 ho
      have hz : (⟨#[39]⟩ : ByteArray).size + s.size ≤ 9223372036854775807 := by show 1 + s.size ≤ _; omega
      refine ⟨1, fun n hn => ?_⟩
      obtain ⟨m, rfl, hm⟩ := up1 hn
      simp only [F_impl_valueText, T_impl_valueText, run_done, run_fail, run_ask, run_opt, run_inl, run_inr, Option.bind_some, apart_b, apart_i, apart_s]
      simp [vtext, hz]
    · by_cases k3 : k = 3
      · subst k3
        have := okV_3 ho
        refine ⟨1, fun n hn => ?_⟩
        obtain ⟨m, rfl, hm⟩ := up1 hn
        simp only [F_impl_valueText, T_impl_valueText, run_done, run_fail, run_ask, run_opt, run_inl, run_inr, Option.bind_some, apart_b, apart_i, apart_s]
        have c : x = 0 ∨ x = 1 := by omega
        rcases c with rfl | rfl <;> simp [cellS, vtext, boolS]
      · by_cases k4 : k = 4
        · subst k4
          have := okV_4 ho
          obtain ⟨n1, h1⟩ := ev_impl_errorText x (by omega)
          refine ⟨n1 + 1, fun n hn => ?_⟩
          obtain ⟨m, rfl, hm⟩ := up1 hn
          have h1 := h1 m (by omega)
          dsimp only at h1
          simp only [F_impl_valueText, T_impl_valueText, run_done, run_fail, run_ask, run_opt, run_inl, run_inr, Option.bind_some, apart_b, apart_i, apart_s, h1]
          simp [vtext]
        · refine ⟨1, fun n hn => ?_⟩
          obtain ⟨m, rfl, hm⟩ := up1 hn
          simp only [F_impl_valueText, T_impl_valueText, run_done, run_fail, run_ask, run_opt, run_inl, run_inr, Option.bind_some, apart_b, apart_i, apart_s]
          simp [vtext, k1, k2, k3, k4]
theorem ev_impl_ValueText (k x : Int) (s : ByteArray) (hb : s.size ≤ 140737488351232) : Ev (F_impl_ValueText · k x s) (if okV k x s = true then vtext k x s else ⟨#[]⟩) := by
  cases ho : okV k x s with
  | false =>
    obtain ⟨n1, h1⟩ := ev_impl_ValueOk k x s hb
    refine ⟨n1 + 1, fun n hn => ?_⟩
    obtain ⟨m, rfl, hm⟩ := up1 hn
    have h1 := h1 m (by omega)
    dsimp only at h1
    simp only [F_impl_ValueText, T_impl_ValueText, run_done, run_fail, run_ask, run_opt, run_inl, run_inr, Option.bind_some, apart_b, apart_i, apart_s, h1]
    simp [ho]
  | true =>
    obtain ⟨n1, h1⟩ := ev_impl_ValueOk k x s hb
    obtain ⟨n2, h2⟩ := ev_impl_valueText k x s ho
    refine ⟨n1 + n2 + 1, fun n hn => ?_⟩
    obtain ⟨m, rfl, hm⟩ := up1 hn
    have h1 := h1 m (by omega)
    dsimp only at h1
    have h2 := h2 m (by omega)
    dsimp only at h2
    simp only [F_impl_ValueText, T_impl_ValueText, run_done, run_fail, run_ask, run_opt, run_inl, run_inr, Option.bind_some, apart_b, apart_i, apart_s, h1, h2]
    simp [ho]
theorem decS_size {x : Int} (h : -1000000000000000000 ≤ x ∧ x ≤ 1000000000000000000) : (decS x).size ≤ 20 := by
  rw [ba_size]
  show (Lib.itoa x).length ≤ 20
  unfold Lib.itoa
  split
  · have := dec_len x.natAbs (by omega); simp; omega
  · have := dec_len x.toNat (by omega); omega
theorem vtext_size {k x : Int} {s : ByteArray} (h : okV k x s = true) : (vtext k x s).size ≤ 300 := by
  unfold vtext
  split
  · rename_i k1; subst k1; have := okV_1 h; have := decS_size (x := x) (by omega); omega
  · split
    · rename_i k2; subst k2
      have := okV_2 h
      rw [ByteArray.size_append]
      show 1 + s.size ≤ 300
      omega
    · split
      · unfold boolS; split <;> decide
      · split
        · unfold nameS
          repeat' split
          all_goals decide
        · decide
/-- a value as a text; else what is answered -/
def word (k x : Int) (s : ByteArray) : ByteArray ⊕ V3 := if okV k x s = true then (if k = 4 then .inr (k, x, s) else if k = 2 then .inl s else .inl (vtext k x s)) else .inr (4, 2, em)
theorem word_inr {k x : Int} {s : ByteArray} {e : V3} (h : word k x s = .inr e) : e.1 = 4 ∧ num k x s = .inr e := by
  unfold word at h
  unfold num
  by_cases ho : okV k x s = true
  · rw [if_pos ho] at h ⊢
    split at h
    · rename_i k4
      cases h
      subst k4
      simp
    · split at h <;> cases h
  · rw [if_neg ho] at h ⊢
    cases h
    exact ⟨rfl, rfl⟩
theorem word_size {k x : Int} {s : ByteArray} {t : ByteArray} (h : word k x s = .inl t) : t.size ≤ 300 := by
  unfold word at h
  split at h
  · rename_i ho
    split at h
    · cases h
    · split at h
      · rename_i k2; cases h; subst k2; have := okV_2 ho; omega
      · cases h; exact vtext_size ho
  · cases h
def joinV (a b : ByteArray) : V3 := if ((a.size : Int) + b.size) > 200 then (4, 4, em) else (2, 0, a ++ b)
def joined (k x : Int) (s : ByteArray) (k' x' : Int) (s' : ByteArray) : V3 := match word k x s with
  | .inr e => e
  | .inl a => match word k' x' s' with
    | .inr e => e
    | .inl b => joinV a b
theorem ev_spec_l2Word (k x : Int) (s : ByteArray) (hb : s.size ≤ 140737488351232) : Ev (F_spec_l2Word · k x s) (match word k x s with | .inl t => (t, 0, 0, em) | .inr e => (em, e)) := by
  unfold word
  cases ho : okV k x s with
  | false =>
    obtain ⟨n1, h1⟩ := ev_spec_ValueOk k x s hb
    obtain ⟨n2, h2⟩ := ev_spec_l2Error 2
    refine ⟨n1 + n2 + 1, fun n hn => ?_⟩
    obtain ⟨m, rfl, hm⟩ := up1 hn
    have h1 := h1 m (by omega)
    dsimp only at h1
    have h2 := h2 m (by omega)
    dsimp only at h2
    simp only [F_spec_l2Word, T_spec_l2Word, run_done, run_fail, run_ask, run_opt, run_inl, run_inr, Option.bind_some, apart_b, apart_i, apart_s, h1, h2]
    simp [ho, em]
  | true =>
    by_cases k4 : k = 4
    · subst k4
      obtain ⟨n1, h1⟩ := ev_spec_ValueOk 4 x s hb
      refine ⟨n1 + 1, fun n hn => ?_⟩
      obtain ⟨m, rfl, hm⟩ := up1 hn
      have h1 := h1 m (by omega)
      dsimp only at h1
      simp only [F_spec_l2Word, T_spec_l2Word, run_done, run_fail, run_ask, run_opt, run_inl, run_inr, Option.bind_some, apart_b, apart_i, apart_s, h1]
      simp [ho, em]
    · by_cases k2 : k = 2
      · subst k2
        obtain ⟨n1, h1⟩ := ev_spec_ValueOk 2 x s hb
        refine ⟨n1 + 1, fun n hn => ?_⟩
        obtain ⟨m, rfl, hm⟩ := up1 hn
        have h1 := h1 m (by omega)
        dsimp only at h1
        simp only [F_spec_l2Word, T_spec_l2Word, run_done, run_fail, run_ask, run_opt, run_inl, run_inr, Option.bind_some, apart_b, apart_i, apart_s, h1]
        simp [ho, em]
      · obtain ⟨n1, h1⟩ := ev_spec_ValueOk k x s hb
        obtain ⟨n2, h2⟩ := ev_spec_ValueText k x s hb
        refine ⟨n1 + n2 + 1, fun n hn => ?_⟩
        obtain ⟨m, rfl, hm⟩ := up1 hn
        have h1 := h1 m (by omega)
        dsimp only at h1
        have h2 := h2 m (by omega)
        dsimp only at h2
        simp only [F_spec_l2Word, T_spec_l2Word, run_done, run_fail, run_ask, run_opt, run_inl, run_inr, Option.bind_some, apart_b, apart_i, apart_s, h1, h2]
        simp [ho, k4, k2, em]
theorem ev_impl_asText (k x : Int) (s : ByteArray) (hb : s.size ≤ 140737488351232) : Ev (F_impl_asText · k x s) (match word k x s with | .inl t => (t, true) | .inr _ => (if k = 2 then s else if okV k x s = true then vtext k x s else ⟨#[]⟩, false)) := by
  unfold word
  by_cases k2 : k = 2
  · obtain ⟨n1, h1⟩ := ev_impl_ValueOk k x s hb
    refine ⟨n1 + 1, fun n hn => ?_⟩
    obtain ⟨m, rfl, hm⟩ := up1 hn
    have h1 := h1 m (by omega)
    dsimp only at h1
    simp only [F_impl_asText, T_impl_asText, run_done, run_fail, run_ask, run_opt, run_inl, run_inr, Option.bind_some, apart_b, apart_i, apart_s, h1]
    cases ho : okV k x s <;> simp [k2, ho]
  · obtain ⟨n1, h1⟩ := ev_impl_ValueOk k x s hb
    obtain ⟨n2, h2⟩ := ev_impl_ValueText k x s hb
    refine ⟨n1 + n2 + 1, fun n hn => ?_⟩
    obtain ⟨m, rfl, hm⟩ := up1 hn
    have h1 := h1 m (by omega)
    dsimp only at h1
    have h2 := h2 m (by omega)
    dsimp only at h2
    simp only [F_impl_asText, T_impl_asText, run_done, run_fail, run_ask, run_opt, run_inl, run_inr, Option.bind_some, apart_b, apart_i, apart_s, h1, h2]
    cases ho : okV k x s with
    | false => simp [k2]
    | true => by_cases k4 : k = 4 <;> simp [k2, k4]
theorem ev_spec_Joined (k x : Int) (s : ByteArray) (hb : s.size ≤ 140737488351232) (k' x' : Int) (s' : ByteArray) (hb' : s'.size ≤ 140737488351232) : Ev (F_spec_Joined · k x s k' x' s') (joined k x s k' x' s') := by
  unfold joined
  cases hA : word k x s with
  | inr e =>
    have hne : ¬ e.1 = 0 := by rw [(word_inr hA).1]; decide
    obtain ⟨n1, h1⟩ := ev_spec_l2Word k x s hb
    refine ⟨n1 + 1, fun n hn => ?_⟩
    obtain ⟨m, rfl, hm⟩ := up1 hn
    have h1 := h1 m (by omega)
    dsimp only at h1
    simp only [F_spec_Joined, T_spec_Joined, run_done, run_fail, run_ask, run_opt, run_inl, run_inr, Option.bind_some, apart_b, apart_i, apart_s, h1]
    simp [hA, hne]
  | inl a =>
    cases hB : word k' x' s' with
    | inr e =>
      have hne : ¬ e.1 = 0 := by rw [(word_inr hB).1]; decide
      obtain ⟨n1, h1⟩ := ev_spec_l2Word k x s hb
      obtain ⟨n2, h2⟩ := ev_spec_l2Word k' x' s' hb'
      refine ⟨n1 + n2 + 1, fun n hn => ?_⟩
      obtain ⟨m, rfl, hm⟩ := up1 hn
      have h1 := h1 m (by omega)
      dsimp only at h1
      have h2 := h2 m (by omega)
      dsimp only at h2
      simp only [F_spec_Joined, T_spec_Joined, run_done, run_fail, run_ask, run_opt, run_inl, run_inr, Option.bind_some, apart_b, apart_i, apart_s, h1, h2]
      simp [hA, hB, hne]
    | inl b =>
      have s1 := word_size hA
      have s2 := word_size hB
      have w1 : IntKind.i64.wrap ((a.size : Int) + b.size) = (a.size : Int) + b.size := wrap64 (by omega)
      have hz : a.size + b.size ≤ 9223372036854775807 := by omega
      obtain ⟨n1, h1⟩ := ev_spec_l2Word k x s hb
      obtain ⟨n2, h2⟩ := ev_spec_l2Word k' x' s' hb'
      obtain ⟨n3, h3⟩ := ev_spec_l2Error 4
      refine ⟨n1 + n2 + n3 + 1, fun n hn => ?_⟩
      obtain ⟨m, rfl, hm⟩ := up1 hn
      have h1 := h1 m (by omega)
      dsimp only at h1
      have h2 := h2 m (by omega)
      dsimp only at h2
      have h3 := h3 m (by omega)
      dsimp only at h3
      simp only [F_spec_Joined, T_spec_Joined, run_done, run_fail, run_ask, run_opt, run_inl, run_inr, Option.bind_some, apart_b, apart_i, apart_s, h1, h2, h3]
      simp only [hA, hB, w1, joinV]
      by_cases c : ((a.size : Int) + b.size) > 200 <;> simp [c, hz]
theorem ev_impl_Joined (k x : Int) (s : ByteArray) (hb : s.size ≤ 140737488351232) (k' x' : Int) (s' : ByteArray) (hb' : s'.size ≤ 140737488351232) : Ev (F_impl_Joined · k x s k' x' s') (joined k x s k' x' s') := by
  unfold joined
  cases hA : word k x s with
  | inr e =>
    obtain ⟨n1, h1⟩ := ev_impl_asText k x s hb
    obtain ⟨n2, h2⟩ := ev_impl_asText k' x' s' hb'
    obtain ⟨n3, h3⟩ := ev_impl_none k x s hb (word_inr hA).2
    refine ⟨n1 + n2 + n3 + 1, fun n hn => ?_⟩
    obtain ⟨m, rfl, hm⟩ := up1 hn
    have h1 := h1 m (by omega)
    dsimp only at h1
    have h2 := h2 m (by omega)
    dsimp only at h2
    have h3 := h3 m (by omega)
    dsimp only at h3
    simp only [F_impl_Joined, T_impl_Joined, run_done, run_fail, run_ask, run_opt, run_inl, run_inr, Option.bind_some, apart_b, apart_i, apart_s, h1, h2, h3]
    simp [hA]
  | inl a =>
    cases hB : word k' x' s' with
    | inr e =>
      obtain ⟨n1, h1⟩ := ev_impl_asText k x s hb
      obtain ⟨n2, h2⟩ := ev_impl_asText k' x' s' hb'
      obtain ⟨n3, h3⟩ := ev_impl_none k' x' s' hb' (word_inr hB).2
      refine ⟨n1 + n2 + n3 + 1, fun n hn => ?_⟩
      obtain ⟨m, rfl, hm⟩ := up1 hn
      have h1 := h1 m (by omega)
      dsimp only at h1
      have h2 := h2 m (by omega)
      dsimp only at h2
      have h3 := h3 m (by omega)
      dsimp only at h3
      simp only [F_impl_Joined, T_impl_Joined, run_done, run_fail, run_ask, run_opt, run_inl, run_inr, Option.bind_some, apart_b, apart_i, apart_s, h1, h2, h3]
      simp [hA, hB]
    | inl b =>
      have s1 := word_size hA
      have s2 := word_size hB
      have w1 : IntKind.i64.wrap ((a.size : Int) + b.size) = (a.size : Int) + b.size := wrap64 (by omega)
      have hz : a.size + b.size ≤ 9223372036854775807 := by omega
      obtain ⟨n1, h1⟩ := ev_impl_asText k x s hb
      obtain ⟨n2, h2⟩ := ev_impl_asText k' x' s' hb'
      obtain ⟨n3, h3⟩ := ev_impl_fault 4
      refine ⟨n1 + n2 + n3 + 1, fun n hn => ?_⟩
      obtain ⟨m, rfl, hm⟩ := up1 hn
      have h1 := h1 m (by omega)
      dsimp only at h1
      have h2 := h2 m (by omega)
      dsimp only at h2
      have h3 := h3 m (by omega)
      dsimp only at h3
      simp only [F_impl_Joined, T_impl_Joined, run_done, run_fail, run_ask, run_opt, run_inl, run_inr, Option.bind_some, apart_b, apart_i, apart_s, h1, h2, h3]
      simp only [hA, hB, w1, joinV]
      by_cases c : ((a.size : Int) + b.size) > 200 <;> simp [c, hz]
theorem law (k x : Int) (s : ByteArray) (k' x' : Int) (s' : ByteArray) (w0 : (Lit.int .i64 k).wf = true) (w1 : (Lit.int .i64 x).wf = true) (hb : s.size ≤ 140737488351232) (w3 : (Lit.int .i64 k').wf = true) (w4 : (Lit.int .i64 x').wf = true) (hb' : s'.size ≤ 140737488351232) : Ev (F_laws_FnExactJoined · k x s k' x' s') true := by
  obtain ⟨r1, g1⟩ := ev_laws_szValue k x s 1048576
  obtain ⟨r2, g2⟩ := ev_laws_szValue k' x' s' r1
  obtain ⟨n1, h1⟩ := g1
  obtain ⟨n2, h2⟩ := g2
  obtain ⟨n3, h3⟩ := ev_laws_toValue k x s
  obtain ⟨n4, h4⟩ := ev_laws_toValue k' x' s'
  obtain ⟨n5, h5⟩ := ev_spec_Joined k x s hb k' x' s' hb'
  obtain ⟨n6, h6⟩ := ev_impl_Joined k x s hb k' x' s' hb'
  obtain ⟨n7, h7⟩ := ev_laws_eqValue (joined k x s k' x' s').1 (joined k x s k' x' s').2.1 (joined k x s k' x' s').2.2
  refine ⟨n1 + n2 + n3 + n4 + n5 + n6 + n7 + 1, fun n hn => ?_⟩
  obtain ⟨m, rfl, hm⟩ := up1 hn
  have h1 := h1 m (by omega)
  dsimp only at h1
  have h2 := h2 m (by omega)
  dsimp only at h2
  have h3 := h3 m (by omega)
  dsimp only at h3
  have h4 := h4 m (by omega)
  dsimp only at h4
  have h5 := h5 m (by omega)
  dsimp only at h5
  have h6 := h6 m (by omega)
  dsimp only at h6
  have h7 := h7 m (by omega)
  dsimp only at h7
  simp only [F_laws_FnExactJoined, T_laws_FnExactJoined, run_done, run_fail, run_ask, run_opt, run_inl, run_inr, Option.bind_some, apart_b, apart_i, apart_s, h1, h2, h3, h4, h5, h6, h7]
  split
  · rfl
  · split <;> simp
end Go.Proofs.YtaannlnlddbgdaaDoor.KFnExactJoined
