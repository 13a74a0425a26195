/-
  What the functions that FnAreas calls answer, said of their trees. No condition beside those that stand in the statements.
-/
import Derived.Test.YtaannlnlddbgdabTFnAreas
import Derived.Test.YtaannlnlddbgdabE32
import Derived.Lib.Strings
namespace Go.Proofs.Ytaannlnlddbgdab.KFnAreas
open Go.Eng
set_option linter.unusedVariables false
set_option linter.unusedSimpArgs false
def Ev {R : Type} (F : Nat → Option R) (r : R) : Prop := ∃ n0, ∀ n, n0 ≤ n → F n = some r
theorem tl_len (s : ByteArray) : s.toList.length = s.size := by rw [Go.Lib.toList_data]; rfl
theorem toList_nil : (ByteArray.mk #[]).toList = [] := by decide +kernel
theorem wf64 {x : Int} (h : (Lit.int .i64 x).wf = true) : -9223372036854775808 ≤ x ∧ x ≤ 9223372036854775807 := by
  simp only [Lit.wf, Bool.and_eq_true, decide_eq_true_eq] at h
  have h1 : IntKind.i64.min = -9223372036854775808 := by decide
  have h2 : IntKind.i64.max = 9223372036854775807 := by decide
  omega
theorem wrap64 {x : Int} (h : -9223372036854775808 ≤ x ∧ x ≤ 9223372036854775807) : IntKind.i64.wrap x = x := by
  unfold IntKind.wrap
  have e1 : (2 : Int) ^ (64 - 1) = 9223372036854775808 := by decide
  have e2 : (2 : Int) ^ 64 = 18446744073709551616 := by decide
  simp only [IntKind.signed, IntKind.bits, Bool.true_and, decide_eq_true_eq, e1, e2]
  split <;> omega
theorem wrap64_in (x : Int) : -9223372036854775808 ≤ IntKind.i64.wrap x ∧ IntKind.i64.wrap x ≤ 9223372036854775807 := by
  unfold IntKind.wrap
  have e1 : (2 : Int) ^ (64 - 1) = 9223372036854775808 := by decide
  have e2 : (2 : Int) ^ 64 = 18446744073709551616 := by decide
  simp only [IntKind.signed, IntKind.bits, Bool.true_and, decide_eq_true_eq, e1, e2]
  split <;> omega
theorem get_of_lt {s : ByteArray} {i : Nat} (h : i < s.size) : ∃ c, s.toList[i]? = some c := ⟨_, List.getElem?_eq_getElem (by rw [tl_len]; exact h)⟩
theorem drop_cons {α : Type} {s : List α} {i : Nat} {c : α} (h : s[i]? = some c) : s.drop i = c :: s.drop (i + 1) := by
  obtain ⟨h1, rfl⟩ := List.getElem?_eq_some_iff.1 h
  exact List.drop_eq_getElem_cons h1
theorem loopF_inl {V R : Type} {B : V → Tr (V ⊕ R)} {m : Nat} {v v' : V} (h : (B v).run = some (.inl v')) : loopF B (m + 1) v = loopF B m v' := by simp only [loopF, h]
theorem loopF_inr {V R : Type} {B : V → Tr (V ⊕ R)} {m : Nat} {v : V} {r : R} (h : (B v).run = some (.inr r)) : loopF B (m + 1) v = some r := by simp only [loopF, h]
theorem up1 {n n0 : Nat} (h : n0 + 1 ≤ n) : ∃ m, n = m + 1 ∧ n0 ≤ m := ⟨n - 1, by omega, by omega⟩
theorem run_done {α : Type} (x : α) : (Tr.done x).run = some x := rfl
theorem run_fail {α : Type} : (Tr.fail : Tr α).run = none := rfl
theorem run_ask {α : Type} (b : Bool) (t f : Tr α) : (Tr.ask b t f).run = if b = true then t.run else f.run := by cases b <;> rfl
theorem run_opt {α β : Type} (o : Option β) (k : β → Tr α) : (Tr.opt o k).run = o.bind fun x => (k x).run := by cases o <;> rfl
theorem run_inl {α β γ : Type} (x : β) (k : β → Tr α) (l : γ → Tr α) : (Tr.alt (.inl x) k l).run = (k x).run := rfl
theorem run_inr {α β γ : Type} (x : γ) (k : β → Tr α) (l : γ → Tr α) : (Tr.alt (.inr x) k l).run = (l x).run := rfl
theorem ev_list {α R : Type} {F : α → Nat → Option R} {f : α → R} : ∀ (l : List α), (∀ c ∈ l, Ev (F c) (f c)) → ∃ n0, ∀ n, n0 ≤ n → ∀ c ∈ l, F c n = some (f c)
  | [], _ => ⟨0, fun n _ c hc => by cases hc⟩
  | a :: l, h => by
    obtain ⟨n1, h1⟩ := h a (List.mem_cons_self ..)
    obtain ⟨n2, h2⟩ := ev_list l fun c hc => h c (List.mem_cons_of_mem _ hc)
    exact ⟨n1 + n2, fun n hn c hc => by
      rcases List.mem_cons.1 hc with rfl | hc
      · exact h1 n (by omega)
      · exact h2 n (by omega) c hc⟩
/-- a list that is written anew, place by place -/
theorem conv_loop {R : Type} {B : List (List PV) × Nat × Int × List (List PV) → Tr ((List (List PV) × Nat × Int × List (List PV)) ⊕ R)} {rows : List (List PV)} {z : List PV} {r : List (List PV) → R}
    (hs : ∀ (i : Nat) (acc : List (List PV)) (e : List PV), rows[i]? = some e → acc.length = rows.length → acc[i]? = some z → (B (rows, rows.length, (i : Int), acc)).run = some (.inl (rows, rows.length, ((i + 1 : Nat) : Int), acc.set i e)))
    (he : ∀ acc : List (List PV), acc.length = rows.length → (B (rows, rows.length, (rows.length : Int), acc)).run = some (.inr (r acc))) :
    ∀ (m i M : Nat), rows.length = i + m → m + 1 ≤ M → loopF B M (rows, rows.length, (i : Int), rows.take i ++ zrows z m) = some (r rows)
  | m, i, 0, h1, h2 => by omega
  | 0, i, M + 1, h1, h2 => by
    have hi : i = rows.length := by omega
    subst hi
    have e : rows.take rows.length ++ zrows z 0 = rows := by simp [zrows]
    rw [e, loopF_inr (he rows rfl)]
  | m + 1, i, M + 1, h1, h2 => by
    have hl : i < rows.length := by omega
    have hg := List.getElem?_eq_getElem hl
    have hlen : (rows.take i ++ zrows z (m + 1)).length = rows.length := by simp [zrows]; omega
    have hz : (rows.take i ++ zrows z (m + 1))[i]? = some z := by
      rw [List.getElem?_append_right (by simp; omega)]
      simp [zrows, Nat.min_eq_left (Nat.le_of_lt hl)]
    rw [loopF_inl (hs i _ _ hg hlen hz)]
    have e : (rows.take i ++ zrows z (m + 1)).set i rows[i] = rows.take (i + 1) ++ zrows z m := by
      have hx : zrows z (m + 1) = z :: zrows z m := by simp [zrows, List.replicate_succ]
      rw [hx, List.set_append_right (h := by simp; omega)]
      have : i - (rows.take i).length = 0 := by simp; omega
      rw [this, List.set_cons_zero, show rows.take (i + 1) = rows.take i ++ [rows[i]] from by rw [List.take_add_one, hg]; rfl, List.append_assoc]
      rfl
    rw [e]
    exact conv_loop hs he m (i + 1) M (by omega) (by omega)
theorem conv_all {R : Type} {B : List (List PV) × Nat × Int × List (List PV) → Tr ((List (List PV) × Nat × Int × List (List PV)) ⊕ R)} {rows : List (List PV)} {z : List PV} {r : List (List PV) → R} {M : Nat}
    (hs : ∀ (i : Nat) (acc : List (List PV)) (e : List PV), rows[i]? = some e → acc.length = rows.length → acc[i]? = some z → (B (rows, rows.length, (i : Int), acc)).run = some (.inl (rows, rows.length, ((i + 1 : Nat) : Int), acc.set i e)))
    (he : ∀ acc : List (List PV), acc.length = rows.length → (B (rows, rows.length, (rows.length : Int), acc)).run = some (.inr (r acc))) (hM : rows.length + 1 ≤ M) :
    loopF B M (rows, rows.length, 0, zrows z rows.length) = some (r rows) := by
  have := conv_loop (B := B) hs he rows.length 0 M (by omega) hM
  simpa using this
/-- a list held against itself -/
theorem eq_loop {R : Type} {B : List (List PV) × List (List PV) × Int → Tr ((List (List PV) × List (List PV) × Int) ⊕ R)} {rows : List (List PV)} {r : R}
    (hs : ∀ (i : Nat) (e : List PV), rows[i]? = some e → (B (rows, rows, (i : Int))).run = some (.inl (rows, rows, ((i + 1 : Nat) : Int)))) (he : (B (rows, rows, (rows.length : Int))).run = some (.inr r)) :
    ∀ (m i M : Nat), rows.length = i + m → m + 1 ≤ M → loopF B M (rows, rows, (i : Int)) = some r
  | m, i, 0, h1, h2 => by omega
  | 0, i, M + 1, h1, h2 => by
    have hi : i = rows.length := by omega
    subst hi
    rw [loopF_inr he]
  | m + 1, i, M + 1, h1, h2 => by
    have hg := List.getElem?_eq_getElem (l := rows) (i := i) (by omega)
    rw [loopF_inl (hs i _ hg)]
    exact eq_loop hs he m (i + 1) M (by omega) (by omega)
/-- a list's size, as far as it is not too great -/
theorem sz_loop {R : Type} {B : List (List PV) × Int × Int → Tr ((List (List PV) × Int × Int) ⊕ R)} {rows : List (List PV)}
    (hs : ∀ (i : Nat) (e : List PV) (x : Int), rows[i]? = some e → (∃ y, (B (rows, x, (i : Int))).run = some (.inl (rows, y, ((i + 1 : Nat) : Int)))) ∨ ∃ r, (B (rows, x, (i : Int))).run = some (.inr r)) (he : ∀ x, ∃ r, (B (rows, x, (rows.length : Int))).run = some (.inr r)) :
    ∀ (m i M : Nat) (x : Int), rows.length = i + m → m + 1 ≤ M → ∃ r, loopF B M (rows, x, (i : Int)) = some r
  | m, i, 0, x, h1, h2 => by omega
  | 0, i, M + 1, x, h1, h2 => by
    have hi : i = rows.length := by omega
    subst hi
    obtain ⟨r, hr⟩ := he x
    exact ⟨r, loopF_inr hr⟩
  | m + 1, i, M + 1, x, h1, h2 => by
    have hg := List.getElem?_eq_getElem (l := rows) (i := i) (by omega)
    rcases hs i _ x hg with ⟨y, hy⟩ | ⟨r, hr⟩
    · rw [loopF_inl hy]
      exact sz_loop hs he m (i + 1) M y (by omega) (by omega)
    · exact ⟨r, loopF_inr hr⟩
/-- rows of a shape, as a list of what stands in them -/
theorem rows_map {α : Type} {enc : α → List PV} {P : α → Prop} {sh : List Sh} (hd : ∀ e, okR sh e → ∃ a, e = enc a ∧ P a) : ∀ {rows : List (List PV)}, (∀ e ∈ rows, okR sh e) → ∃ l : List α, rows = l.map enc ∧ ∀ a ∈ l, P a
  | [], _ => ⟨[], rfl, fun a h => by cases h⟩
  | e :: rows, h => by
    obtain ⟨a, rfl, ha⟩ := hd e (h e (List.mem_cons_self ..))
    obtain ⟨l, rfl, hl⟩ := rows_map hd fun e he => h e (List.mem_cons_of_mem _ he)
    exact ⟨a :: l, rfl, fun b hb => by
      rcases List.mem_cons.1 hb with rfl | hb
      · exact ha
      · exact hl b hb⟩
theorem opt_eq {α β : Type} {o : Option β} {x : β} {k : β → Tr α} {y : Option α} (h : o = some x) (h2 : (k x).run = y) : (Tr.opt o k).run = y := by rw [h]; exact h2
theorem ask_t {α : Type} {b : Bool} {t f : Tr α} {y : Option α} (h : b = true) (h2 : t.run = y) : (Tr.ask b t f).run = y := by rw [h]; exact h2
theorem ask_f {α : Type} {b : Bool} {t f : Tr α} {y : Option α} (h : b = false) (h2 : f.run = y) : (Tr.ask b t f).run = y := by rw [h]; exact h2
theorem apart_b (b : Bool) : apartR (⟨(.c (.p (.b b))), [], []⟩ : Res) = true := rfl
theorem apart_i (x : Int) : apartR (⟨(.c (.p (.i .i64 x))), [], []⟩ : Res) = true := rfl
theorem apart_s (x : ByteArray) : apartR (⟨(.c (.p (.s x))), [], []⟩ : Res) = true := rfl
theorem ev_spec_l1In (x lo hi : Int) : Ev (F_spec_l1In · x lo hi) (decide (lo ≤ x ∧ x ≤ hi)) := by
  refine ⟨1, fun n hn => ?_⟩
  obtain ⟨m, rfl, hm⟩ := up1 hn
  simp only [F_spec_l1In, T_spec_l1In, run_done, run_fail, run_ask, run_opt, run_inl, run_inr, Option.bind_some, apart_b, apart_i, apart_s]
  by_cases h : x ≥ lo <;> simp [h]
theorem ev_impl_within (x lo hi : Int) : Ev (F_impl_within · x lo hi) (decide (lo ≤ x ∧ x ≤ hi)) := by
  refine ⟨1, fun n hn => ?_⟩
  obtain ⟨m, rfl, hm⟩ := up1 hn
  simp only [F_impl_within, T_impl_within, run_done, run_fail, run_ask, run_opt, run_inl, run_inr, Option.bind_some, apart_b, apart_i, apart_s]
  by_cases h : x ≥ lo <;> simp [h]
/-- the bytes from 32 to 126 -/
def okc (c : UInt8) : Bool := decide (32 ≤ c.toNat ∧ c.toNat ≤ 126)
def plainN (s : ByteArray) (most : Int) : Bool := s.toList.all okc && decide ((s.size : Int) ≤ most)
def okV (k n : Int) (s : ByteArray) : Bool :=
  if k = 2 then decide (n = 0) && plainN s 200 else (s.toList == []) && (if k = 0 then decide (n = 0) else if k = 1 then decide (-1000000000000000 ≤ n ∧ n ≤ 1000000000000000) else if k = 3 then decide (0 ≤ n ∧ n ≤ 1) else if k = 4 then decide (1 ≤ n ∧ n ≤ 5) else false)
abbrev V3 := Int × Int × ByteArray
def em : ByteArray := ⟨#[]⟩
/-- a value as a number; else what is answered -/
def num (k x : Int) (s : ByteArray) : Int ⊕ V3 := if okV k x s = true then (if k = 0 ∨ k = 1 then .inl x else if k = 4 then .inr (k, x, s) else .inr (4, 2, em)) else .inr (4, 2, em)
def fin64 (z : Int) : V3 := if -1000000000000000 ≤ z ∧ z ≤ 1000000000000000 then (1, z, em) else (4, 4, em)
def arith (op : Int → Int → V3) (k x : Int) (s : ByteArray) (k' x' : Int) (s' : ByteArray) : V3 := match num k x s with
  | .inr e => e
  | .inl a => match num k' x' s' with
    | .inr e => e
    | .inl b => op a b
theorem num_inr {k x : Int} {s : ByteArray} {e : V3} (h : num k x s = .inr e) : e.1 = 4 := by
  unfold num at h
  split at h
  · split at h
    · cases h
    · split at h
      · cases h; assumption
      · cases h; rfl
  · cases h; rfl
theorem num_ne {k x : Int} {s : ByteArray} {e : V3} (h : num k x s = .inr e) : ¬ e.1 = 0 := by rw [num_inr h]; decide
theorem num_inl {k x : Int} {s : ByteArray} {a : Int} (h : num k x s = .inl a) : -1000000000000000 ≤ a ∧ a ≤ 1000000000000000 := by
  unfold num at h
  split at h
  · rename_i ho
    split at h
    · rename_i hk
      cases h
      unfold okV at ho
      rcases hk with rfl | rfl
      · simp at ho; omega
      · simp at ho; exact ho.2
    · split at h <;> cases h
  · cases h
def absI (x : Int) : Int := if x < 0 then -x else x
def timesV (a b : Int) : V3 := if a = 0 ∨ b = 0 then fin64 0 else if absI a > Int.tdiv 1000000000000000 (absI b) then (4, 4, em) else fin64 (IntKind.i64.wrap (a * b))
theorem tdiv_in {b : Int} (h : 1 ≤ b) : 0 ≤ Int.tdiv 1000000000000000 b ∧ Int.tdiv 1000000000000000 b ≤ 1000000000000000 := by
  rw [Int.tdiv_eq_ediv_of_nonneg (by decide)]
  exact ⟨Int.ediv_nonneg (by decide) (by omega), Int.ediv_le_self _ (by decide)⟩
def okRef (c r : Int) : Bool := decide (1 ≤ c ∧ c ≤ 52) && decide (1 ≤ r ∧ r ≤ 99)
def okArea (a b c d : Int) : Bool := okRef a b && okRef c d && decide (a ≤ c) && decide (b ≤ d)
theorem ev_spec_RefOk (c r : Int) : Ev (F_spec_RefOk · c r) (okRef c r) := by
  obtain ⟨n1, h1⟩ := ev_spec_l1In c 1 52
  obtain ⟨n2, h2⟩ := ev_spec_l1In r 1 99
  refine ⟨n1 + n2 + 1, fun n hn => ?_⟩
  obtain ⟨m, rfl, hm⟩ := up1 hn
  have h1 := h1 m (by omega)
  dsimp only at h1
  have h2 := h2 m (by omega)
  dsimp only at h2
  simp only [F_spec_RefOk, T_spec_RefOk, run_done, run_fail, run_ask, run_opt, run_inl, run_inr, Option.bind_some, apart_b, apart_i, apart_s, h1, h2]
  unfold okRef
  cases decide (1 ≤ c ∧ c ≤ 52) <;> simp
theorem ev_impl_RefOk (c r : Int) : Ev (F_impl_RefOk · c r) (okRef c r) := by
  obtain ⟨n1, h1⟩ := ev_impl_within c 1 52
  obtain ⟨n2, h2⟩ := ev_impl_within r 1 99
  refine ⟨n1 + n2 + 1, fun n hn => ?_⟩
  obtain ⟨m, rfl, hm⟩ := up1 hn
  have h1 := h1 m (by omega)
  dsimp only at h1
  have h2 := h2 m (by omega)
  dsimp only at h2
  simp only [F_impl_RefOk, T_impl_RefOk, run_done, run_fail, run_ask, run_opt, run_inl, run_inr, Option.bind_some, apart_b, apart_i, apart_s, h1, h2]
  unfold okRef
  cases decide (1 ≤ c ∧ c ≤ 52) <;> simp
theorem ev_spec_AreaOk (a b c d : Int) : Ev (F_spec_AreaOk · a b c d) (okArea a b c d) := by
  obtain ⟨n1, h1⟩ := ev_spec_RefOk a b
  obtain ⟨n2, h2⟩ := ev_spec_RefOk c d
  refine ⟨n1 + n2 + 1, fun n hn => ?_⟩
  obtain ⟨m, rfl, hm⟩ := up1 hn
  have h1 := h1 m (by omega)
  dsimp only at h1
  have h2 := h2 m (by omega)
  dsimp only at h2
  simp only [F_spec_AreaOk, T_spec_AreaOk, run_done, run_fail, run_ask, run_opt, run_inl, run_inr, Option.bind_some, apart_b, apart_i, apart_s, h1, h2]
  unfold okArea
  cases okRef a b <;> cases okRef c d <;> by_cases h : a ≤ c <;> simp [h]
theorem ev_impl_AreaOk (a b c d : Int) : Ev (F_impl_AreaOk · a b c d) (okArea a b c d) := by
  obtain ⟨n1, h1⟩ := ev_impl_RefOk a b
  obtain ⟨n2, h2⟩ := ev_impl_RefOk c d
  refine ⟨n1 + n2 + 1, fun n hn => ?_⟩
  obtain ⟨m, rfl, hm⟩ := up1 hn
  have h1 := h1 m (by omega)
  dsimp only at h1
  have h2 := h2 m (by omega)
  dsimp only at h2
  simp only [F_impl_AreaOk, T_impl_AreaOk, run_done, run_fail, run_ask, run_opt, run_inl, run_inr, Option.bind_some, apart_b, apart_i, apart_s, h1, h2]
  unfold okArea
  cases okRef a b <;> cases okRef c d <;> by_cases h : a ≤ c <;> simp [h]
abbrev A5 := Int × Int × Int × Int × Bool
def common (x0 x1 x2 x3 x4 x5 x6 x7 : Int) : A5 :=
  if okArea x0 x1 x2 x3 = true ∧ okArea x4 x5 x6 x7 = true ∧ okArea (if x4 > x0 then x4 else x0) (if x5 > x1 then x5 else x1) (if x6 < x2 then x6 else x2) (if x7 < x3 then x7 else x3) = true then
    ((if x4 > x0 then x4 else x0), (if x5 > x1 then x5 else x1), (if x6 < x2 then x6 else x2), (if x7 < x3 then x7 else x3), true) else (0, 0, 0, 0, false)
theorem ev_spec_Common (x0 x1 x2 x3 x4 x5 x6 x7 : Int) : Ev (F_spec_Common · x0 x1 x2 x3 x4 x5 x6 x7) (common x0 x1 x2 x3 x4 x5 x6 x7) := by
  obtain ⟨n1, h1⟩ := ev_spec_AreaOk x0 x1 x2 x3
  obtain ⟨n2, h2⟩ := ev_spec_AreaOk x4 x5 x6 x7
  obtain ⟨n3, h3⟩ := ev_spec_AreaOk (if x4 > x0 then x4 else x0) (if x5 > x1 then x5 else x1) (if x6 < x2 then x6 else x2) (if x7 < x3 then x7 else x3)
  refine ⟨n1 + n2 + n3 + 1, fun n hn => ?_⟩
  obtain ⟨m, rfl, hm⟩ := up1 hn
  have h1 := h1 m (by omega)
  dsimp only at h1
  have h2 := h2 m (by omega)
  dsimp only at h2
  have h3 := h3 m (by omega)
  dsimp only at h3
  simp only [F_spec_Common, T_spec_Common, run_done, run_fail, run_ask, run_opt, run_inl, run_inr, Option.bind_some, apart_b, apart_i, apart_s, h1, h2, h3]
  unfold common
  cases okArea x0 x1 x2 x3 <;> cases okArea x4 x5 x6 x7 <;> simp
  cases okArea (if x0 < x4 then x4 else x0) (if x1 < x5 then x5 else x1) (if x6 < x2 then x6 else x2) (if x7 < x3 then x7 else x3) <;> simp
theorem ev_impl_Common (x0 x1 x2 x3 x4 x5 x6 x7 : Int) : Ev (F_impl_Common · x0 x1 x2 x3 x4 x5 x6 x7) (common x0 x1 x2 x3 x4 x5 x6 x7) := by
  obtain ⟨n1, h1⟩ := ev_impl_AreaOk x0 x1 x2 x3
  obtain ⟨n2, h2⟩ := ev_impl_AreaOk x4 x5 x6 x7
  obtain ⟨n3, h3⟩ := ev_impl_AreaOk (if x4 > x0 then x4 else x0) (if x5 > x1 then x5 else x1) (if x6 < x2 then x6 else x2) (if x7 < x3 then x7 else x3)
  refine ⟨n1 + n2 + n3 + 1, fun n hn => ?_⟩
  obtain ⟨m, rfl, hm⟩ := up1 hn
  have h1 := h1 m (by omega)
  dsimp only at h1
  have h2 := h2 m (by omega)
  dsimp only at h2
  have h3 := h3 m (by omega)
  dsimp only at h3
  simp only [F_impl_Common, T_impl_Common, run_done, run_fail, run_ask, run_opt, run_inl, run_inr, Option.bind_some, apart_b, apart_i, apart_s, h1, h2, h3]
  unfold common
  cases okArea x0 x1 x2 x3 <;> cases okArea x4 x5 x6 x7 <;> simp
  cases okArea (if x0 < x4 then x4 else x0) (if x1 < x5 then x5 else x1) (if x6 < x2 then x6 else x2) (if x7 < x3 then x7 else x3) <;> simp
def cmpI (x y : Int) : Int := if x < y then -1 else if x > y then 1 else 0
def cmpS (x y : ByteArray) : Int := if Op.bytesLess x.toList y.toList = true then -1 else if x.toList = y.toList then 0 else 1
def firstNZ : List Int → Int
  | [] => 0
  | x :: r => if x ≠ 0 then x else firstNZ r
def ordV (k x : Int) (s : ByteArray) (k' x' : Int) (s' : ByteArray) : Int := firstNZ [cmpI k k', cmpI x x', cmpS s s']
def heldB (op o : Int) : Bool := if op = 6 then o == 0 else if op = 7 then o != 0 else if op = 8 then decide (o < 0) else if op = 9 then decide (o ≤ 0) else if op = 10 then decide (o > 0) else decide (o ≥ 0)
def held (op k x : Int) (s : ByteArray) (k' x' : Int) (s' : ByteArray) : Int × Int × ByteArray :=
  if okV k x s = true ∧ okV k' x' s' = true ∧ 6 ≤ op ∧ op ≤ 11 then
    (if k = 4 then (k, x, s) else if k' = 4 then (k', x', s') else (3, if heldB op (ordV (if k = 0 then k' else k) x s (if k' = 0 then k else k') x' s') = true then 1 else 0, em))
  else (4, 2, em)
abbrev CVt := Int × Int × Int × Int × ByteArray
def encCV (c : CVt) : List PV := [.i .i64 c.1, .i .i64 c.2.1, .i .i64 c.2.2.1, .i .i64 c.2.2.2.1, .s c.2.2.2.2]
theorem rows_cv {rows : List (List PV)} (h : ∀ e ∈ rows, okR [.i .i64, .i .i64, .i .i64, .i .i64, .s] e) : ∃ l : List CVt, rows = l.map encCV ∧ ∀ c ∈ l, c.2.2.2.2.size ≤ 140737488351232 := by
  refine rows_map (fun e h => ?_) h
  obtain ⟨c0, t0, rfl, p0, h⟩ := okR_cons h
  obtain ⟨c1, t1, rfl, p1, h1⟩ := okR_cons h
  obtain ⟨c2, t2, rfl, p2, h2⟩ := okR_cons h1
  obtain ⟨c3, t3, rfl, p3, h3⟩ := okR_cons h2
  obtain ⟨c4, t4, rfl, p4, h4⟩ := okR_cons h3
  obtain rfl := okR_nil h4
  obtain ⟨x0, rfl, _⟩ := okP_i p0
  obtain ⟨x1, rfl, _⟩ := okP_i p1
  obtain ⟨x2, rfl, _⟩ := okP_i p2
  obtain ⟨x3, rfl, _⟩ := okP_i p3
  obtain ⟨x4, rfl, w⟩ := okP_s p4
  exact ⟨(x0, x1, x2, x3, x4), rfl, w⟩
theorem cv_get {l : List CVt} {i : Nat} {e : List PV} (h : (l.map encCV)[i]? = some e) : ∃ c, l[i]? = some c ∧ e = encCV c := by
  rw [List.getElem?_map] at h
  obtain ⟨c, h1, h2⟩ := Option.map_eq_some_iff.1 h
  exact ⟨c, h1, h2.symm⟩
def ahead (a b c d : Int) : Bool := decide (b < d ∨ (b = d ∧ a < c))
/-- a value at its place -/
def cvOk (l : List CVt) (i : Nat) (c : CVt) : Bool := okRef c.1 c.2.1 && okV c.2.2.1 c.2.2.2.1 c.2.2.2.2 && (match i with | 0 => true | j + 1 => match l[j]? with | some p => ahead p.1 p.2.1 c.1 c.2.1 | none => true)
def cvFrom (l : List CVt) : Nat → List CVt → Bool
  | _, [] => true
  | i, c :: r => cvOk l i c && cvFrom l (i + 1) r
def cvsOk (l : List CVt) : Bool := cvFrom l 0 l && decide ((l.length : Int) ≤ 120)
theorem ahead_cmp (a b c d : Int) : decide (firstNZ [cmpI b d, cmpI a c] ≥ 0) = !(ahead a b c d) := by
  unfold firstNZ firstNZ firstNZ cmpI ahead
  by_cases h1 : b < d
  · simp [h1]
  · by_cases h2 : b > d
    · have : ¬ b = d := by omega
      simp [h1, h2, this]
    · have : b = d := by omega
      subst this
      by_cases h3 : a < c
      · simp [h3]
      · by_cases h4 : a > c <;> simp [h3, h4]
/-- what stands at a place -/
def cvAt (c r : Int) : List CVt → V3
  | [] => (0, 0, em)
  | p :: l => if p.1 = c ∧ p.2.1 = r then (p.2.2.1, p.2.2.2.1, p.2.2.2.2) else cvAt c r l
def cvIn (c r : Int) : List CVt → Bool
  | [] => false
  | p :: l => decide (p.1 = c ∧ p.2.1 = r) || cvIn c r l
theorem cvAt_out (c r : Int) : ∀ {l : List CVt}, cvIn c r l = false → cvAt c r l = (0, 0, em)
  | [], _ => rfl
  | p :: l, h => by
    simp only [cvIn, Bool.or_eq_false_iff, decide_eq_false_iff_not] at h
    simp only [cvAt, if_neg h.1, cvAt_out c r h.2]
abbrev Ch := Int × Int × ByteArray × ByteArray
def encCh (c : Ch) : List PV := [.i .i64 c.1, .i .i64 c.2.1, .s c.2.2.1, .s c.2.2.2]
theorem rows_ch {rows : List (List PV)} (h : ∀ e ∈ rows, okR [.i .i64, .i .i64, .s, .s] e) : ∃ l : List Ch, rows = l.map encCh ∧ ∀ c ∈ l, True := by
  refine rows_map (fun e h => ?_) h
  obtain ⟨c0, t0, rfl, p0, h⟩ := okR_cons h
  obtain ⟨c1, t1, rfl, p1, h1⟩ := okR_cons h
  obtain ⟨c2, t2, rfl, p2, h2⟩ := okR_cons h1
  obtain ⟨c3, t3, rfl, p3, h3⟩ := okR_cons h2
  obtain rfl := okR_nil h3
  obtain ⟨x0, rfl, _⟩ := okP_i p0
  obtain ⟨x1, rfl, _⟩ := okP_i p1
  obtain ⟨x2, rfl, _⟩ := okP_s p2
  obtain ⟨x3, rfl, _⟩ := okP_s p3
  exact ⟨(x0, x1, x2, x3), rfl, trivial⟩
theorem ch_get {l : List Ch} {i : Nat} {e : List PV} (h : (l.map encCh)[i]? = some e) : ∃ c, l[i]? = some c ∧ e = encCh c := by
  rw [List.getElem?_map] at h
  obtain ⟨c, h1, h2⟩ := Option.map_eq_some_iff.1 h
  exact ⟨c, h1, h2.symm⟩
theorem apart_ch (m sz ty : Nat) (l : List Ch) : apartR (⟨(.c (.own 0 0 0 m)), [], [⟨0, sz, ty, (.row (l.map encCh))⟩]⟩ : Res) = true := by
  simp [apartR, AV.cvs, flatO, flatB, encCh, CV.flat]
def swp (c : Ch) : Ch := (c.1, c.2.1, c.2.2.2, c.2.2.1)
def turnedL (l : List Ch) : List Ch := (l.map swp).reverse
theorem ev_of {R : Type} {F : Nat → Option R} {r : R} {k : Nat} (h : ∀ n, k ≤ n → F n = some r) : Ev F r := ⟨k, h⟩
theorem wf8 {x : Int} (h : (Lit.int .u8 x).wf = true) : 0 ≤ x ∧ x ≤ 255 := by
  simp only [Lit.wf, Bool.and_eq_true, decide_eq_true_eq] at h
  have h1 : IntKind.u8.min = 0 := by decide
  have h2 : IntKind.u8.max = 255 := by decide
  omega
theorem wrapu_in (x : Int) : 0 ≤ IntKind.u64.wrap x ∧ IntKind.u64.wrap x ≤ 18446744073709551615 := by
  unfold IntKind.wrap
  have e2 : (2 : Int) ^ 64 = 18446744073709551616 := by decide
  simp only [IntKind.signed, IntKind.bits, Bool.false_and, Bool.false_eq_true, if_false, e2]
  omega
theorem wrapu {x : Int} (h : 0 ≤ x ∧ x ≤ 18446744073709551615) : IntKind.u64.wrap x = x := by
  unfold IntKind.wrap
  have e2 : (2 : Int) ^ 64 = 18446744073709551616 := by decide
  simp only [IntKind.signed, IntKind.bits, Bool.false_and, Bool.false_eq_true, if_false, e2]
  omega
/-- a reader's bytes -/
def RdOk (l : List (List PV)) : Prop := l.length ≤ 1048576 ∧ ∀ e ∈ l, ∃ b : Int, e = [.i .u8 b] ∧ 0 ≤ b ∧ b ≤ 255
theorem rdOk_of {l : List (List PV)} (w : ∀ r ∈ l, okR [.i .u8] r) (h : ¬ (l.length : Int) > 1048576) : RdOk l := by
  refine ⟨by omega, fun e he => ?_⟩
  obtain ⟨x, r, rfl, h1, h2⟩ := okR_cons (w e he)
  obtain ⟨n, rfl, h3⟩ := okP_i h1
  obtain rfl := okR_nil h2
  exact ⟨n, rfl, wf8 h3⟩
theorem ev_laws_big (l : List (List PV)) : Ev (F_laws_big · l) (decide ((l.length : Int) > 1048576)) := by
  refine ⟨1, fun n hn => ?_⟩
  obtain ⟨m, rfl, hm⟩ := up1 hn
  simp only [F_laws_big, T_laws_big, run_done, run_fail, run_ask, run_opt, run_inl, run_inr, Option.bind_some, apart_b, apart_i, apart_s]
theorem dr_open (l : List (List PV)) : ∀ n, 1 ≤ n → F_spec_l1Open n l = some (l, 0) := fun n hn => by
  obtain ⟨m, rfl, _⟩ := up1 hn
  simp [F_spec_l1Open, T_spec_l1Open, run_done, run_fail, run_ask, run_opt, run_inl, run_inr, Option.bind_some, apart_b, apart_i, apart_s]
theorem dr_next {l : List (List PV)} {p : Int} (hl : RdOk l) (hp : 0 ≤ p ∧ p ≤ l.length) : ∃ (a p' : Int), (0 ≤ p' ∧ p' ≤ l.length) ∧ (0 ≤ a ∧ a ≤ 255) ∧ ∀ n, 1 ≤ n → F_spec_l1Rd_next n l p = some (a, l, p') := by
  have h1 := hl.1
  by_cases h : p ≥ l.length
  · refine ⟨0, p, hp, by decide, fun n hn => ?_⟩
    obtain ⟨m, rfl, _⟩ := up1 hn
    simp [F_spec_l1Rd_next, T_spec_l1Rd_next, run_done, run_fail, run_ask, run_opt, run_inl, run_inr, Option.bind_some, apart_b, apart_i, apart_s, h]
  · have hlt : p.toNat < l.length := by omega
    obtain ⟨b, hb, b0, b1⟩ := hl.2 _ (List.getElem_mem hlt)
    have hg : l[p.toNat]? = some [.i .u8 b] := by rw [List.getElem?_eq_getElem hlt, hb]
    refine ⟨b, p + 1, by omega, ⟨b0, b1⟩, fun n hn => ?_⟩
    obtain ⟨m, rfl, _⟩ := up1 hn
    have w1 : IntKind.i64.wrap (p + 1) = p + 1 := wrap64 (by omega)
    have w2 : IntKind.i64.wrap p = p := wrap64 (by omega)
    have w3 : IntKind.i64.wrap b = b := wrap64 (by omega)
    have hp2 : p < l.length := by omega
    simp [F_spec_l1Rd_next, T_spec_l1Rd_next, run_done, run_fail, run_ask, run_opt, run_inl, run_inr, Option.bind_some, apart_b, apart_i, apart_s, h, w1, w2, w3, hp.1, hp2, hg, hb, cellI]
theorem dr_below {l : List (List PV)} {p : Int} (k : Int) (hk : 1 < k ∧ k ≤ 256) (hl : RdOk l) (hp : 0 ≤ p ∧ p ≤ l.length) : ∃ (a p' : Int), (0 ≤ p' ∧ p' ≤ l.length) ∧ (0 ≤ a ∧ a < k) ∧ ∀ n, 2 ≤ n → F_spec_l1Rd_below n k l p = some (a, l, p') := by
  obtain ⟨a, p', h1, h2, h3⟩ := dr_next hl hp
  have e : Int.tmod a k = a % k := Int.tmod_eq_emod_of_nonneg h2.1
  refine ⟨a % k, p', h1, ⟨Int.emod_nonneg a (by omega), Int.emod_lt_of_pos a (by omega)⟩, fun n hn => ?_⟩
  obtain ⟨m, rfl, hm⟩ := up1 hn
  have h3 := h3 m (by omega)
  have k1 : ¬ k ≤ 1 := by omega
  have k2 : k ≤ 256 := hk.2
  have k3 : ¬ k = 0 := by omega
  simp [F_spec_l1Rd_below, T_spec_l1Rd_below, run_done, run_fail, run_ask, run_opt, run_inl, run_inr, Option.bind_some, apart_b, apart_i, apart_s, h3, k1, k2, k3, e]
theorem dr_once {l : List (List PV)} {p : Int} (k : Int) (hk : 1 < k ∧ k ≤ 256) (hl : RdOk l) (hp : 0 ≤ p ∧ p ≤ l.length) : ∃ (b : Bool) (p' : Int), (0 ≤ p' ∧ p' ≤ l.length) ∧ ∀ n, 3 ≤ n → F_spec_l1Rd_once n k l p = some (b, l, p') := by
  obtain ⟨a, p', h1, h2, h3⟩ := dr_below k hk hl hp
  refine ⟨a == IntKind.i64.wrap (k - 1), p', h1, fun n hn => ?_⟩
  obtain ⟨m, rfl, hm⟩ := up1 hn
  have h3 := h3 m (by omega)
  simp [F_spec_l1Rd_once, T_spec_l1Rd_once, run_done, run_fail, run_ask, run_opt, run_inl, run_inr, Option.bind_some, apart_b, apart_i, apart_s, h3]
theorem word_loop {l : List (List PV)} (hl : RdOk l) : ∀ (m : Nat) (i : Nat) (v p : Int), i + m = 8 → (0 ≤ p ∧ p ≤ l.length) → ∃ (r p' : Int), (0 ≤ p' ∧ p' ≤ l.length) ∧ ∀ n M, 1 ≤ n → m + 1 ≤ M → loopF (B_spec_l1Rd_word_29 n) M (v, (i : Int), l, p) = some (r, l, p')
  | 0, i, v, p, h, hp => by
    refine ⟨v, p, hp, fun n M hn hM => ?_⟩
    obtain ⟨M, rfl⟩ : ∃ q, M = q + 1 := ⟨M - 1, by omega⟩
    have hi : ¬ (i : Int) < 8 := by omega
    rw [loopF_inr (r := (v, l, p)) (by simp [B_spec_l1Rd_word_29, run_done, run_fail, run_ask, run_opt, run_inl, run_inr, Option.bind_some, apart_b, apart_i, apart_s, hi])]
  | m + 1, i, v, p, h, hp => by
    obtain ⟨a, p1, h1, h2, h3⟩ := dr_next hl hp
    obtain ⟨r, p2, h4, h5⟩ := word_loop hl m (i + 1) (IntKind.u64.wrap ((BitVec.ofInt IntKind.u64.bits (IntKind.u64.wrap (v * (2 : Int) ^ (8 : Nat))) ||| BitVec.ofInt IntKind.u64.bits (IntKind.u64.wrap a)).toNat : Int)) p1 (by omega) h1
    refine ⟨r, p2, h4, fun n M hn hM => ?_⟩
    obtain ⟨M, rfl⟩ : ∃ q, M = q + 1 := ⟨M - 1, by omega⟩
    have hi : (i : Int) < 8 := by omega
    have w1 : IntKind.i64.wrap ((i : Int) + 1) = ((i + 1 : Nat) : Int) := by rw [wrap64 (by omega)]; omega
    have h3 := h3 n hn
    rw [loopF_inl (v' := (IntKind.u64.wrap ((BitVec.ofInt IntKind.u64.bits (IntKind.u64.wrap (v * (2 : Int) ^ (8 : Nat))) ||| BitVec.ofInt IntKind.u64.bits (IntKind.u64.wrap a)).toNat : Int), ((i + 1 : Nat) : Int), l, p1)) (by
      simp only [B_spec_l1Rd_word_29, run_done, run_fail, run_ask, run_opt, run_inl, run_inr, Option.bind_some, apart_b, apart_i, apart_s, h3, w1]
      rw [if_pos (by simpa using hi)])]
    exact h5 n M hn (by omega)
theorem dr_word {l : List (List PV)} {p : Int} (hl : RdOk l) (hp : 0 ≤ p ∧ p ≤ l.length) : ∃ (r p' : Int), (0 ≤ p' ∧ p' ≤ l.length) ∧ ∀ n, 10 ≤ n → F_spec_l1Rd_word n l p = some (r, l, p') := by
  obtain ⟨r, p', h1, h2⟩ := word_loop hl 8 0 0 p rfl hp
  refine ⟨r, p', h1, fun n hn => ?_⟩
  obtain ⟨m, rfl, hm⟩ := up1 hn
  have h2 := h2 m m (by omega) (by omega)
  simp only [Int.natCast_zero] at h2
  simp only [F_spec_l1Rd_word, T_spec_l1Rd_word, run_done, run_fail, run_ask, run_opt, run_inl, run_inr, Option.bind_some, apart_b, apart_i, apart_s, h2]
theorem dr_near {l : List (List PV)} {p : Int} (lo hi : Int) (hk : -1000 ≤ lo ∧ lo ≤ hi ∧ hi ≤ 1000) (hl : RdOk l) (hp : 0 ≤ p ∧ p ≤ l.length) : ∃ (x p' : Int), (0 ≤ p' ∧ p' ≤ l.length) ∧ (-9223372036854775808 ≤ x ∧ x ≤ 9223372036854775807) ∧ ∀ n, 11 ≤ n → F_spec_l1Rd_near n lo hi l p = some (x, l, p') := by
  obtain ⟨a, p1, h1, h2, h3⟩ := dr_below 8 (by decide) hl hp
  by_cases a0 : a = 0
  · refine ⟨lo, p1, h1, by omega, fun n hn => ?_⟩
    obtain ⟨m, rfl, hm⟩ := up1 hn
    have h3 := h3 m (by omega)
    simp [F_spec_l1Rd_near, T_spec_l1Rd_near, run_done, run_fail, run_ask, run_opt, run_inl, run_inr, Option.bind_some, apart_b, apart_i, apart_s, h3, a0]
  · by_cases a1 : a = 1
    · refine ⟨hi, p1, h1, by omega, fun n hn => ?_⟩
      obtain ⟨m, rfl, hm⟩ := up1 hn
      have h3 := h3 m (by omega)
      simp [F_spec_l1Rd_near, T_spec_l1Rd_near, run_done, run_fail, run_ask, run_opt, run_inl, run_inr, Option.bind_some, apart_b, apart_i, apart_s, h3, a1]
    · obtain ⟨r, p2, h4, h5⟩ := dr_word hl h1
      refine ⟨_, p2, h4, wrap64_in (lo + IntKind.i64.wrap (Int.tmod (Int.fdiv r ((2 : Int) ^ (1 : Nat))) (IntKind.u64.wrap (IntKind.i64.wrap (IntKind.i64.wrap (hi - lo) + 1))))), fun n hn => ?_⟩
      obtain ⟨m, rfl, hm⟩ := up1 hn
      have h3 := h3 m (by omega)
      have h5 := h5 m (by omega)
      have c1 : ¬ hi < lo := by omega
      have w1 : IntKind.i64.wrap (hi - lo) = hi - lo := wrap64 (by omega)
      have w2 : IntKind.i64.wrap (hi - lo + 1) = hi - lo + 1 := wrap64 (by omega)
      have w3 : IntKind.u64.wrap (hi - lo + 1) = hi - lo + 1 := wrapu (by omega)
      have w4 : ¬ hi - lo + 1 = 0 := by omega
      simp only [F_spec_l1Rd_near, T_spec_l1Rd_near, run_done, run_fail, run_ask, run_opt, run_inl, run_inr, Option.bind_some, apart_b, apart_i, apart_s, h3, h5, w1, w2, w3]
      simp [a0, a1, c1, w4]
theorem dr_off {l : List (List PV)} {p : Int} (lo hi : Int) (hk : -1000 ≤ lo ∧ lo ≤ hi ∧ hi ≤ 1000) (hl : RdOk l) (hp : 0 ≤ p ∧ p ≤ l.length) : ∃ (x p' : Int), (0 ≤ p' ∧ p' ≤ l.length) ∧ (-9223372036854775808 ≤ x ∧ x ≤ 9223372036854775807) ∧ ∀ n, 12 ≤ n → F_spec_l1Rd_off n lo hi l p = some (x, l, p') := by
  obtain ⟨b, p1, h1, h2⟩ := dr_once 24 (by decide) hl hp
  cases b with
  | true =>
    obtain ⟨a, p2, h3, h4, h5⟩ := dr_below 4 (by decide) hl h1
    have c : a = 0 ∨ a = 1 ∨ a = 2 ∨ a = 3 := by omega
    rcases c with rfl | rfl | rfl | rfl
    · refine ⟨IntKind.i64.wrap (lo - 1), p2, h3, wrap64_in _, fun n hn => ?_⟩
      obtain ⟨m, rfl, hm⟩ := up1 hn
      have h2 := h2 m (by omega)
      have h5 := h5 m (by omega)
      simp [F_spec_l1Rd_off, T_spec_l1Rd_off, run_done, run_fail, run_ask, run_opt, run_inl, run_inr, Option.bind_some, apart_b, apart_i, apart_s, h2, h5, cellI]
    · refine ⟨IntKind.i64.wrap (hi + 1), p2, h3, wrap64_in _, fun n hn => ?_⟩
      obtain ⟨m, rfl, hm⟩ := up1 hn
      have h2 := h2 m (by omega)
      have h5 := h5 m (by omega)
      simp [F_spec_l1Rd_off, T_spec_l1Rd_off, run_done, run_fail, run_ask, run_opt, run_inl, run_inr, Option.bind_some, apart_b, apart_i, apart_s, h2, h5, cellI]
    · refine ⟨-9223372036854775808, p2, h3, by decide, fun n hn => ?_⟩
      obtain ⟨m, rfl, hm⟩ := up1 hn
      have h2 := h2 m (by omega)
      have h5 := h5 m (by omega)
      simp [F_spec_l1Rd_off, T_spec_l1Rd_off, run_done, run_fail, run_ask, run_opt, run_inl, run_inr, Option.bind_some, apart_b, apart_i, apart_s, h2, h5, cellI]
    · refine ⟨9223372036854775807, p2, h3, by decide, fun n hn => ?_⟩
      obtain ⟨m, rfl, hm⟩ := up1 hn
      have h2 := h2 m (by omega)
      have h5 := h5 m (by omega)
      simp [F_spec_l1Rd_off, T_spec_l1Rd_off, run_done, run_fail, run_ask, run_opt, run_inl, run_inr, Option.bind_some, apart_b, apart_i, apart_s, h2, h5, cellI]
  | false =>
    obtain ⟨x, p2, h3, h4, h5⟩ := dr_near lo hi hk hl h1
    refine ⟨x, p2, h3, h4, fun n hn => ?_⟩
    obtain ⟨m, rfl, hm⟩ := up1 hn
    have h2 := h2 m (by omega)
    have h5 := h5 m (by omega)
    simp [F_spec_l1Rd_off, T_spec_l1Rd_off, run_done, run_fail, run_ask, run_opt, run_inl, run_inr, Option.bind_some, apart_b, apart_i, apart_s, h2, h5]
def rng (a : Int) : Nat → List Int
  | 0 => []
  | n + 1 => a :: rng (a + 1) n
theorem rng_len : ∀ (n : Nat) (a : Int), (rng a n).length = n
  | 0, a => rfl
  | n + 1, a => by simp [rng, rng_len n]
def encRf (x : Int × Int) : List PV := [.i .i64 x.1, .i .i64 x.2]
def rowC (a : Int) (n : Nat) (r : Int) : List (Int × Int) := (rng a n).map fun x => (x, r)
def cellsP (a b c d : Int) : List (Int × Int) := (rng b (d - b + 1).toNat).flatMap fun r => rowC a (c - a + 1).toNat r
def cellsL (a b c d : Int) : List (Int × Int) := if okArea a b c d = true then cellsP a b c d else []
theorem okArea_in {a b c d : Int} (h : okArea a b c d = true) : (1 ≤ a ∧ a ≤ 52) ∧ (1 ≤ b ∧ b ≤ 99) ∧ (1 ≤ c ∧ c ≤ 52) ∧ (1 ≤ d ∧ d ≤ 99) ∧ a ≤ c ∧ b ≤ d := by
  simp only [okArea, okRef, Bool.and_eq_true, decide_eq_true_eq] at h
  obtain ⟨⟨⟨⟨h1, h2⟩, h3, h4⟩, h5⟩, h6⟩ := h
  exact ⟨h1, h2, h3, h4, h5, h6⟩
theorem okArea_of {a b c d : Int} (h : (1 ≤ a ∧ a ≤ 52) ∧ (1 ≤ b ∧ b ≤ 99) ∧ (1 ≤ c ∧ c ≤ 52) ∧ (1 ≤ d ∧ d ≤ 99) ∧ a ≤ c ∧ b ≤ d) : okArea a b c d = true := by
  obtain ⟨h1, h2, h3, h4, h5, h6⟩ := h
  simp only [okArea, okRef, Bool.and_eq_true, decide_eq_true_eq]
  exact ⟨⟨⟨⟨h1, h2⟩, h3, h4⟩, h5⟩, h6⟩
theorem spec_cells_in (n : Nat) (row a b c d : Int) (hc : c ≤ 52) : ∀ (k : Nat) (col : Int) (acc : List (Int × Int)) (M : Nat), 1 ≤ col → col + k = c + 1 → k + 1 ≤ M → acc.length + k ≤ 100000 →
    loopF (B_spec_CellsOf_493 n) M (acc.length, row, col, a, b, c, d, acc.map encRf) = some ((acc ++ rowC col k row).length, row, a, b, c, d, (acc ++ rowC col k row).map encRf)
  | k, col, acc, 0, h0, h1, h2, h3 => by omega
  | 0, col, acc, M + 1, h0, h1, h2, h3 => by
    rw [loopF_inr (r := (acc.length, row, a, b, c, d, acc.map encRf)) (by simp [B_spec_CellsOf_493, run_done, run_fail, run_ask, run_opt, run_inl, run_inr, Option.bind_some, apart_b, apart_i, apart_s, show ¬ col ≤ c by omega])]
    simp [rowC, rng]
  | k + 1, col, acc, M + 1, h0, h1, h2, h3 => by
    have w1 : IntKind.i64.wrap (col + 1) = col + 1 := wrap64 (by omega)
    have hl : (acc ++ [(col, row)]).length = acc.length + 1 := by simp
    rw [loopF_inl (v' := ((acc ++ [(col, row)]).length, row, col + 1, a, b, c, d, (acc ++ [(col, row)]).map encRf)) (by
      have e1 : (acc.length + 1) * 16 ≤ 140737488355328 := by omega
      simp [B_spec_CellsOf_493, run_done, run_fail, run_ask, run_opt, run_inl, run_inr, Option.bind_some, apart_b, apart_i, apart_s, show col ≤ c by omega, w1, encRf, e1])]
    rw [spec_cells_in n row a b c d hc k (col + 1) (acc ++ [(col, row)]) M (by omega) (by omega) (by omega) (by rw [hl]; omega)]
    simp [rowC, rng]
theorem spec_cells_out (n : Nat) (hn : 60 ≤ n) (a b c d : Int) (ha : 1 ≤ a) (hac : a ≤ c) (hc : c ≤ 52) (hd : d ≤ 99) : ∀ (k : Nat) (row : Int) (acc : List (Int × Int)) (M : Nat), 1 ≤ row → row + k = d + 1 → k + 1 ≤ M → acc.length + k * 52 ≤ 10000 →
    loopF (B_spec_CellsOf_61 n) M (acc.length, row, a, b, c, d, acc.map encRf) = some ((acc ++ (rng row k).flatMap (rowC a (c - a + 1).toNat)).length, (acc ++ (rng row k).flatMap (rowC a (c - a + 1).toNat)).map encRf)
  | k, row, acc, 0, h0, h1, h2, h3 => by omega
  | 0, row, acc, M + 1, h0, h1, h2, h3 => by
    rw [loopF_inr (r := (acc.length, acc.map encRf)) (by simp [B_spec_CellsOf_61, run_done, run_fail, run_ask, run_opt, run_inl, run_inr, Option.bind_some, apart_b, apart_i, apart_s, show ¬ row ≤ d by omega])]
    simp [rng]
  | k + 1, row, acc, M + 1, h0, h1, h2, h3 => by
    have w1 : IntKind.i64.wrap (row + 1) = row + 1 := wrap64 (by omega)
    have hin := spec_cells_in n row a b c d hc (c - a + 1).toNat a acc n ha (by omega) (by omega) (by omega)
    have hl : (acc ++ rowC a (c - a + 1).toNat row).length = acc.length + (c - a + 1).toNat := by simp [rowC, rng_len]
    rw [loopF_inl (v' := ((acc ++ rowC a (c - a + 1).toNat row).length, row + 1, a, b, c, d, (acc ++ rowC a (c - a + 1).toNat row).map encRf)) (by
      simp only [B_spec_CellsOf_61, run_done, run_fail, run_ask, run_opt, run_inl, run_inr, Option.bind_some, apart_b, apart_i, apart_s, hin, w1]
      rw [if_pos (by simp; omega)])]
    rw [spec_cells_out n hn a b c d ha hac hc hd k (row + 1) (acc ++ rowC a (c - a + 1).toNat row) M (by omega) (by omega) (by omega) (by rw [hl]; omega)]
    simp [rng]
theorem ev_spec_CellsOf (a b c d : Int) : Ev (F_spec_CellsOf · a b c d) ((cellsL a b c d).map encRf) := by
  obtain ⟨n1, h1⟩ := ev_spec_AreaOk a b c d
  refine ⟨n1 + 200, fun n hn => ?_⟩
  obtain ⟨m, rfl, hm⟩ := up1 hn
  have h1 := h1 m (by omega)
  dsimp only at h1
  cases ho : okArea a b c d with
  | false => simp [F_spec_CellsOf, T_spec_CellsOf, run_done, run_fail, run_ask, run_opt, run_inl, run_inr, Option.bind_some, apart_b, apart_i, apart_s, h1, ho, cellsL]
  | true =>
    obtain ⟨q1, q2, q3, q4, q5, q6⟩ := okArea_in ho
    have h2 := spec_cells_out m (by omega) a b c d (by omega) q5 (by omega) (by omega) (d - b + 1).toNat b [] m (by omega) (by omega) (by omega) (by simp; omega)
    simp only [List.length_nil, List.map_nil, List.nil_append] at h2
    simp only [F_spec_CellsOf, T_spec_CellsOf, run_done, run_fail, run_ask, run_opt, run_inl, run_inr, Option.bind_some, apart_b, apart_i, apart_s, h1, ho, h2]
    simp [cellsL, ho, cellsP]
theorem impl_cells_in (n : Nat) (row a b c d : Int) (hc : c ≤ 52) : ∀ (k : Nat) (col : Int) (acc : List (Int × Int)) (M : Nat), 1 ≤ col → col + k = c + 1 → k + 1 ≤ M → acc.length + k ≤ 100000 →
    loopF (B_impl_CellsOf_493 n) M (acc.length, row, col, a, b, c, d, acc.map encRf) = some ((acc ++ rowC col k row).length, row, a, b, c, d, (acc ++ rowC col k row).map encRf)
  | k, col, acc, 0, h0, h1, h2, h3 => by omega
  | 0, col, acc, M + 1, h0, h1, h2, h3 => by
    rw [loopF_inr (r := (acc.length, row, a, b, c, d, acc.map encRf)) (by simp [B_impl_CellsOf_493, run_done, run_fail, run_ask, run_opt, run_inl, run_inr, Option.bind_some, apart_b, apart_i, apart_s, show ¬ col ≤ c by omega])]
    simp [rowC, rng]
  | k + 1, col, acc, M + 1, h0, h1, h2, h3 => by
    have w1 : IntKind.i64.wrap (col + 1) = col + 1 := wrap64 (by omega)
    have hl : (acc ++ [(col, row)]).length = acc.length + 1 := by simp
    rw [loopF_inl (v' := ((acc ++ [(col, row)]).length, row, col + 1, a, b, c, d, (acc ++ [(col, row)]).map encRf)) (by
      have e1 : (acc.length + 1) * 16 ≤ 140737488355328 := by omega
      simp [B_impl_CellsOf_493, run_done, run_fail, run_ask, run_opt, run_inl, run_inr, Option.bind_some, apart_b, apart_i, apart_s, show col ≤ c by omega, w1, encRf, e1])]
    rw [impl_cells_in n row a b c d hc k (col + 1) (acc ++ [(col, row)]) M (by omega) (by omega) (by omega) (by rw [hl]; omega)]
    simp [rowC, rng]
theorem impl_cells_out (n : Nat) (hn : 60 ≤ n) (a b c d : Int) (ha : 1 ≤ a) (hac : a ≤ c) (hc : c ≤ 52) (hd : d ≤ 99) : ∀ (k : Nat) (row : Int) (acc : List (Int × Int)) (M : Nat), 1 ≤ row → row + k = d + 1 → k + 1 ≤ M → acc.length + k * 52 ≤ 10000 →
    loopF (B_impl_CellsOf_61 n) M (acc.length, row, a, b, c, d, acc.map encRf) = some ((acc ++ (rng row k).flatMap (rowC a (c - a + 1).toNat)).length, (acc ++ (rng row k).flatMap (rowC a (c - a + 1).toNat)).map encRf)
  | k, row, acc, 0, h0, h1, h2, h3 => by omega
  | 0, row, acc, M + 1, h0, h1, h2, h3 => by
    rw [loopF_inr (r := (acc.length, acc.map encRf)) (by simp [B_impl_CellsOf_61, run_done, run_fail, run_ask, run_opt, run_inl, run_inr, Option.bind_some, apart_b, apart_i, apart_s, show ¬ row ≤ d by omega])]
    simp [rng]
  | k + 1, row, acc, M + 1, h0, h1, h2, h3 => by
    have w1 : IntKind.i64.wrap (row + 1) = row + 1 := wrap64 (by omega)
    have hin := impl_cells_in n row a b c d hc (c - a + 1).toNat a acc n ha (by omega) (by omega) (by omega)
    have hl : (acc ++ rowC a (c - a + 1).toNat row).length = acc.length + (c - a + 1).toNat := by simp [rowC, rng_len]
    rw [loopF_inl (v' := ((acc ++ rowC a (c - a + 1).toNat row).length, row + 1, a, b, c, d, (acc ++ rowC a (c - a + 1).toNat row).map encRf)) (by
      simp only [B_impl_CellsOf_61, run_done, run_fail, run_ask, run_opt, run_inl, run_inr, Option.bind_some, apart_b, apart_i, apart_s, hin, w1]
      rw [if_pos (by simp; omega)])]
    rw [impl_cells_out n hn a b c d ha hac hc hd k (row + 1) (acc ++ rowC a (c - a + 1).toNat row) M (by omega) (by omega) (by omega) (by rw [hl]; omega)]
    simp [rng]
theorem ev_impl_CellsOf (a b c d : Int) : Ev (F_impl_CellsOf · a b c d) ((cellsL a b c d).map encRf) := by
  obtain ⟨n1, h1⟩ := ev_impl_AreaOk a b c d
  refine ⟨n1 + 200, fun n hn => ?_⟩
  obtain ⟨m, rfl, hm⟩ := up1 hn
  have h1 := h1 m (by omega)
  dsimp only at h1
  cases ho : okArea a b c d with
  | false => simp [F_impl_CellsOf, T_impl_CellsOf, run_done, run_fail, run_ask, run_opt, run_inl, run_inr, Option.bind_some, apart_b, apart_i, apart_s, h1, ho, cellsL]
  | true =>
    obtain ⟨q1, q2, q3, q4, q5, q6⟩ := okArea_in ho
    have h2 := impl_cells_out m (by omega) a b c d (by omega) q5 (by omega) (by omega) (d - b + 1).toNat b [] m (by omega) (by omega) (by omega) (by simp; omega)
    simp only [List.length_nil, List.map_nil, List.nil_append] at h2
    simp only [F_impl_CellsOf, T_impl_CellsOf, run_done, run_fail, run_ask, run_opt, run_inl, run_inr, Option.bind_some, apart_b, apart_i, apart_s, h1, ho, h2]
    simp [cellsL, ho, cellsP]
theorem ev_laws_sameRefs (l : List (Int × Int)) (hb : l.length ≤ 140737488351232) : Ev (F_laws_sameRefs · (l.map encRf) (l.map encRf)) true := by
  refine ⟨l.length + 5, fun n hn => ?_⟩
  obtain ⟨m, rfl, hm⟩ := up1 hn
  simp only [F_laws_sameRefs, T_laws_sameRefs, run_done, run_fail, run_ask, run_opt, run_inl, run_inr, Option.bind_some, apart_b, apart_i, apart_s]
  have h := eq_loop (B := B_laws_sameRefs_29 m) (rows := l.map encRf) (r := .inr ())
    (fun i e he => by
      rw [List.getElem?_map, Option.map_eq_some_iff] at he
      obtain ⟨c, hc, rfl⟩ := he
      have hi : i < l.length := (List.getElem?_eq_some_iff.1 hc).1
      have hi' : (i : Int) < l.length := by omega
      have hw : IntKind.i64.wrap ((i : Int) + 1) = (i : Int) + 1 := wrap64 (by omega)
      simp [B_laws_sameRefs_29, run_done, run_fail, run_ask, run_opt, run_inl, run_inr, Option.bind_some, apart_b, apart_i, apart_s, hi', hc, encRf, cellI, hw])
    (by simp [B_laws_sameRefs_29, run_done, run_fail, run_ask, run_opt, run_inl, run_inr, Option.bind_some, apart_b, apart_i, apart_s]) l.length 0 m (by simp) (by omega)
  simp only [Int.natCast_zero] at h
  simp [h, run_done, run_fail, run_ask, run_opt, run_inl, run_inr, Option.bind_some, apart_b, apart_i, apart_s]
def inAr (a b c d : Int) (x : Int × Int) : Bool := decide (x.1 ≥ a) && (decide (x.1 ≤ c) && (decide (x.2 ≥ b) && decide (x.2 ≤ d)))
theorem un_laws_within (n : Nat) (x y a b c d : Int) : F_laws_within (n + 1) x y a b c d = some (inAr a b c d (x, y)) := by
  simp only [F_laws_within, T_laws_within, run_done, run_fail, run_ask, run_opt, run_inl, run_inr, Option.bind_some, apart_b, apart_i, apart_s, inAr]
  by_cases h1 : x ≥ a
  · by_cases h2 : x ≤ c
    · by_cases h3 : y ≥ b <;> simp [h1, h2, h3]
    · simp [h1, h2]
  · simp [h1]
theorem dr_ref {l : List (List PV)} {p : Int} (hl : RdOk l) (hp : 0 ≤ p ∧ p ≤ l.length) : ∃ (a b p' : Int), (0 ≤ p' ∧ p' ≤ l.length) ∧ ∀ n, 3 ≤ n → F_spec_l1Rd_ref n l p = some (a, b, l, p') := by
  obtain ⟨a, p1, h1, h2, h3⟩ := dr_below 3 (by decide) hl hp
  obtain ⟨b, p2, h4, h5, h6⟩ := dr_below 4 (by decide) hl h1
  refine ⟨IntKind.i64.wrap (1 + a), IntKind.i64.wrap (1 + b), p2, h4, fun n hn => ?_⟩
  obtain ⟨m, rfl, hm⟩ := up1 hn
  have h3 := h3 m (by omega)
  have h6 := h6 m (by omega)
  simp [F_spec_l1Rd_ref, T_spec_l1Rd_ref, run_done, run_fail, run_ask, run_opt, run_inl, run_inr, Option.bind_some, apart_b, apart_i, apart_s, h3, h6]
theorem dr_area {l : List (List PV)} {p : Int} (hl : RdOk l) (hp : 0 ≤ p ∧ p ≤ l.length) : ∃ (a b c d p' : Int), (0 ≤ p' ∧ p' ≤ l.length) ∧ ∀ n, 13 ≤ n → F_spec_l1Rd_area n l p = some (a, b, c, d, l, p') := by
  obtain ⟨a, b, p1, h1, h2⟩ := dr_ref hl hp
  obtain ⟨c, d, p2, h3, h4⟩ := dr_ref hl h1
  obtain ⟨o, p3, h5, h6⟩ := dr_once 20 (by decide) hl h3
  cases o with
  | true =>
    obtain ⟨x, p4, h7, _, h8⟩ := dr_off 1 99 (by decide) hl h5
    refine ⟨(if c < a then c else a), (if d < b then d else b), (if c > a then c else a), x, p4, h7, fun n hn => ?_⟩
    obtain ⟨m, rfl, hm⟩ := up1 hn
    have h2 := h2 m (by omega)
    have h4 := h4 m (by omega)
    have h6 := h6 m (by omega)
    have h8 := h8 m (by omega)
    simp [F_spec_l1Rd_area, T_spec_l1Rd_area, run_done, run_fail, run_ask, run_opt, run_inl, run_inr, Option.bind_some, apart_b, apart_i, apart_s, h2, h4, h6, h8]
  | false =>
    refine ⟨(if c < a then c else a), (if d < b then d else b), (if c > a then c else a), (if d > b then d else b), p3, h5, fun n hn => ?_⟩
    obtain ⟨m, rfl, hm⟩ := up1 hn
    have h2 := h2 m (by omega)
    have h4 := h4 m (by omega)
    have h6 := h6 m (by omega)
    simp [F_spec_l1Rd_area, T_spec_l1Rd_area, run_done, run_fail, run_ask, run_opt, run_inl, run_inr, Option.bind_some, apart_b, apart_i, apart_s, h2, h4, h6]
theorem dr_DrawCommon {l : List (List PV)} (hl : RdOk l) : ∃ (a b c d a' b' c' d' : Int), ∀ n, 14 ≤ n → F_spec_DrawCommon n l = some (a, b, c, d, a', b', c', d') := by
  have h0 := dr_open l
  obtain ⟨a, b, c, d, p1, h1, h2⟩ := dr_area hl (p := 0) (by omega)
  obtain ⟨a', b', c', d', p2, h3, h4⟩ := dr_area hl h1
  refine ⟨a, b, c, d, a', b', c', d', fun n hn => ?_⟩
  obtain ⟨m, rfl, hm⟩ := up1 hn
  have h0 := h0 m (by omega)
  have h2 := h2 m (by omega)
  have h4 := h4 m (by omega)
  simp [F_spec_DrawCommon, T_spec_DrawCommon, run_done, run_fail, run_ask, run_opt, run_inl, run_inr, Option.bind_some, apart_b, apart_i, apart_s, h0, h2, h4]
/-- how many of a row of numbers stand between two -/
def spanN (a : Int) (n : Nat) (lo hi : Int) : Nat := ((if hi < a + n - 1 then hi else a + n - 1) - (if lo > a then lo else a) + 1).toNat
theorem rng_filter (lo hi : Int) : ∀ (n : Nat) (a : Int), ((rng a n).filter fun x => decide (x ≥ lo) && decide (x ≤ hi)).length = spanN a n lo hi
  | 0, a => by
    simp only [rng, List.filter_nil, List.length_nil, spanN]
    split <;> split <;> omega
  | n + 1, a => by
    have ih := rng_filter lo hi n (a + 1)
    simp only [rng, List.filter_cons]
    by_cases h : a ≥ lo ∧ a ≤ hi
    · have e : (decide (a ≥ lo) && decide (a ≤ hi)) = true := by simp [h]
      rw [if_pos e, List.length_cons, ih]
      unfold spanN
      split <;> split <;> split <;> split <;> omega
    · have e : ¬ (decide (a ≥ lo) && decide (a ≤ hi)) = true := by simpa using fun h1 => Int.not_le.1 fun h2 => h ⟨h1, h2⟩
      rw [if_neg e, ih]
      unfold spanN
      split <;> split <;> split <;> split <;> omega
theorem row_filter (a : Int) (n : Nat) (r a' b' c' d' : Int) : ((rowC a n r).filter (inAr a' b' c' d')).length = if decide (r ≥ b') && decide (r ≤ d') then spanN a n a' c' else 0 := by
  rw [← rng_filter a' c' n a]
  unfold rowC
  rw [List.filter_map, List.length_map]
  by_cases h : (decide (r ≥ b') && decide (r ≤ d')) = true
  · rw [if_pos h]
    congr 2
    funext x
    have h' : (decide (b' ≤ r) && decide (r ≤ d')) = true := h
    simp [inAr, Function.comp]
    simp at h'
    simp [h']
  · rw [if_neg h]
    rw [List.filter_eq_nil_iff.2, List.length_nil]
    intro x _
    simp only [inAr, Function.comp]
    intro hx
    simp only [Bool.and_eq_true] at hx
    exact h (by simp only [Bool.and_eq_true]; exact hx.2.2)
theorem cells_filter (a : Int) (n : Nat) (a' b' c' d' : Int) : ∀ (m : Nat) (b : Int), (((rng b m).flatMap fun r => rowC a n r).filter (inAr a' b' c' d')).length = spanN a n a' c' * spanN b m b' d'
  | m, b => by
    rw [← rng_filter b' d' m b]
    induction m generalizing b with
    | zero => simp [rng]
    | succ m ih =>
      simp only [rng, List.flatMap_cons, List.filter_append, List.length_append, List.filter_cons, ih, row_filter]
      split
      · rw [List.length_cons, Nat.mul_succ, Nat.add_comm]
      · simp
theorem cells_length (a : Int) (n : Nat) : ∀ (m : Nat) (b : Int), ((rng b m).flatMap fun r => rowC a n r).length = n * m
  | 0, b => by simp [rng]
  | m + 1, b => by
    simp only [rng, List.flatMap_cons, List.length_append]
    rw [cells_length a n m, Nat.mul_succ, Nat.add_comm]
    simp [rowC, rng_len]
theorem rng_mem : ∀ (n : Nat) (a x : Int), x ∈ rng a n → a ≤ x ∧ x < a + n
  | 0, a, x, h => by cases h
  | n + 1, a, x, h => by
    rcases List.mem_cons.1 h with rfl | h
    · omega
    · have := rng_mem n (a + 1) x h; omega
theorem cells_in {a b c d : Int} (h1 : a ≤ c) (h2 : b ≤ d) : ∀ x ∈ cellsP a b c d, inAr a b c d x = true := by
  intro x hx
  obtain ⟨r, hr, hx⟩ := List.mem_flatMap.1 hx
  obtain ⟨q, hq, rfl⟩ := List.mem_map.1 hx
  have := rng_mem _ _ _ hr
  have := rng_mem _ _ _ hq
  simp [inAr]
  omega
theorem areas_loop (n n2 : Nat) (hn : n2 ≤ n) (h1n : 1 ≤ n) (l : List (Int × Int)) (hb : l.length ≤ 100000) (ok : Bool) (a b c d a' b' c' d' w x y z : Int) (hA : ∀ k, n2 ≤ k → F_impl_AreaOk k a' b' c' d' = some (okArea a' b' c' d')) :
    ∀ (r pre : List (Int × Int)) (many : Nat) (M : Nat), l = pre ++ r → (∀ q ∈ r, inAr a b c d q = true) → many ≤ pre.length → r.length + 1 ≤ M →
      loopF (B_laws_FnAreas_4093 n) M (l.map encRf, ok, (many : Int), (pre.length : Int), a, b, c, d, a', b', c', d', w, x, y, z) = some (.inr (ok, ((many + if okArea a' b' c' d' = true then (r.filter (inAr a' b' c' d')).length else 0 : Nat) : Int), w, x, y, z))
  | r, pre, many, 0, h1, h2, h3, h4 => by omega
  | [], pre, many, M + 1, h1, h2, h3, h4 => by
    have hi : ¬ (pre.length : Int) < l.length := by rw [h1]; simp
    rw [loopF_inr (r := .inr (ok, (many : Int), w, x, y, z)) (by simp [B_laws_FnAreas_4093, run_done, run_fail, run_ask, run_opt, run_inl, run_inr, Option.bind_some, apart_b, apart_i, apart_s, hi])]
    simp
  | q :: r, pre, many, M + 1, h1, h2, h3, h4 => by
    obtain ⟨n, rfl⟩ : ∃ k, n = k + 1 := ⟨n - 1, by omega⟩
    have hlen : l.length = pre.length + (r.length + 1) := by rw [h1]; simp
    have hi : (pre.length : Int) < l.length := by omega
    have hg : l[pre.length]? = some q := by rw [h1]; simp
    have hq := h2 q (List.mem_cons_self ..)
    have hA := hA (n + 1) hn
    have w1 : IntKind.i64.wrap ((pre.length : Int) + 1) = (pre.length : Int) + 1 := wrap64 (by omega)
    have w2 : IntKind.i64.wrap ((many : Int) + 1) = (many : Int) + 1 := wrap64 (by omega)
    have e0 : ((pre ++ [q]).length : Int) = (pre.length : Int) + 1 := by simp
    have u1 : ∀ a b c d, F_laws_within (n + 1) q.1 q.2 a b c d = some (inAr a b c d q) := fun a b c d => un_laws_within n q.1 q.2 a b c d
    by_cases hB : okArea a' b' c' d' = true
    · by_cases hin : inAr a' b' c' d' q = true
      · rw [loopF_inl (v' := (l.map encRf, ok, ((many + 1 : Nat) : Int), ((pre ++ [q]).length : Int), a, b, c, d, a', b', c', d', w, x, y, z)) (by
          rw [e0]
          simp [B_laws_FnAreas_4093, run_done, run_fail, run_ask, run_opt, run_inl, run_inr, Option.bind_some, apart_b, apart_i, apart_s, hi, hg, encRf, cellI, u1, hq, hA, hB, hin, w1, w2])]
        rw [areas_loop (n + 1) n2 hn h1n l hb ok a b c d a' b' c' d' w x y z (by assumption) r (pre ++ [q]) (many + 1) M (by rw [h1]; simp) (fun k hk => h2 k (List.mem_cons_of_mem _ hk)) (by simp; omega) (by simp at h4; omega)]
        simp only [hB, if_true, List.filter_cons, hin, List.length_cons]
        congr 4
        omega
      · rw [loopF_inl (v' := (l.map encRf, ok, (many : Int), ((pre ++ [q]).length : Int), a, b, c, d, a', b', c', d', w, x, y, z)) (by
          rw [e0]
          simp [B_laws_FnAreas_4093, run_done, run_fail, run_ask, run_opt, run_inl, run_inr, Option.bind_some, apart_b, apart_i, apart_s, hi, hg, encRf, cellI, u1, hq, hA, hB, hin, w1])]
        rw [areas_loop (n + 1) n2 hn h1n l hb ok a b c d a' b' c' d' w x y z (by assumption) r (pre ++ [q]) many M (by rw [h1]; simp) (fun k hk => h2 k (List.mem_cons_of_mem _ hk)) (by simp; omega) (by simp at h4; omega)]
        simp only [hB, if_true, List.filter_cons, hin, if_false, Bool.false_eq_true]
    · rw [loopF_inl (v' := (l.map encRf, ok, (many : Int), ((pre ++ [q]).length : Int), a, b, c, d, a', b', c', d', w, x, y, z)) (by
        rw [e0]
        simp [B_laws_FnAreas_4093, run_done, run_fail, run_ask, run_opt, run_inl, run_inr, Option.bind_some, apart_b, apart_i, apart_s, hi, hg, encRf, cellI, u1, hq, hA, hB, w1])]
      rw [areas_loop (n + 1) n2 hn h1n l hb ok a b c d a' b' c' d' w x y z (by assumption) r (pre ++ [q]) many M (by rw [h1]; simp) (fun k hk => h2 k (List.mem_cons_of_mem _ hk)) (by simp; omega) (by simp at h4; omega)]
      simp only [hB, if_false, Bool.false_eq_true]
/-- what two areas have in common has as many cells as those of the one that stand in the other -/
theorem common_count {a b c d a' b' c' d' : Int} (hA : okArea a b c d = true) :
    ((cellsL (common a b c d a' b' c' d').1 (common a b c d a' b' c' d').2.1 (common a b c d a' b' c' d').2.2.1 (common a b c d a' b' c' d').2.2.2.1).length = if okArea a' b' c' d' = true then ((cellsL a b c d).filter (inAr a' b' c' d')).length else 0) ∧
    ((common a b c d a' b' c' d').2.2.2.2 = true ↔ 0 < if okArea a' b' c' d' = true then ((cellsL a b c d).filter (inAr a' b' c' d')).length else 0) := by
  have z : cellsL 0 0 0 0 = [] := rfl
  by_cases hB : okArea a' b' c' d' = true
  · obtain ⟨p1, p2, p3, p4, p5, p6⟩ := okArea_in hA
    obtain ⟨q1, q2, q3, q4, q5, q6⟩ := okArea_in hB
    have e1 : ((cellsL a b c d).filter (inAr a' b' c' d')).length = spanN a (c - a + 1).toNat a' c' * spanN b (d - b + 1).toNat b' d' := by
      rw [cellsL, if_pos hA, cellsP, cells_filter]
    have s1 : spanN a (c - a + 1).toNat a' c' = ((if c' < c then c' else c) - (if a' > a then a' else a) + 1).toNat := by
      have : a + ((c - a + 1).toNat : Int) - 1 = c := by omega
      unfold spanN; rw [this]
    have s2 : spanN b (d - b + 1).toNat b' d' = ((if d' < d then d' else d) - (if b' > b then b' else b) + 1).toNat := by
      have : b + ((d - b + 1).toNat : Int) - 1 = d := by omega
      unfold spanN; rw [this]
    rw [if_pos hB, e1, s1, s2]
    unfold common
    by_cases hI : okArea (if a' > a then a' else a) (if b' > b then b' else b) (if c' < c then c' else c) (if d' < d then d' else d) = true
    · rw [if_pos ⟨hA, hB, hI⟩]
      obtain ⟨r1, r2, r3, r4, r5, r6⟩ := okArea_in hI
      refine ⟨?_, ?_⟩
      · simp only
        rw [cellsL, if_pos hI, cellsP, cells_length]
      · simp only [true_iff]
        exact Nat.mul_pos (by omega) (by omega)
    · rw [if_neg (fun h => hI h.2.2)]
      have h0 : ((if c' < c then c' else c) - (if a' > a then a' else a) + 1).toNat * ((if d' < d then d' else d) - (if b' > b then b' else b) + 1).toNat = 0 := by
        by_cases g1 : (if a' > a then a' else a) ≤ (if c' < c then c' else c)
        · by_cases g2 : (if b' > b then b' else b) ≤ (if d' < d then d' else d)
          · refine absurd (okArea_of ⟨?_, ?_, ?_, ?_, g1, g2⟩) hI
            all_goals (split <;> omega)
          · have : ((if d' < d then d' else d) - (if b' > b then b' else b) + 1).toNat = 0 := by omega
            rw [this, Nat.mul_zero]
        · have : ((if c' < c then c' else c) - (if a' > a then a' else a) + 1).toNat = 0 := by omega
          rw [this, Nat.zero_mul]
      rw [h0]
      simp [z]
  · rw [if_neg hB]
    unfold common
    rw [if_neg (fun h => hB h.2.1)]
    simp [z]
theorem law (rows : List (List PV)) (w : rows.length * 1 ≤ 140737488351232 ∧ ∀ r ∈ rows, okR [.i .u8] r) : Ev (F_laws_FnAreas · rows) true := by
  by_cases hb : (rows.length : Int) > 1048576
  · obtain ⟨n1, h1⟩ := ev_laws_big rows
    refine ⟨n1 + 1, fun n hn => ?_⟩
    obtain ⟨m, rfl, hm⟩ := up1 hn
    have h1 := h1 m (by omega)
    dsimp only at h1
    simp only [F_laws_FnAreas, T_laws_FnAreas, run_done, run_fail, run_ask, run_opt, run_inl, run_inr, Option.bind_some, apart_b, apart_i, apart_s, h1]
    simp [hb]
  · have hl := rdOk_of w.2 hb
    obtain ⟨a, b, c, d, a', b', c', d', d1⟩ := dr_DrawCommon hl
    have hlen : (cellsL a b c d).length ≤ 100000 := by
      unfold cellsL
      split
      · rename_i h
        obtain ⟨p1, p2, p3, p4, p5, p6⟩ := okArea_in h
        rw [cellsP, cells_length]
        exact Nat.le_trans (Nat.mul_le_mul (show (c - a + 1).toNat ≤ 52 by omega) (show (d - b + 1).toNat ≤ 99 by omega)) (by decide)
      · simp
    cases hA : okArea a b c d with
    | false =>
      have hc : cellsL a b c d = [] := by simp [cellsL, hA]
      obtain ⟨n1, h1⟩ := ev_laws_big rows
      obtain ⟨n2, h2⟩ := ev_of d1
      obtain ⟨n3, h3⟩ := ev_impl_CellsOf a b c d
      obtain ⟨n4, h4⟩ := ev_impl_Common a b c d a' b' c' d'
      obtain ⟨n5, h5⟩ := ev_spec_Common a b c d a' b' c' d'
      obtain ⟨n6, h6⟩ := ev_spec_CellsOf a b c d
      obtain ⟨n7, h7⟩ := ev_laws_sameRefs (cellsL a b c d) (by omega)
      obtain ⟨n8, h8⟩ := ev_impl_AreaOk a b c d
      obtain ⟨n9, h9⟩ := ev_spec_AreaOk a b c d
      refine ⟨n1 + n2 + n3 + n4 + n5 + n6 + n7 + n8 + n9 + 1, fun n hn => ?_⟩
      obtain ⟨m, rfl, hm⟩ := up1 hn
      have h1 := h1 m (by omega)
      dsimp only at h1
      have h2 := h2 m (by omega)
      dsimp only at h2
      have h3 := h3 m (by omega)
      dsimp only at h3
      have h4 := h4 m (by omega)
      dsimp only at h4
      have h5 := h5 m (by omega)
      dsimp only at h5
      have h6 := h6 m (by omega)
      dsimp only at h6
      have h7 := h7 m (by omega)
      dsimp only at h7
      have h8 := h8 m (by omega)
      dsimp only at h8
      have h9 := h9 m (by omega)
      dsimp only at h9
      simp only [F_laws_FnAreas, T_laws_FnAreas, run_done, run_fail, run_ask, run_opt, run_inl, run_inr, Option.bind_some, apart_b, apart_i, apart_s, h1, h2, h3, h4, h5, h6, h7, h8, h9]
      simp [hb, hc, hA]
    | true =>
      obtain ⟨e1, e2⟩ := common_count (a' := a') (b' := b') (c' := c') (d' := d') hA
      obtain ⟨p1, p2, p3, p4, p5, p6⟩ := okArea_in hA
      obtain ⟨n1, h1⟩ := ev_laws_big rows
      obtain ⟨n3, h3⟩ := ev_impl_CellsOf a b c d
      obtain ⟨n4, h4⟩ := ev_impl_Common a b c d a' b' c' d'
      obtain ⟨n5, h5⟩ := ev_spec_Common a b c d a' b' c' d'
      obtain ⟨n6, h6⟩ := ev_spec_CellsOf a b c d
      obtain ⟨n7, h7⟩ := ev_laws_sameRefs (cellsL a b c d) (by omega)
      obtain ⟨n8, h8⟩ := ev_impl_AreaOk a b c d
      obtain ⟨n9, h9⟩ := ev_spec_AreaOk a b c d
      obtain ⟨n10, h10⟩ := ev_impl_AreaOk a' b' c' d'
      obtain ⟨n11, h11⟩ := ev_impl_CellsOf (common a b c d a' b' c' d').1 (common a b c d a' b' c' d').2.1 (common a b c d a' b' c' d').2.2.1 (common a b c d a' b' c' d').2.2.2.1
      refine ⟨n1 + 20 + n3 + n4 + n5 + n6 + n7 + n8 + n9 + n10 + n11 + (cellsL a b c d).length + 2, fun n hn => ?_⟩
      obtain ⟨m, rfl, hm⟩ := up1 hn
      have h1 := h1 m (by omega)
      have h2 := d1 m (by omega)
      have h3 := h3 m (by omega)
      have h4 := h4 m (by omega)
      have h5 := h5 m (by omega)
      have h6 := h6 m (by omega)
      have h7 := h7 m (by omega)
      have h8 := h8 m (by omega)
      have h9 := h9 m (by omega)
      have h11 := h11 m (by omega)
      dsimp only at h1 h2 h3 h4 h5 h6 h7 h8 h9 h11
      have hall : ∀ q ∈ cellsL a b c d, inAr a b c d q = true := fun q hq => by
        rw [cellsL, if_pos hA] at hq
        exact cells_in p5 p6 q hq
      have hlp := areas_loop m n10 (by omega) (by omega) (cellsL a b c d) hlen (common a b c d a' b' c' d').2.2.2.2 a b c d a' b' c' d' (common a b c d a' b' c' d').1 (common a b c d a' b' c' d').2.1 (common a b c d a' b' c' d').2.2.1 (common a b c d a' b' c' d').2.2.2.1 h10 (cellsL a b c d) [] 0 m rfl hall (Nat.le_refl _) (by omega)
      simp only [List.length_nil, Int.natCast_zero, Nat.zero_add] at hlp
      rw [← e1] at hlp
      rw [← e1] at e2
      have hcl : (cellsL a b c d).length = (c - a + 1).toNat * (d - b + 1).toNat := by rw [cellsL, if_pos hA, cellsP, cells_length]
      have w1 : IntKind.i64.wrap (c - a) = c - a := wrap64 (by omega)
      have w2 : IntKind.i64.wrap (c - a + 1) = c - a + 1 := wrap64 (by omega)
      have w3 : IntKind.i64.wrap (d - b) = d - b := wrap64 (by omega)
      have w4 : IntKind.i64.wrap (d - b + 1) = d - b + 1 := wrap64 (by omega)
      have hm1 : (c - a + 1) * (d - b + 1) = (((c - a + 1).toNat * (d - b + 1).toNat : Nat) : Int) := by
        rw [Int.natCast_mul, Int.toNat_of_nonneg (by omega), Int.toNat_of_nonneg (by omega)]
      have w5 : IntKind.i64.wrap ((c - a + 1) * (d - b + 1)) = ((cellsL a b c d).length : Int) := by
        rw [hm1, ← hcl]; exact wrap64 (by omega)
      simp only [F_laws_FnAreas, T_laws_FnAreas, run_done, run_fail, run_ask, run_opt, run_inl, run_inr, Option.bind_some, apart_b, apart_i, apart_s, h1, h2, h3, h4, h5, h6, h7, h8, h9, w1, w2, w3, w4, w5, List.length_map]
      simp only [hlp, h11, List.length_map, hA]
      generalize hcnt : (cellsL (common a b c d a' b' c' d').1 (common a b c d a' b' c' d').2.1 (common a b c d a' b' c' d').2.2.1 (common a b c d a' b' c' d').2.2.2.1).length = cnt at *
      have e3 : (common a b c d a' b' c' d').2.2.2.2 = decide ((cnt : Int) > 0) := by
        cases ho : (common a b c d a' b' c' d').2.2.2.2 with
        | true => have := e2.1 ho; simp; omega
        | false =>
          have : ¬ 0 < cnt := fun h => by rw [e2.2 h] at ho; cases ho
          simp; omega
      simp [hb, e3, run_done, run_fail, run_ask, run_opt, run_inl, run_inr, Option.bind_some, apart_b, apart_i, apart_s, h11, hcnt]
end Go.Proofs.Ytaannlnlddbgdab.KFnAreas
