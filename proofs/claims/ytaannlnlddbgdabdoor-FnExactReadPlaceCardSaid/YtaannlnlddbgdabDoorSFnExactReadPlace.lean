/-
  What the functions that FnExactReadPlace calls answer, said of their trees. No condition beside those that stand in the statements.
-/
import Derived.Test.YtaannlnlddbgdabDoorTFnExactReadPlace
import Derived.Test.YtaannlnlddbgdabDoorE32
import Derived.Lib.Strings
namespace Go.Proofs.YtaannlnlddbgdabDoor.KFnExactReadPlace
open Go.Eng
set_option linter.unusedVariables false
set_option linter.unusedSimpArgs false
def Ev {R : Type} (F : Nat → Option R) (r : R) : Prop := ∃ n0, ∀ n, n0 ≤ n → F n = some r
theorem tl_len (s : ByteArray) : s.toList.length = s.size := by rw [Go.Lib.toList_data]; rfl
theorem toList_nil : (ByteArray.mk #[]).toList = [] := by decide +kernel
theorem wf64 {x : Int} (h : (Lit.int .i64 x).wf = true) : -9223372036854775808 ≤ x ∧ x ≤ 9223372036854775807 := by
  simp only [Lit.wf, Bool.and_eq_true, decide_eq_true_eq] at h
  have h1 : IntKind.i64.min = -9223372036854775808 := by decide
  have h2 : IntKind.i64.max = 9223372036854775807 := by decide
  omega
theorem wrap64 {x : Int} (h : -9223372036854775808 ≤ x ∧ x ≤ 9223372036854775807) : IntKind.i64.wrap x = x := by
  unfold IntKind.wrap
  have e1 : (2 : Int) ^ (64 - 1) = 9223372036854775808 := by decide
  have e2 : (2 : Int) ^ 64 = 18446744073709551616 := by decide
  simp only [IntKind.signed, IntKind.bits, Bool.true_and, decide_eq_true_eq, e1, e2]
  split <;> omega
theorem wrap64_in (x : Int) : -9223372036854775808 ≤ IntKind.i64.wrap x ∧ IntKind.i64.wrap x ≤ 9223372036854775807 := by
  unfold IntKind.wrap
  have e1 : (2 : Int) ^ (64 - 1) = 9223372036854775808 := by decide
  have e2 : (2 : Int) ^ 64 = 18446744073709551616 := by decide
  simp only [IntKind.signed, IntKind.bits, Bool.true_and, decide_eq_true_eq, e1, e2]
  split <;> omega
theorem get_of_lt {s : ByteArray} {i : Nat} (h : i < s.size) : ∃ c, s.toList[i]? = some c := ⟨_, List.getElem?_eq_getElem (by rw [tl_len]; exact h)⟩
theorem drop_cons {α : Type} {s : List α} {i : Nat} {c : α} (h : s[i]? = some c) : s.drop i = c :: s.drop (i + 1) := by
  obtain ⟨h1, rfl⟩ := List.getElem?_eq_some_iff.1 h
  exact List.drop_eq_getElem_cons h1
theorem loopF_inl {V R : Type} {B : V → Tr (V ⊕ R)} {m : Nat} {v v' : V} (h : (B v).run = some (.inl v')) : loopF B (m + 1) v = loopF B m v' := by simp only [loopF, h]
theorem loopF_inr {V R : Type} {B : V → Tr (V ⊕ R)} {m : Nat} {v : V} {r : R} (h : (B v).run = some (.inr r)) : loopF B (m + 1) v = some r := by simp only [loopF, h]
theorem up1 {n n0 : Nat} (h : n0 + 1 ≤ n) : ∃ m, n = m + 1 ∧ n0 ≤ m := ⟨n - 1, by omega, by omega⟩
theorem run_done {α : Type} (x : α) : (Tr.done x).run = some x := rfl
theorem run_fail {α : Type} : (Tr.fail : Tr α).run = none := rfl
theorem run_ask {α : Type} (b : Bool) (t f : Tr α) : (Tr.ask b t f).run = if b = true then t.run else f.run := by cases b <;> rfl
theorem run_opt {α β : Type} (o : Option β) (k : β → Tr α) : (Tr.opt o k).run = o.bind fun x => (k x).run := by cases o <;> rfl
theorem run_inl {α β γ : Type} (x : β) (k : β → Tr α) (l : γ → Tr α) : (Tr.alt (.inl x) k l).run = (k x).run := rfl
theorem run_inr {α β γ : Type} (x : γ) (k : β → Tr α) (l : γ → Tr α) : (Tr.alt (.inr x) k l).run = (l x).run := rfl
theorem ev_list {α R : Type} {F : α → Nat → Option R} {f : α → R} : ∀ (l : List α), (∀ c ∈ l, Ev (F c) (f c)) → ∃ n0, ∀ n, n0 ≤ n → ∀ c ∈ l, F c n = some (f c)
  | [], _ => ⟨0, fun n _ c hc => by cases hc⟩
  | a :: l, h => by
    obtain ⟨n1, h1⟩ := h a (List.mem_cons_self ..)
    obtain ⟨n2, h2⟩ := ev_list l fun c hc => h c (List.mem_cons_of_mem _ hc)
    exact ⟨n1 + n2, fun n hn c hc => by
      rcases List.mem_cons.1 hc with rfl | hc
      · exact h1 n (by omega)
      · exact h2 n (by omega) c hc⟩
/-- a list that is written anew, place by place -/
theorem conv_loop {R : Type} {B : List (List PV) × Nat × Int × List (List PV) → Tr ((List (List PV) × Nat × Int × List (List PV)) ⊕ R)} {rows : List (List PV)} {z : List PV} {r : List (List PV) → R}
    (hs : ∀ (i : Nat) (acc : List (List PV)) (e : List PV), rows[i]? = some e → acc.length = rows.length → acc[i]? = some z → (B (rows, rows.length, (i : Int), acc)).run = some (.inl (rows, rows.length, ((i + 1 : Nat) : Int), acc.set i e)))
    (he : ∀ acc : List (List PV), acc.length = rows.length → (B (rows, rows.length, (rows.length : Int), acc)).run = some (.inr (r acc))) :
    ∀ (m i M : Nat), rows.length = i + m → m + 1 ≤ M → loopF B M (rows, rows.length, (i : Int), rows.take i ++ zrows z m) = some (r rows)
  | m, i, 0, h1, h2 => by omega
  | 0, i, M + 1, h1, h2 => by
    have hi : i = rows.length := by omega
    subst hi
    have e : rows.take rows.length ++ zrows z 0 = rows := by simp [zrows]
    rw [e, loopF_inr (he rows rfl)]
  | m + 1, i, M + 1, h1, h2 => by
    have hl : i < rows.length := by omega
    have hg := List.getElem?_eq_getElem hl
    have hlen : (rows.take i ++ zrows z (m + 1)).length = rows.length := by simp [zrows]; omega
    have hz : (rows.take i ++ zrows z (m + 1))[i]? = some z := by
      rw [List.getElem?_append_right (by simp; omega)]
      simp [zrows, Nat.min_eq_left (Nat.le_of_lt hl)]
    rw [loopF_inl (hs i _ _ hg hlen hz)]
    have e : (rows.take i ++ zrows z (m + 1)).set i rows[i] = rows.take (i + 1) ++ zrows z m := by
      have hx : zrows z (m + 1) = z :: zrows z m := by simp [zrows, List.replicate_succ]
      rw [hx, List.set_append_right (h := by simp; omega)]
      have : i - (rows.take i).length = 0 := by simp; omega
      rw [this, List.set_cons_zero, show rows.take (i + 1) = rows.take i ++ [rows[i]] from by rw [List.take_add_one, hg]; rfl, List.append_assoc]
      rfl
    rw [e]
    exact conv_loop hs he m (i + 1) M (by omega) (by omega)
theorem conv_all {R : Type} {B : List (List PV) × Nat × Int × List (List PV) → Tr ((List (List PV) × Nat × Int × List (List PV)) ⊕ R)} {rows : List (List PV)} {z : List PV} {r : List (List PV) → R} {M : Nat}
    (hs : ∀ (i : Nat) (acc : List (List PV)) (e : List PV), rows[i]? = some e → acc.length = rows.length → acc[i]? = some z → (B (rows, rows.length, (i : Int), acc)).run = some (.inl (rows, rows.length, ((i + 1 : Nat) : Int), acc.set i e)))
    (he : ∀ acc : List (List PV), acc.length = rows.length → (B (rows, rows.length, (rows.length : Int), acc)).run = some (.inr (r acc))) (hM : rows.length + 1 ≤ M) :
    loopF B M (rows, rows.length, 0, zrows z rows.length) = some (r rows) := by
  have := conv_loop (B := B) hs he rows.length 0 M (by omega) hM
  simpa using this
/-- a list held against itself -/
theorem eq_loop {R : Type} {B : List (List PV) × List (List PV) × Int → Tr ((List (List PV) × List (List PV) × Int) ⊕ R)} {rows : List (List PV)} {r : R}
    (hs : ∀ (i : Nat) (e : List PV), rows[i]? = some e → (B (rows, rows, (i : Int))).run = some (.inl (rows, rows, ((i + 1 : Nat) : Int)))) (he : (B (rows, rows, (rows.length : Int))).run = some (.inr r)) :
    ∀ (m i M : Nat), rows.length = i + m → m + 1 ≤ M → loopF B M (rows, rows, (i : Int)) = some r
  | m, i, 0, h1, h2 => by omega
  | 0, i, M + 1, h1, h2 => by
    have hi : i = rows.length := by omega
    subst hi
    rw [loopF_inr he]
  | m + 1, i, M + 1, h1, h2 => by
    have hg := List.getElem?_eq_getElem (l := rows) (i := i) (by omega)
    rw [loopF_inl (hs i _ hg)]
    exact eq_loop hs he m (i + 1) M (by omega) (by omega)
/-- a list's size, as far as it is not too great -/
theorem sz_loop {R : Type} {B : List (List PV) × Int × Int → Tr ((List (List PV) × Int × Int) ⊕ R)} {rows : List (List PV)}
    (hs : ∀ (i : Nat) (e : List PV) (x : Int), rows[i]? = some e → (∃ y, (B (rows, x, (i : Int))).run = some (.inl (rows, y, ((i + 1 : Nat) : Int)))) ∨ ∃ r, (B (rows, x, (i : Int))).run = some (.inr r)) (he : ∀ x, ∃ r, (B (rows, x, (rows.length : Int))).run = some (.inr r)) :
    ∀ (m i M : Nat) (x : Int), rows.length = i + m → m + 1 ≤ M → ∃ r, loopF B M (rows, x, (i : Int)) = some r
  | m, i, 0, x, h1, h2 => by omega
  | 0, i, M + 1, x, h1, h2 => by
    have hi : i = rows.length := by omega
    subst hi
    obtain ⟨r, hr⟩ := he x
    exact ⟨r, loopF_inr hr⟩
  | m + 1, i, M + 1, x, h1, h2 => by
    have hg := List.getElem?_eq_getElem (l := rows) (i := i) (by omega)
    rcases hs i _ x hg with ⟨y, hy⟩ | ⟨r, hr⟩
    · rw [loopF_inl hy]
      exact sz_loop hs he m (i + 1) M y (by omega) (by omega)
    · exact ⟨r, loopF_inr hr⟩
/-- rows of a shape, as a list of what stands in them -/
theorem rows_map {α : Type} {enc : α → List PV} {P : α → Prop} {sh : List Sh} (hd : ∀ e, okR sh e → ∃ a, e = enc a ∧ P a) : ∀ {rows : List (List PV)}, (∀ e ∈ rows, okR sh e) → ∃ l : List α, rows = l.map enc ∧ ∀ a ∈ l, P a
  | [], _ => ⟨[], rfl, fun a h => by cases h⟩
  | e :: rows, h => by
    obtain ⟨a, rfl, ha⟩ := hd e (h e (List.mem_cons_self ..))
    obtain ⟨l, rfl, hl⟩ := rows_map hd fun e he => h e (List.mem_cons_of_mem _ he)
    exact ⟨a :: l, rfl, fun b hb => by
      rcases List.mem_cons.1 hb with rfl | hb
      · exact ha
      · exact hl b hb⟩
theorem opt_eq {α β : Type} {o : Option β} {x : β} {k : β → Tr α} {y : Option α} (h : o = some x) (h2 : (k x).run = y) : (Tr.opt o k).run = y := by rw [h]; exact h2
theorem ask_t {α : Type} {b : Bool} {t f : Tr α} {y : Option α} (h : b = true) (h2 : t.run = y) : (Tr.ask b t f).run = y := by rw [h]; exact h2
theorem ask_f {α : Type} {b : Bool} {t f : Tr α} {y : Option α} (h : b = false) (h2 : f.run = y) : (Tr.ask b t f).run = y := by rw [h]; exact h2
theorem apart_b (b : Bool) : apartR (⟨(.c (.p (.b b))), [], []⟩ : Res) = true := rfl
theorem apart_i (x : Int) : apartR (⟨(.c (.p (.i .i64 x))), [], []⟩ : Res) = true := rfl
theorem apart_s (x : ByteArray) : apartR (⟨(.c (.p (.s x))), [], []⟩ : Res) = true := rfl
theorem ev_spec_l1In (x lo hi : Int) : Ev (F_spec_l1In · x lo hi) (decide (lo ≤ x ∧ x ≤ hi)) := by
  refine ⟨1, fun n hn => ?_⟩
  obtain ⟨m, rfl, hm⟩ := up1 hn
  simp only [F_spec_l1In, T_spec_l1In, run_done, run_fail, run_ask, run_opt, run_inl, run_inr, Option.bind_some, apart_b, apart_i, apart_s]
  by_cases h : x ≥ lo <;> simp [h]
theorem ev_impl_within (x lo hi : Int) : Ev (F_impl_within · x lo hi) (decide (lo ≤ x ∧ x ≤ hi)) := by
  refine ⟨1, fun n hn => ?_⟩
  obtain ⟨m, rfl, hm⟩ := up1 hn
  simp only [F_impl_within, T_impl_within, run_done, run_fail, run_ask, run_opt, run_inl, run_inr, Option.bind_some, apart_b, apart_i, apart_s]
  by_cases h : x ≥ lo <;> simp [h]
/-- the bytes from 32 to 126 -/
def okc (c : UInt8) : Bool := decide (32 ≤ c.toNat ∧ c.toNat ≤ 126)
def plainN (s : ByteArray) (most : Int) : Bool := s.toList.all okc && decide ((s.size : Int) ≤ most)
def okV (k n : Int) (s : ByteArray) : Bool :=
  if k = 2 then decide (n = 0) && plainN s 200 else (s.toList == []) && (if k = 0 then decide (n = 0) else if k = 1 then decide (-1000000000000000 ≤ n ∧ n ≤ 1000000000000000) else if k = 3 then decide (0 ≤ n ∧ n ≤ 1) else if k = 4 then decide (1 ≤ n ∧ n ≤ 5) else false)
abbrev V3 := Int × Int × ByteArray
def em : ByteArray := ⟨#[]⟩
/-- a value as a number; else what is answered -/
def num (k x : Int) (s : ByteArray) : Int ⊕ V3 := if okV k x s = true then (if k = 0 ∨ k = 1 then .inl x else if k = 4 then .inr (k, x, s) else .inr (4, 2, em)) else .inr (4, 2, em)
def fin64 (z : Int) : V3 := if -1000000000000000 ≤ z ∧ z ≤ 1000000000000000 then (1, z, em) else (4, 4, em)
def arith (op : Int → Int → V3) (k x : Int) (s : ByteArray) (k' x' : Int) (s' : ByteArray) : V3 := match num k x s with
  | .inr e => e
  | .inl a => match num k' x' s' with
    | .inr e => e
    | .inl b => op a b
theorem num_inr {k x : Int} {s : ByteArray} {e : V3} (h : num k x s = .inr e) : e.1 = 4 := by
  unfold num at h
  split at h
  · split at h
    · cases h
    · split at h
      · cases h; assumption
      · cases h; rfl
  · cases h; rfl
theorem num_ne {k x : Int} {s : ByteArray} {e : V3} (h : num k x s = .inr e) : ¬ e.1 = 0 := by rw [num_inr h]; decide
theorem num_inl {k x : Int} {s : ByteArray} {a : Int} (h : num k x s = .inl a) : -1000000000000000 ≤ a ∧ a ≤ 1000000000000000 := by
  unfold num at h
  split at h
  · rename_i ho
    split at h
    · rename_i hk
      cases h
      unfold okV at ho
      rcases hk with rfl | rfl
      · simp at ho; omega
      · simp at ho; exact ho.2
    · split at h <;> cases h
  · cases h
def absI (x : Int) : Int := if x < 0 then -x else x
def timesV (a b : Int) : V3 := if a = 0 ∨ b = 0 then fin64 0 else if absI a > Int.tdiv 1000000000000000 (absI b) then (4, 4, em) else fin64 (IntKind.i64.wrap (a * b))
theorem tdiv_in {b : Int} (h : 1 ≤ b) : 0 ≤ Int.tdiv 1000000000000000 b ∧ Int.tdiv 1000000000000000 b ≤ 1000000000000000 := by
  rw [Int.tdiv_eq_ediv_of_nonneg (by decide)]
  exact ⟨Int.ediv_nonneg (by decide) (by omega), Int.ediv_le_self _ (by decide)⟩
theorem ev_laws_eqRef (x y z w : Int) : Ev (F_laws_eqRef · x y z w) (decide (x = z ∧ y = w)) := by
  refine ⟨1, fun n hn => ?_⟩
  obtain ⟨m, rfl, hm⟩ := up1 hn
  simp only [F_laws_eqRef, T_laws_eqRef, run_done, run_fail, run_ask, run_opt, run_inl, run_inr, Option.bind_some, apart_b, apart_i, apart_s]
  by_cases h : x = z <;> by_cases h' : y = w <;> simp [h, h']
def okRef (c r : Int) : Bool := decide (1 ≤ c ∧ c ≤ 52) && decide (1 ≤ r ∧ r ≤ 99)
def okArea (a b c d : Int) : Bool := okRef a b && okRef c d && decide (a ≤ c) && decide (b ≤ d)
theorem ev_spec_RefOk (c r : Int) : Ev (F_spec_RefOk · c r) (okRef c r) := by
  obtain ⟨n1, h1⟩ := ev_spec_l1In c 1 52
  obtain ⟨n2, h2⟩ := ev_spec_l1In r 1 99
  refine ⟨n1 + n2 + 1, fun n hn => ?_⟩
  obtain ⟨m, rfl, hm⟩ := up1 hn
  have h1 := h1 m (by omega)
  dsimp only at h1
  have h2 := h2 m (by omega)
  dsimp only at h2
  simp only [F_spec_RefOk, T_spec_RefOk, run_done, run_fail, run_ask, run_opt, run_inl, run_inr, Option.bind_some, apart_b, apart_i, apart_s, h1, h2]
  unfold okRef
  cases decide (1 ≤ c ∧ c ≤ 52) <;> simp
theorem ev_impl_RefOk (c r : Int) : Ev (F_impl_RefOk · c r) (okRef c r) := by
  obtain ⟨n1, h1⟩ := ev_impl_within c 1 52
  obtain ⟨n2, h2⟩ := ev_impl_within r 1 99
  refine ⟨n1 + n2 + 1, fun n hn => ?_⟩
  obtain ⟨m, rfl, hm⟩ := up1 hn
  have h1 := h1 m (by omega)
  dsimp only at h1
  have h2 := h2 m (by omega)
  dsimp only at h2
  simp only [F_impl_RefOk, T_impl_RefOk, run_done, run_fail, run_ask, run_opt, run_inl, run_inr, Option.bind_some, apart_b, apart_i, apart_s, h1, h2]
  unfold okRef
  cases decide (1 ≤ c ∧ c ≤ 52) <;> simp
abbrev A5 := Int × Int × Int × Int × Bool
def common (x0 x1 x2 x3 x4 x5 x6 x7 : Int) : A5 :=
  if okArea x0 x1 x2 x3 = true ∧ okArea x4 x5 x6 x7 = true ∧ okArea (if x4 > x0 then x4 else x0) (if x5 > x1 then x5 else x1) (if x6 < x2 then x6 else x2) (if x7 < x3 then x7 else x3) = true then
    ((if x4 > x0 then x4 else x0), (if x5 > x1 then x5 else x1), (if x6 < x2 then x6 else x2), (if x7 < x3 then x7 else x3), true) else (0, 0, 0, 0, false)
def cmpI (x y : Int) : Int := if x < y then -1 else if x > y then 1 else 0
def cmpS (x y : ByteArray) : Int := if Op.bytesLess x.toList y.toList = true then -1 else if x.toList = y.toList then 0 else 1
def firstNZ : List Int → Int
  | [] => 0
  | x :: r => if x ≠ 0 then x else firstNZ r
def ordV (k x : Int) (s : ByteArray) (k' x' : Int) (s' : ByteArray) : Int := firstNZ [cmpI k k', cmpI x x', cmpS s s']
def heldB (op o : Int) : Bool := if op = 6 then o == 0 else if op = 7 then o != 0 else if op = 8 then decide (o < 0) else if op = 9 then decide (o ≤ 0) else if op = 10 then decide (o > 0) else decide (o ≥ 0)
def held (op k x : Int) (s : ByteArray) (k' x' : Int) (s' : ByteArray) : Int × Int × ByteArray :=
  if okV k x s = true ∧ okV k' x' s' = true ∧ 6 ≤ op ∧ op ≤ 11 then
    (if k = 4 then (k, x, s) else if k' = 4 then (k', x', s') else (3, if heldB op (ordV (if k = 0 then k' else k) x s (if k' = 0 then k else k') x' s') = true then 1 else 0, em))
  else (4, 2, em)
abbrev CVt := Int × Int × Int × Int × ByteArray
def encCV (c : CVt) : List PV := [.i .i64 c.1, .i .i64 c.2.1, .i .i64 c.2.2.1, .i .i64 c.2.2.2.1, .s c.2.2.2.2]
theorem rows_cv {rows : List (List PV)} (h : ∀ e ∈ rows, okR [.i .i64, .i .i64, .i .i64, .i .i64, .s] e) : ∃ l : List CVt, rows = l.map encCV ∧ ∀ c ∈ l, c.2.2.2.2.size ≤ 140737488351232 := by
  refine rows_map (fun e h => ?_) h
  obtain ⟨c0, t0, rfl, p0, h⟩ := okR_cons h
  obtain ⟨c1, t1, rfl, p1, h1⟩ := okR_cons h
  obtain ⟨c2, t2, rfl, p2, h2⟩ := okR_cons h1
  obtain ⟨c3, t3, rfl, p3, h3⟩ := okR_cons h2
  obtain ⟨c4, t4, rfl, p4, h4⟩ := okR_cons h3
  obtain rfl := okR_nil h4
  obtain ⟨x0, rfl, _⟩ := okP_i p0
  obtain ⟨x1, rfl, _⟩ := okP_i p1
  obtain ⟨x2, rfl, _⟩ := okP_i p2
  obtain ⟨x3, rfl, _⟩ := okP_i p3
  obtain ⟨x4, rfl, w⟩ := okP_s p4
  exact ⟨(x0, x1, x2, x3, x4), rfl, w⟩
theorem cv_get {l : List CVt} {i : Nat} {e : List PV} (h : (l.map encCV)[i]? = some e) : ∃ c, l[i]? = some c ∧ e = encCV c := by
  rw [List.getElem?_map] at h
  obtain ⟨c, h1, h2⟩ := Option.map_eq_some_iff.1 h
  exact ⟨c, h1, h2.symm⟩
def ahead (a b c d : Int) : Bool := decide (b < d ∨ (b = d ∧ a < c))
/-- a value at its place -/
def cvOk (l : List CVt) (i : Nat) (c : CVt) : Bool := okRef c.1 c.2.1 && okV c.2.2.1 c.2.2.2.1 c.2.2.2.2 && (match i with | 0 => true | j + 1 => match l[j]? with | some p => ahead p.1 p.2.1 c.1 c.2.1 | none => true)
def cvFrom (l : List CVt) : Nat → List CVt → Bool
  | _, [] => true
  | i, c :: r => cvOk l i c && cvFrom l (i + 1) r
def cvsOk (l : List CVt) : Bool := cvFrom l 0 l && decide ((l.length : Int) ≤ 120)
theorem ahead_cmp (a b c d : Int) : decide (firstNZ [cmpI b d, cmpI a c] ≥ 0) = !(ahead a b c d) := by
  unfold firstNZ firstNZ firstNZ cmpI ahead
  by_cases h1 : b < d
  · simp [h1]
  · by_cases h2 : b > d
    · have : ¬ b = d := by omega
      simp [h1, h2, this]
    · have : b = d := by omega
      subst this
      by_cases h3 : a < c
      · simp [h3]
      · by_cases h4 : a > c <;> simp [h3, h4]
/-- what stands at a place -/
def cvAt (c r : Int) : List CVt → V3
  | [] => (0, 0, em)
  | p :: l => if p.1 = c ∧ p.2.1 = r then (p.2.2.1, p.2.2.2.1, p.2.2.2.2) else cvAt c r l
def cvIn (c r : Int) : List CVt → Bool
  | [] => false
  | p :: l => decide (p.1 = c ∧ p.2.1 = r) || cvIn c r l
theorem cvAt_out (c r : Int) : ∀ {l : List CVt}, cvIn c r l = false → cvAt c r l = (0, 0, em)
  | [], _ => rfl
  | p :: l, h => by
    simp only [cvIn, Bool.or_eq_false_iff, decide_eq_false_iff_not] at h
    simp only [cvAt, if_neg h.1, cvAt_out c r h.2]
abbrev Ch := Int × Int × ByteArray × ByteArray
def encCh (c : Ch) : List PV := [.i .i64 c.1, .i .i64 c.2.1, .s c.2.2.1, .s c.2.2.2]
theorem rows_ch {rows : List (List PV)} (h : ∀ e ∈ rows, okR [.i .i64, .i .i64, .s, .s] e) : ∃ l : List Ch, rows = l.map encCh ∧ ∀ c ∈ l, True := by
  refine rows_map (fun e h => ?_) h
  obtain ⟨c0, t0, rfl, p0, h⟩ := okR_cons h
  obtain ⟨c1, t1, rfl, p1, h1⟩ := okR_cons h
  obtain ⟨c2, t2, rfl, p2, h2⟩ := okR_cons h1
  obtain ⟨c3, t3, rfl, p3, h3⟩ := okR_cons h2
  obtain rfl := okR_nil h3
  obtain ⟨x0, rfl, _⟩ := okP_i p0
  obtain ⟨x1, rfl, _⟩ := okP_i p1
  obtain ⟨x2, rfl, _⟩ := okP_s p2
  obtain ⟨x3, rfl, _⟩ := okP_s p3
  exact ⟨(x0, x1, x2, x3), rfl, trivial⟩
theorem ch_get {l : List Ch} {i : Nat} {e : List PV} (h : (l.map encCh)[i]? = some e) : ∃ c, l[i]? = some c ∧ e = encCh c := by
  rw [List.getElem?_map] at h
  obtain ⟨c, h1, h2⟩ := Option.map_eq_some_iff.1 h
  exact ⟨c, h1, h2.symm⟩
theorem apart_ch (m sz ty : Nat) (l : List Ch) : apartR (⟨(.c (.own 0 0 0 m)), [], [⟨0, sz, ty, (.row (l.map encCh))⟩]⟩ : Res) = true := by
  simp [apartR, AV.cvs, flatO, flatB, encCh, CV.flat]
def swp (c : Ch) : Ch := (c.1, c.2.1, c.2.2.2, c.2.2.1)
def turnedL (l : List Ch) : List Ch := (l.map swp).reverse
theorem ev_of {R : Type} {F : Nat → Option R} {r : R} {k : Nat} (h : ∀ n, k ≤ n → F n = some r) : Ev F r := ⟨k, h⟩
theorem wf8 {x : Int} (h : (Lit.int .u8 x).wf = true) : 0 ≤ x ∧ x ≤ 255 := by
  simp only [Lit.wf, Bool.and_eq_true, decide_eq_true_eq] at h
  have h1 : IntKind.u8.min = 0 := by decide
  have h2 : IntKind.u8.max = 255 := by decide
  omega
theorem wrapu_in (x : Int) : 0 ≤ IntKind.u64.wrap x ∧ IntKind.u64.wrap x ≤ 18446744073709551615 := by
  unfold IntKind.wrap
  have e2 : (2 : Int) ^ 64 = 18446744073709551616 := by decide
  simp only [IntKind.signed, IntKind.bits, Bool.false_and, Bool.false_eq_true, if_false, e2]
  omega
theorem wrapu {x : Int} (h : 0 ≤ x ∧ x ≤ 18446744073709551615) : IntKind.u64.wrap x = x := by
  unfold IntKind.wrap
  have e2 : (2 : Int) ^ 64 = 18446744073709551616 := by decide
  simp only [IntKind.signed, IntKind.bits, Bool.false_and, Bool.false_eq_true, if_false, e2]
  omega
/-- a reader's bytes -/
def RdOk (l : List (List PV)) : Prop := l.length ≤ 1048576 ∧ ∀ e ∈ l, ∃ b : Int, e = [.i .u8 b] ∧ 0 ≤ b ∧ b ≤ 255
theorem rdOk_of {l : List (List PV)} (w : ∀ r ∈ l, okR [.i .u8] r) (h : ¬ (l.length : Int) > 1048576) : RdOk l := by
  refine ⟨by omega, fun e he => ?_⟩
  obtain ⟨x, r, rfl, h1, h2⟩ := okR_cons (w e he)
  obtain ⟨n, rfl, h3⟩ := okP_i h1
  obtain rfl := okR_nil h2
  exact ⟨n, rfl, wf8 h3⟩
def rng (a : Int) : Nat → List Int
  | 0 => []
  | n + 1 => a :: rng (a + 1) n
theorem rng_len : ∀ (n : Nat) (a : Int), (rng a n).length = n
  | 0, a => rfl
  | n + 1, a => by simp [rng, rng_len n]
def encRf (x : Int × Int) : List PV := [.i .i64 x.1, .i .i64 x.2]
def rowC (a : Int) (n : Nat) (r : Int) : List (Int × Int) := (rng a n).map fun x => (x, r)
def cellsP (a b c d : Int) : List (Int × Int) := (rng b (d - b + 1).toNat).flatMap fun r => rowC a (c - a + 1).toNat r
def decS (x : Int) : ByteArray := ⟨(Lib.itoa x).toArray⟩
theorem ba_app (a b : ByteArray) : (a ++ b).data.toList = a.data.toList ++ b.data.toList := by
  rw [ByteArray.data_append, Array.toList_append]
theorem ba_eq {a b : ByteArray} (h : a.data.toList = b.data.toList) : a = b := by
  cases a; cases b
  congr 1
  exact Array.toList_inj.1 h
theorem ba_eqL {a b : ByteArray} (h : a.toList = b.toList) : a = b := ba_eq (by rw [← Go.Lib.toList_data, ← Go.Lib.toList_data]; exact h)
theorem ba_size (a : ByteArray) : a.size = a.data.toList.length := by rw [Array.length_toList]; rfl
theorem u8w {q : Nat} (h : q < 10) : IntKind.u8.wrap (IntKind.i64.wrap (48 + (q : Int))) = ((48 + q : Nat) : Int) := by
  rw [wrap64 (by omega)]
  unfold IntKind.wrap
  have e2 : (2 : Int) ^ 8 = 256 := by decide
  simp only [IntKind.signed, IntKind.bits, Bool.false_and, Bool.false_eq_true, if_false, e2]
  omega
theorem nd_le : ∀ (k v : Nat), 1 ≤ v → v < 10 ^ k → Lib.nDigits v ≤ k := by
  intro k
  induction k with
  | zero => intro v hv hv'; simp at hv'; omega
  | succ k ih =>
    intro v hv hv'
    by_cases h10 : v < 10
    · rw [Lib.nDigits_small h10]; omega
    · rw [Lib.nDigits_big h10]
      have := ih (v / 10) (by omega) (by rw [Nat.pow_succ] at hv'; omega)
      omega
theorem dec_len (u : Nat) (h : u ≤ 1000000000000000000) : (Lib.decDigits u).length ≤ 19 := by
  have p : (10 : Nat) ^ 19 = 10000000000000000000 := by decide
  rw [Lib.decDigits_length]
  rcases Nat.lt_or_ge u 1 with h6 | h6
  · have : u = 0 := by omega
    subst this
    rw [Lib.nDigits_small (by decide)]
    decide
  · exact nd_le 19 u h6 (by omega)
def nameS (x : Int) : ByteArray := if x = 1 then ⟨#[35, 68, 73, 86, 33]⟩ else if x = 2 then ⟨#[35, 84, 89, 80, 69, 33]⟩ else if x = 3 then ⟨#[35, 82, 69, 70, 33]⟩ else if x = 4 then ⟨#[35, 79, 86, 69, 82, 33]⟩ else if x = 5 then ⟨#[35, 67, 89, 67, 76, 69, 33]⟩ else ⟨#[]⟩
theorem lt6 {x : Int} (h : 0 ≤ x ∧ x ≤ 5) : x = 0 ∨ x = 1 ∨ x = 2 ∨ x = 3 ∨ x = 4 ∨ x = 5 := by omega
def boolS (x : Int) : ByteArray := if x = 1 then ⟨#[84, 82, 85, 69]⟩ else ⟨#[70, 65, 76, 83, 69]⟩
theorem okV_1 {x : Int} {s : ByteArray} (h : okV 1 x s = true) : -1000000000000000 ≤ x ∧ x ≤ 1000000000000000 := by
  simp [okV] at h; exact h.2
theorem okV_2 {x : Int} {s : ByteArray} (h : okV 2 x s = true) : x = 0 ∧ (s.size : Int) ≤ 200 ∧ s.toList.all okc = true := by
  simp only [okV, plainN, if_true, Bool.and_eq_true, decide_eq_true_eq] at h
  exact ⟨h.1, h.2.2, h.2.1⟩
theorem okV_3 {x : Int} {s : ByteArray} (h : okV 3 x s = true) : 0 ≤ x ∧ x ≤ 1 := by
  simp [okV] at h; exact h.2
theorem okV_4 {x : Int} {s : ByteArray} (h : okV 4 x s = true) : 1 ≤ x ∧ x ≤ 5 := by
  simp [okV] at h; exact h.2
/-- a value's text -/
def vtext (k x : Int) (s : ByteArray) : ByteArray := if k = 1 then decS x else if k = 2 then ⟨#[39]⟩ ++ s else if k = 3 then boolS x else if k = 4 then nameS x else ⟨#[]⟩
theorem decS_size {x : Int} (h : -1000000000000000000 ≤ x ∧ x ≤ 1000000000000000000) : (decS x).size ≤ 20 := by
  rw [ba_size]
  show (Lib.itoa x).length ≤ 20
  unfold Lib.itoa
  split
  · have := dec_len x.natAbs (by omega); simp; omega
  · have := dec_len x.toNat (by omega); omega
theorem vtext_size {k x : Int} {s : ByteArray} (h : okV k x s = true) : (vtext k x s).size ≤ 300 := by
  unfold vtext
  split
  · rename_i k1; subst k1; have := okV_1 h; have := decS_size (x := x) (by omega); omega
  · split
    · rename_i k2; subst k2
      have := okV_2 h
      rw [ByteArray.size_append]
      show 1 + s.size ≤ 300
      omega
    · split
      · unfold boolS; split <;> decide
      · split
        · unfold nameS
          repeat' split
          all_goals decide
        · decide
/-- a value as a text; else what is answered -/
def word (k x : Int) (s : ByteArray) : ByteArray ⊕ V3 := if okV k x s = true then (if k = 4 then .inr (k, x, s) else if k = 2 then .inl s else .inl (vtext k x s)) else .inr (4, 2, em)
theorem word_inr {k x : Int} {s : ByteArray} {e : V3} (h : word k x s = .inr e) : e.1 = 4 ∧ num k x s = .inr e := by
  unfold word at h
  unfold num
  by_cases ho : okV k x s = true
  · rw [if_pos ho] at h ⊢
    split at h
    · rename_i k4
      cases h
      subst k4
      simp
    · split at h <;> cases h
  · rw [if_neg ho] at h ⊢
    cases h
    exact ⟨rfl, rfl⟩
theorem word_size {k x : Int} {s : ByteArray} {t : ByteArray} (h : word k x s = .inl t) : t.size ≤ 300 := by
  unfold word at h
  split at h
  · rename_i ho
    split at h
    · cases h
    · split at h
      · rename_i k2; cases h; subst k2; have := okV_2 ho; omega
      · cases h; exact vtext_size ho
  · cases h
def joinV (a b : ByteArray) : V3 := if ((a.size : Int) + b.size) > 200 then (4, 4, em) else (2, 0, a ++ b)
def joined (k x : Int) (s : ByteArray) (k' x' : Int) (s' : ByteArray) : V3 := match word k x s with
  | .inr e => e
  | .inl a => match word k' x' s' with
    | .inr e => e
    | .inl b => joinV a b
/-- a column's letters -/
def colS (x : Int) : ByteArray := if x < 1 ∨ x > 52 then ⟨#[]⟩ else if x ≤ 26 then ⟨#[UInt8.ofNat (64 + x.toNat)]⟩ else ⟨#[65, UInt8.ofNat (65 + (x.toNat - 1) % 26)]⟩
theorem colS_size (x : Int) : (colS x).size ≤ 2 := by
  unfold colS
  split
  · decide
  · split
    · exact (show (1 : Nat) ≤ 2 by decide)
    · exact (show (2 : Nat) ≤ 2 by decide)
theorem u8wrap {q : Int} (h : 0 ≤ q ∧ q < 256) : IntKind.u8.wrap q = q := by
  unfold IntKind.wrap
  have e2 : (2 : Int) ^ 8 = 256 := by decide
  simp only [IntKind.signed, IntKind.bits, Bool.false_and, Bool.false_eq_true, if_false, e2]
  omega
/-- a place's text -/
def placeS (c r : Int) (fc fr : Bool) : ByteArray := if okRef c r = true then ⟨((if fc = true then [36] else []) ++ (colS c).data.toList ++ (if fr = true then [36] else []) ++ (decS r).data.toList).toArray⟩ else ⟨#[]⟩
theorem decS_size' {x : Int} (h : 1 ≤ x ∧ x ≤ 99) : (decS x).size ≤ 20 := by
  rw [ba_size]
  show (Lib.itoa x).length ≤ 20
  unfold Lib.itoa
  rw [if_neg (by omega)]
  have := dec_len x.toNat (by omega)
  omega
theorem okRef_in {c r : Int} (h : okRef c r = true) : (1 ≤ c ∧ c ≤ 52) ∧ (1 ≤ r ∧ r ≤ 99) := by
  simpa [okRef] using h
def isDig (c : UInt8) : Bool := decide (48 ≤ c.toNat) && decide (c.toNat ≤ 57)
def dvalN (acc : Nat) (l : List UInt8) : Nat := l.foldl (fun a c => a * 10 + (c.toNat - 48)) acc
theorem dval_nil (acc : Nat) : dvalN acc [] = acc := rfl
theorem dval_cons (acc : Nat) (c : UInt8) (r : List UInt8) : dvalN acc (c :: r) = dvalN (acc * 10 + (c.toNat - 48)) r := by simp only [dvalN, List.foldl_cons]
theorem dval_app (l : List UInt8) (acc : Nat) (c : UInt8) : dvalN acc (l ++ [c]) = dvalN acc l * 10 + (c.toNat - 48) := by
  simp only [dvalN, List.foldl_append, List.foldl_cons, List.foldl_nil]
theorem dval_ge : ∀ (l : List UInt8) (acc : Nat), acc ≤ dvalN acc l
  | [], acc => by rw [dval_nil]; exact Nat.le_refl _
  | c :: r, acc => by
    have h := dval_ge r (acc * 10 + (c.toNat - 48))
    have h2 : acc ≤ acc * 10 + (c.toNat - 48) := by omega
    rw [dval_cons]
    exact Nat.le_trans h2 h
theorem dig_of {d : Nat} (h : d < 10) : (UInt8.ofNat (48 + d)).toNat = 48 + d := by
  rw [UInt8.toNat_ofNat']; omega
theorem isDig_of {d : Nat} (h : d < 10) : isDig (UInt8.ofNat (48 + d)) = true := by
  unfold isDig
  rw [dig_of h]
  simp
  omega
theorem dec_props : ∀ u : Nat, (Lib.decDigits u).all isDig = true ∧ dvalN 0 (Lib.decDigits u) = u ∧ Lib.decDigits u ≠ [] ∧ (10 ≤ u → (Lib.decDigits u).head? ≠ some 48) ∧ (1 ≤ u → (Lib.decDigits u).head? ≠ some 48) := by
  intro u
  induction u using Nat.strongRecOn with
  | _ u ih =>
    by_cases h : u < 10
    · rw [Lib.decDigits, dif_pos h]
      have h1 : ∀ k, 1 ≤ k → k < 10 → UInt8.ofNat (48 + k) ≠ 48 := fun k hk hk' e => by
        have := congrArg UInt8.toNat e
        rw [dig_of hk'] at this
        have h2 : (48 : UInt8).toNat = 48 := rfl
        omega
      refine ⟨by simp only [List.all_cons, List.all_nil, isDig_of h, Bool.and_true], by rw [dval_cons, dval_nil, dig_of h]; omega, by simp, fun _ => by omega, fun hu => ?_⟩
      simp only [List.head?_cons, ne_eq, Option.some.injEq]
      exact h1 u hu h
    · obtain ⟨i1, i2, i3, i4, i5⟩ := ih (u / 10) (by omega)
      rw [Lib.decDigits, dif_neg h]
      have hd : u % 10 < 10 := by omega
      have hh : (Lib.decDigits (u / 10) ++ [UInt8.ofNat (48 + u % 10)]).head? = (Lib.decDigits (u / 10)).head? := by
        cases hq : Lib.decDigits (u / 10) with
        | nil => exact absurd hq i3
        | cons a b => rfl
      refine ⟨by simp only [List.all_append, i1, List.all_cons, List.all_nil, isDig_of hd, Bool.and_true], by rw [dval_app, i2, dig_of hd]; omega, by simp, fun _ => ?_, fun _ => ?_⟩
      · rw [hh]; exact i5 (by omega)
      · rw [hh]; exact i5 (by omega)
/-- digits, no nought ahead of others -/
def canon (l : List UInt8) : Bool := !(l == []) && l.all isDig && (!(l.head? == some 48) || l.length == 1)
theorem dec_canon (u : Nat) : canon (Lib.decDigits u) = true := by
  obtain ⟨h1, h2, h3, h4, h5⟩ := dec_props u
  simp only [canon, h1, Bool.and_true, Bool.and_eq_true, Bool.not_eq_true', beq_eq_false_iff_ne, Bool.or_eq_true]
  refine ⟨h3, ?_⟩
  by_cases hu : u < 10
  · right; rw [Lib.decDigits, dif_pos hu]; rfl
  · left; exact h4 (by omega)
theorem canon_dec : ∀ (n : Nat) (l : List UInt8), l.length = n → canon l = true → Lib.decDigits (dvalN 0 l) = l
  | 0, l, hn, h => by
    have := List.eq_nil_of_length_eq_zero hn
    subst this
    simp [canon] at h
  | n + 1, l, hn, h => by
    simp only [canon, Bool.and_eq_true, Bool.not_eq_true', beq_eq_false_iff_ne, Bool.or_eq_true, beq_iff_eq] at h
    obtain ⟨⟨h1, h2⟩, h3⟩ := h
    obtain ⟨ini, c, rfl⟩ : ∃ ini c, l = ini ++ [c] := ⟨l.dropLast, l.getLast h1, (List.dropLast_concat_getLast h1).symm⟩
    simp only [List.all_append, Bool.and_eq_true, List.all_cons, List.all_nil, Bool.and_true] at h2
    obtain ⟨h2, hc⟩ := h2
    simp only [isDig, Bool.and_eq_true, decide_eq_true_eq] at hc
    have ec : UInt8.ofNat (48 + (c.toNat - 48)) = c := by
      have : 48 + (c.toNat - 48) = c.toNat := by omega
      rw [this]; simp
    rw [dval_app]
    cases ini with
    | nil =>
      rw [dval_nil, Nat.zero_mul, Nat.zero_add, List.nil_append, Lib.decDigits, dif_pos (by omega), ec]
    | cons a b =>
      have hl : (a :: b).length = n := by simp at hn ⊢; omega
      have h48 : ¬ a = 48 := by
        rcases h3 with h3 | h3
        · simpa using h3
        · simp at h3
      have hcn : canon (a :: b) = true := by
        simp only [canon, h2, Bool.and_true, Bool.and_eq_true, Bool.not_eq_true', beq_eq_false_iff_ne, Bool.or_eq_true]
        exact ⟨by simp, .inl (by simpa using h48)⟩
      have ih := canon_dec n (a :: b) hl hcn
      have hp : 1 ≤ dvalN 0 (a :: b) := by
        rcases Nat.eq_zero_or_pos (dvalN 0 (a :: b)) with h0 | h0
        · rw [h0, Lib.decDigits, dif_pos (by decide)] at ih
          have : a = 48 := by
            have := congrArg List.head? ih
            simpa using this.symm
          exact absurd this h48
        · exact h0
      rw [Lib.decDigits, dif_neg (by omega)]
      have e1 : (dvalN 0 (a :: b) * 10 + (c.toNat - 48)) / 10 = dvalN 0 (a :: b) := by omega
      have e2 : (dvalN 0 (a :: b) * 10 + (c.toNat - 48)) % 10 = c.toNat - 48 := by omega
      rw [e1, e2, ih, ec]
/-- what the law's reader of numbers answers -/
def l1I (l : List UInt8) (most : Int) : Int × Bool := if (l.length : Int) ≤ most ∧ canon l = true then ((dvalN 0 l : Int), true) else (0, false)
theorem dval_lt : ∀ (l : List UInt8) (acc k : Nat), l.all isDig = true → acc < 10 ^ k → dvalN acc l < 10 ^ (k + l.length)
  | [], acc, k, _, h => by rw [dval_nil]; simpa using h
  | c :: r, acc, k, hd, h => by
    simp only [List.all_cons, Bool.and_eq_true] at hd
    have hc := hd.1
    simp only [isDig, Bool.and_eq_true, decide_eq_true_eq] at hc
    have := dval_lt r (acc * 10 + (c.toNat - 48)) (k + 1) hd.2 (by rw [Nat.pow_succ]; omega)
    rw [dval_cons, List.length_cons, show k + (r.length + 1) = k + 1 + r.length by omega]
    exact this
theorem parseM_ok : ∀ (l : List UInt8) (acc : Nat), l.all isDig = true → dvalN acc l ≤ 1000000000000000000 → Lib.parseUintM (2 ^ 64 - 1) acc l = .ok (dvalN acc l)
  | [], acc, _, _ => by simp only [Lib.parseUintM, dval_nil]
  | c :: r, acc, hd, h => by
    simp only [List.all_cons, Bool.and_eq_true] at hd
    have hc := hd.1
    simp only [isDig, Bool.and_eq_true, decide_eq_true_eq] at hc
    rw [dval_cons] at h ⊢
    have g1 := dval_ge r (acc * 10 + (c.toNat - 48))
    have p : (2 : Nat) ^ 64 - 1 = 18446744073709551615 := by decide
    simp only [Lib.parseUintM]
    rw [if_pos hc, if_neg (by omega), if_neg (by rw [p]; omega)]
    exact parseM_ok r _ hd.2 h
theorem parse_dec {u : Nat} (h : u ≤ 1000000000000000000) : Lib.parseUintB 64 (Lib.decDigits u) = .ok u := by
  obtain ⟨h1, h2, h3, _, _⟩ := dec_props u
  unfold Lib.parseUintB
  rw [if_neg h3, parseM_ok _ 0 h1 (by rw [h2]; exact h), h2]
theorem dec_cons (u : Nat) : ∃ c r, Lib.decDigits u = c :: r ∧ isDig c = true := by
  obtain ⟨h1, _, h3, _, _⟩ := dec_props u
  cases hq : Lib.decDigits u with
  | nil => exact absurd hq h3
  | cons c r =>
    rw [hq] at h1
    simp only [List.all_cons, Bool.and_eq_true] at h1
    exact ⟨c, r, rfl, h1.1⟩
theorem parse_itoa {x : Int} (h : -1000000000000000 ≤ x ∧ x ≤ 1000000000000000) : Lib.parseIntB 64 (Lib.itoa x) = .ok x := by
  have p : (2 : Nat) ^ (64 - 1) = 9223372036854775808 := by decide
  by_cases hx : x < 0
  · have e : Lib.itoa x = 45 :: Lib.decDigits x.natAbs := by unfold Lib.itoa; rw [if_pos hx]
    have c45 : (45 : UInt8).toNat = 45 := rfl
    rw [e]
    simp only [Lib.parseIntB, c45, or_true, if_true, parse_dec (u := x.natAbs) (by omega), p]
    rw [if_neg (by simp), if_neg (by omega)]
    congr 1
    omega
  · have e : Lib.itoa x = Lib.decDigits x.toNat := by unfold Lib.itoa; rw [if_neg hx]
    obtain ⟨c, r, hcr, hd⟩ := dec_cons x.toNat
    simp only [isDig, Bool.and_eq_true, decide_eq_true_eq] at hd
    rw [e, hcr]
    simp only [Lib.parseIntB]
    rw [if_neg (by omega), ← hcr, parse_dec (u := x.toNat) (by omega)]
    simp only [p]
    rw [if_neg (by omega), if_neg (by omega), if_neg (by omega)]
    congr 1
    omega
/-- a number that is read: it is its own text -/
def numR (l : List UInt8) : Option Int := if l.head? = some 45 then (if (l1I (l.drop 1) 16).2 = true ∧ (l1I (l.drop 1) 16).1 ≠ 0 then some (-(l1I (l.drop 1) 16).1) else none) else (if (l1I l 16).2 = true then some (l1I l 16).1 else none)
theorem l1I_true {l : List UInt8} (h : (l1I l 16).2 = true) : l.length ≤ 16 ∧ canon l = true ∧ (l1I l 16).1 = (dvalN 0 l : Int) ∧ Lib.decDigits (dvalN 0 l) = l := by
  unfold l1I at h ⊢
  split at h
  · rename_i hc
    rw [if_pos hc]
    exact ⟨by omega, hc.2, rfl, canon_dec _ l rfl hc.2⟩
  · cases h
theorem l1I_dec {u : Nat} (h : u ≤ 1000000000000000) : l1I (Lib.decDigits u) 16 = ((u : Int), true) := by
  obtain ⟨h1, h2, h3, _, _⟩ := dec_props u
  have hl : (Lib.decDigits u).length ≤ 16 := by
    rw [Lib.decDigits_length]
    have : Lib.nDigits 1000000000000000 = 16 := Lib.nDigits_unique 15 _ (by decide) (by decide)
    rcases Nat.lt_or_ge 16 (Lib.nDigits u) with h4 | h4
    · have h5 : u < 10 ^ 16 := by have : (10 : Nat) ^ 16 = 10000000000000000 := by decide
                                  omega
      exfalso
      rcases Nat.lt_or_ge u 1 with h6 | h6
      · have : u = 0 := by omega
        subst this
        rw [Lib.nDigits_small (by decide)] at h4
        omega
      · have key : ∀ (k v : Nat), 1 ≤ v → v < 10 ^ k → Lib.nDigits v ≤ k := by
          intro k
          induction k with
          | zero => intro v hv hv'; simp at hv'; omega
          | succ k ih =>
            intro v hv hv'
            by_cases h10 : v < 10
            · rw [Lib.nDigits_small h10]; omega
            · rw [Lib.nDigits_big h10]
              have := ih (v / 10) (by omega) (by rw [Nat.pow_succ] at hv'; omega)
              omega
        have := key 16 u h6 h5
        omega
    · exact h4
  unfold l1I
  rw [if_pos ⟨by omega, dec_canon u⟩, h2]
theorem numR_some {l : List UInt8} {x : Int} (h : numR l = some x) : l = Lib.itoa x := by
  unfold numR at h
  split at h
  · rename_i h45
    split at h
    · rename_i hc
      cases h
      obtain ⟨a1, a2, a3, a4⟩ := l1I_true hc.1
      have hne := hc.2
      rw [a3] at hne ⊢
      unfold Lib.itoa
      rw [if_pos (by omega)]
      have : (-(dvalN 0 (l.drop 1) : Int)).natAbs = dvalN 0 (l.drop 1) := by omega
      rw [this, a4]
      cases l with
      | nil => cases h45
      | cons c r => simp at h45; simp [h45]
    · cases h
  · split at h
    · rename_i hc
      cases h
      obtain ⟨a1, a2, a3, a4⟩ := l1I_true hc
      rw [a3]
      unfold Lib.itoa
      rw [if_neg (by omega), Int.toNat_natCast, a4]
    · cases h
theorem numR_itoa {x : Int} (h : -1000000000000000 ≤ x ∧ x ≤ 1000000000000000) : numR (Lib.itoa x) = some x := by
  unfold numR
  by_cases hx : x < 0
  · have e : Lib.itoa x = 45 :: Lib.decDigits x.natAbs := by unfold Lib.itoa; rw [if_pos hx]
    have e2 := l1I_dec (u := x.natAbs) (by omega)
    rw [e, List.head?_cons, if_pos rfl, List.drop_succ_cons, List.drop_zero, e2, if_pos ⟨rfl, by show ((x.natAbs : Nat) : Int) ≠ 0; omega⟩]
    congr 1
    show -((x.natAbs : Nat) : Int) = x
    omega
  · have e : Lib.itoa x = Lib.decDigits x.toNat := by unfold Lib.itoa; rw [if_neg hx]
    have e2 := l1I_dec (u := x.toNat) (by omega)
    obtain ⟨c, r, hcr, hd⟩ := dec_cons x.toNat
    have h45 : ¬ (Lib.decDigits x.toNat).head? = some 45 := by
      rw [hcr]
      simp only [List.head?_cons, Option.some.injEq]
      intro hc
      subst hc
      simp [isDig] at hd
    rw [e, if_neg h45, e2, if_pos rfl]
    congr 1
    show ((x.toNat : Nat) : Int) = x
    omega
theorem numR_in {l : List UInt8} {x : Int} (h : numR l = some x) : -10000000000000000 ≤ x ∧ x ≤ 10000000000000000 := by
  have p16 : (10 : Nat) ^ 16 = 10000000000000000 := by decide
  have key : ∀ {q : List UInt8}, (l1I q 16).2 = true → (0 ≤ (l1I q 16).1 ∧ (l1I q 16).1 ≤ 10000000000000000) := fun {q} hq => by
    obtain ⟨a1, a2, a3, a4⟩ := l1I_true hq
    rw [a3]
    simp only [canon, Bool.and_eq_true] at a2
    have := dval_lt q 0 0 a2.1.2 (by decide)
    have h2 : (10 : Nat) ^ (0 + q.length) ≤ 10 ^ 16 := Nat.pow_le_pow_right (by decide) (by omega)
    omega
  unfold numR at h
  split at h
  · split at h
    · rename_i hc; cases h; have := key hc.1; omega
    · cases h
  · split at h
    · rename_i hc; cases h; have := key hc; omega
    · cases h
def parseN (s : ByteArray) : Int := match L_strconv_ParseInt s 10 64 with
  | some (.inl v) => v
  | some (.inr v) => v
  | none => 0
theorem parseN_itoa {s : ByteArray} {x : Int} (hs : s.toList = Lib.itoa x) (h : -1000000000000000 ≤ x ∧ x ≤ 1000000000000000) : parseN s = x := by
  have hd : s.data.toList = Lib.itoa x := by rw [← Go.Lib.toList_data]; exact hs
  have hsz : s.size ≤ 281474976710656 := by
    rw [← tl_len, hs]
    unfold Lib.itoa
    split
    · have := dec_len x.natAbs (by omega); simp; omega
    · have := dec_len x.toNat (by omega); omega
  unfold parseN L_strconv_ParseInt
  rw [if_pos ⟨rfl, rfl, hsz⟩, hd, parse_itoa h]
/-- which error's name a text is -/
def idxN (s : ByteArray) : Int := if (nameS 5).toList = s.toList then 5 else if (nameS 4).toList = s.toList then 4 else if (nameS 3).toList = s.toList then 3 else if (nameS 2).toList = s.toList then 2 else if (nameS 1).toList = s.toList then 1 else 0
theorem idxN_in (s : ByteArray) : 0 ≤ idxN s ∧ idxN s ≤ 5 := by
  unfold idxN
  repeat' split
  all_goals decide
theorem idxN_ne {s : ByteArray} (h : ¬ idxN s = 0) : nameS (idxN s) = s := by
  unfold idxN at h ⊢
  by_cases h5 : (nameS 5).toList = s.toList
  · rw [if_pos h5]; exact ba_eqL h5
  rw [if_neg h5] at h ⊢
  by_cases h4 : (nameS 4).toList = s.toList
  · rw [if_pos h4]; exact ba_eqL h4
  rw [if_neg h4] at h ⊢
  by_cases h3 : (nameS 3).toList = s.toList
  · rw [if_pos h3]; exact ba_eqL h3
  rw [if_neg h3] at h ⊢
  by_cases h2 : (nameS 2).toList = s.toList
  · rw [if_pos h2]; exact ba_eqL h2
  rw [if_neg h2] at h ⊢
  by_cases h1 : (nameS 1).toList = s.toList
  · rw [if_pos h1]; exact ba_eqL h1
  rw [if_neg h1] at h
  exact absurd rfl h
theorem five {i : Int} (h : 1 ≤ i ∧ i ≤ 5) : i = 1 ∨ i = 2 ∨ i = 3 ∨ i = 4 ∨ i = 5 := by omega
/-- what a text may be the text of -/
def candV (s : ByteArray) : V3 :=
  if s.toList.head? = some 39 then (2, 0, ⟨s.toList.tail.toArray⟩) else
  if s.toList = [70, 65, 76, 83, 69] then (3, 0, em) else if s.toList = [84, 82, 85, 69] then (3, 1, em) else
  if s.toList.head? = some 35 then (if idxN s = 0 then (0, 0, em) else (4, idxN s, em)) else
  if s.toList = [] then (0, 0, em) else (1, parseN s, em)
/-- a text, read as a value: it is that value's text -/
def readV (s : ByteArray) : Int × Int × ByteArray × Bool := if okV (candV s).1 (candV s).2.1 (candV s).2.2 = true ∧ (vtext (candV s).1 (candV s).2.1 (candV s).2.2).toList = s.toList then ((candV s).1, (candV s).2.1, (candV s).2.2, true) else (0, 0, ⟨#[]⟩, false)
theorem beqI (c : UInt8) (k : Nat) (hk : k < 256) : ((c.toNat : Int) == (k : Int)) = (some c == some (UInt8.ofNat k)) := by
  by_cases e : c = UInt8.ofNat k
  · subst e
    have : (UInt8.ofNat k).toNat = k := by rw [UInt8.toNat_ofNat']; omega
    simp [this]
  · have h1 : ¬ (c.toNat : Int) = (k : Int) := fun h => e (by
      have : c.toNat = k := by omega
      rw [← this]; simp)
    have h2 : ¬ some c = some (UInt8.ofNat k) := fun h => e (by simpa using h)
    rw [beq_eq_false_iff_ne.2 h1, beq_eq_false_iff_ne.2 h2]
theorem toList_mk (l : List UInt8) : (⟨l.toArray⟩ : ByteArray).toList = l := by rw [Go.Lib.toList_data]
theorem ev_FormatInt (x : Int) (h : -9223372036854775808 ≤ x ∧ x ≤ 9223372036854775807) : Ev (F_strconv_FormatInt · x 10) (decS x) := by
  refine ⟨1, fun n hn => ?_⟩
  obtain ⟨m, rfl, hm⟩ := up1 hn
  show L_strconv_FormatInt x 10 = _
  unfold L_strconv_FormatInt
  rw [if_pos ⟨rfl, h⟩]
  rfl
theorem ev_impl_decimal (x : Int) (h : -9223372036854775808 ≤ x ∧ x ≤ 9223372036854775807) : Ev (F_impl_decimal · x) (decS x) := by
  obtain ⟨n1, h1⟩ := ev_FormatInt x h
  refine ⟨n1 + 1, fun n hn => ?_⟩
  obtain ⟨m, rfl, hm⟩ := up1 hn
  have h1 := h1 m (by omega)
  dsimp only at h1
  simp only [F_impl_decimal, T_impl_decimal, run_done, run_fail, run_ask, run_opt, run_inl, run_inr, Option.bind_some, apart_b, apart_i, apart_s, h1]
theorem ev_impl_ColText (x : Int) : Ev (F_impl_ColText · x) (colS x) := by
  by_cases h : 1 ≤ x ∧ x ≤ 52
  · by_cases h26 : x ≤ 26
    · have w1 : IntKind.i64.wrap (65 + x) = 65 + x := wrap64 (by omega)
      have w2 : IntKind.i64.wrap (65 + x - 1) = 65 + x - 1 := wrap64 (by omega)
      have w3 : IntKind.u8.wrap (65 + x - 1) = 65 + x - 1 := u8wrap (by omega)
      have e : (65 + x - 1).toNat = 64 + x.toNat := by omega
      obtain ⟨n1, h1⟩ := ev_impl_within x 1 52
      refine ⟨n1 + 1, fun n hn => ?_⟩
      obtain ⟨m, rfl, hm⟩ := up1 hn
      have h1 := h1 m (by omega)
      dsimp only at h1
      simp only [F_impl_ColText, T_impl_ColText, run_done, run_fail, run_ask, run_opt, run_inl, run_inr, Option.bind_some, apart_b, apart_i, apart_s, h1]
      simp only [w1, w2, w3, bytesOf, Option.map_some, e]
      simp [h, h26, colS, show ¬ x < 1 by omega, show ¬ 52 < x by omega]
    · have w1 : IntKind.i64.wrap (x - 1) = x - 1 := wrap64 (by omega)
      have e1 : Int.tdiv (x - 1) 26 = 1 := by rw [Int.tdiv_eq_ediv_of_nonneg (by omega)]; omega
      have e2 : Int.tmod (x - 1) 26 = (((x.toNat - 1) % 26 : Nat) : Int) := by rw [Int.tmod_eq_emod_of_nonneg (by omega)]; omega
      have w2 : IntKind.u8.wrap (IntKind.i64.wrap (IntKind.i64.wrap (65 + IntKind.i64.wrap 1) - 1)) = 65 := by decide
      have w3 : IntKind.i64.wrap (65 + (((x.toNat - 1) % 26 : Nat) : Int)) = 65 + (((x.toNat - 1) % 26 : Nat) : Int) := wrap64 (by omega)
      have w4 : IntKind.u8.wrap (65 + (((x.toNat - 1) % 26 : Nat) : Int)) = 65 + (((x.toNat - 1) % 26 : Nat) : Int) := u8wrap (by omega)
      have e3 : (65 + (((x.toNat - 1) % 26 : Nat) : Int)).toNat = 65 + (x.toNat - 1) % 26 := by omega
      obtain ⟨n1, h1⟩ := ev_impl_within x 1 52
      refine ⟨n1 + 1, fun n hn => ?_⟩
      obtain ⟨m, rfl, hm⟩ := up1 hn
      have h1 := h1 m (by omega)
      dsimp only at h1
      simp only [F_impl_ColText, T_impl_ColText, run_done, run_fail, run_ask, run_opt, run_inl, run_inr, Option.bind_some, apart_b, apart_i, apart_s, h1]
      simp only [w1, e1, e2, w2, w3, w4, e3, bytesOf, Option.map_some]
      simp [h, h26, colS, show ¬ x < 1 by omega, show ¬ 52 < x by omega]
  · have hx : x < 1 ∨ x > 52 := by omega
    obtain ⟨n1, h1⟩ := ev_impl_within x 1 52
    refine ⟨n1 + 1, fun n hn => ?_⟩
    obtain ⟨m, rfl, hm⟩ := up1 hn
    have h1 := h1 m (by omega)
    dsimp only at h1
    simp only [F_impl_ColText, T_impl_ColText, run_done, run_fail, run_ask, run_opt, run_inl, run_inr, Option.bind_some, apart_b, apart_i, apart_s, h1]
    simp [h, colS, hx]
theorem colT_step (n x : Nat) (s : ByteArray) (h : 1 ≤ x ∧ x ≤ 1000) (hs : s.size ≤ 100) : (B_spec_ColText_30 n ((x : Int), s)).run = some (.inl ((((x - 1) / 26 : Nat) : Int), (⟨#[UInt8.ofNat (65 + (x - 1) % 26)]⟩ : ByteArray) ++ s)) := by
  have w1 : IntKind.i64.wrap ((x : Int) - 1) = ((x - 1 : Nat) : Int) := by rw [wrap64 (by omega)]; omega
  have e1 : Int.tdiv ((x - 1 : Nat) : Int) 26 = (((x - 1) / 26 : Nat) : Int) := by rw [Int.tdiv_eq_ediv_of_nonneg (by omega)]; omega
  have e2 : Int.tmod ((x - 1 : Nat) : Int) 26 = (((x - 1) % 26 : Nat) : Int) := by rw [Int.tmod_eq_emod_of_nonneg (by omega)]; omega
  have w2 : IntKind.i64.wrap (((x - 1) / 26 : Nat) : Int) = (((x - 1) / 26 : Nat) : Int) := wrap64 (by omega)
  have w3 : IntKind.i64.wrap (65 + (((x - 1) % 26 : Nat) : Int)) = 65 + (((x - 1) % 26 : Nat) : Int) := wrap64 (by omega)
  have w4 : IntKind.u8.wrap (65 + (((x - 1) % 26 : Nat) : Int)) = 65 + (((x - 1) % 26 : Nat) : Int) := u8wrap (by omega)
  have e3 : (65 + (((x - 1) % 26 : Nat) : Int)).toNat = 65 + (x - 1) % 26 := by omega
  have hz : (⟨#[UInt8.ofNat (65 + (x - 1) % 26)]⟩ : ByteArray).size + s.size ≤ 9223372036854775807 := by show 1 + s.size ≤ _; omega
  have hc : (x : Int) > 0 := by omega
  simp only [B_spec_ColText_30, run_done, run_fail, run_ask, run_opt, run_inl, run_inr, Option.bind_some, apart_b, apart_i, apart_s, w1, e1, e2, w2, w3, w4, e3, bytesOf, Option.map_some]
  rw [if_pos (decide_eq_true hc), if_pos (by simp), if_pos (decide_eq_true hz)]
theorem colT_end (n : Nat) (s : ByteArray) : (B_spec_ColText_30 n (((0 : Nat) : Int), s)).run = some (.inr s) := by
  simp [B_spec_ColText_30, run_done, run_fail, run_ask, run_opt, run_inl, run_inr, Option.bind_some, apart_b, apart_i, apart_s]
theorem ev_spec_ColText (x : Int) : Ev (F_spec_ColText · x) (colS x) := by
  by_cases h : 1 ≤ x ∧ x ≤ 52
  · obtain ⟨n1, h1⟩ := ev_spec_l1In x 1 52
    refine ⟨n1 + 10, fun n hn => ?_⟩
    obtain ⟨m, rfl, hm⟩ := up1 hn
    have h1 := h1 m (by omega)
    dsimp only at h1
    obtain ⟨u, rfl⟩ : ∃ u : Nat, x = u := ⟨x.toNat, by omega⟩
    obtain ⟨M, hM⟩ : ∃ M, m = M + 3 := ⟨m - 3, by omega⟩
    have key : loopF (B_spec_ColText_30 m) m ((u : Int), (⟨#[]⟩ : ByteArray)) = some (colS u) := by
      rw [hM, loopF_inl (colT_step _ u ⟨#[]⟩ (by omega) (by decide))]
      by_cases h26 : u ≤ 26
      · have e : (u - 1) / 26 = 0 := by omega
        have e2 : 65 + (u - 1) % 26 = 64 + u := by omega
        rw [e, loopF_inr (colT_end _ _), e2]
        congr 1
        apply ba_eq
        rw [ba_app]
        simp [colS, show ¬ (u : Int) < 1 by omega, show ¬ (52 : Int) < u by omega, show (u : Int) ≤ 26 by omega]
      · have e : (u - 1) / 26 = 1 := by omega
        have e4 : (⟨#[UInt8.ofNat (65 + (u - 1) % 26)]⟩ ++ (⟨#[]⟩ : ByteArray)).size ≤ 100 := by rw [ByteArray.size_append]; show 1 + 0 ≤ 100; decide
        rw [e, loopF_inl (colT_step _ 1 _ (by decide) e4)]
        have e3 : (1 - 1) / 26 = 0 := by decide
        rw [e3, loopF_inr (colT_end _ _)]
        congr 1
        apply ba_eq
        rw [ba_app, ba_app]
        simp [colS, show ¬ (u : Int) < 1 by omega, show ¬ (52 : Int) < u by omega, show ¬ (u : Int) ≤ 26 by omega]
    simp only [F_spec_ColText, T_spec_ColText, run_done, run_fail, run_ask, run_opt, run_inl, run_inr, Option.bind_some, apart_b, apart_i, apart_s, h1, key]
    simp [h]
  · have hx : x < 1 ∨ x > 52 := by omega
    obtain ⟨n1, h1⟩ := ev_spec_l1In x 1 52
    refine ⟨n1 + 1, fun n hn => ?_⟩
    obtain ⟨m, rfl, hm⟩ := up1 hn
    have h1 := h1 m (by omega)
    dsimp only at h1
    simp only [F_spec_ColText, T_spec_ColText, run_done, run_fail, run_ask, run_opt, run_inl, run_inr, Option.bind_some, apart_b, apart_i, apart_s, h1]
    simp [h, colS, hx]
theorem ev_impl_PlaceText (c r : Int) (fc fr : Bool) : Ev (F_impl_PlaceText · c r fc fr) (placeS c r fc fr) := by
  cases ho : okRef c r with
  | false =>
    obtain ⟨n1, h1⟩ := ev_impl_RefOk c r
    refine ⟨n1 + 1, fun n hn => ?_⟩
    obtain ⟨m, rfl, hm⟩ := up1 hn
    have h1 := h1 m (by omega)
    dsimp only at h1
    simp only [F_impl_PlaceText, T_impl_PlaceText, run_done, run_fail, run_ask, run_opt, run_inl, run_inr, Option.bind_some, apart_b, apart_i, apart_s, h1]
    simp [ho, placeS]
  | true =>
    have h := okRef_in ho
    have s1 := colS_size c
    have s2 := decS_size' h.2
    have d1 : (⟨#[36]⟩ : ByteArray).size = 1 := rfl
    have d0 : (⟨#[]⟩ : ByteArray).size = 0 := rfl
    have z1 : (⟨#[36]⟩ : ByteArray).size + (colS c).size ≤ 9223372036854775807 := by omega
    have z2 : ((⟨#[36]⟩ : ByteArray) ++ colS c).size + (⟨#[36]⟩ : ByteArray).size ≤ 9223372036854775807 := by rw [ByteArray.size_append]; omega
    have z3 : (((⟨#[36]⟩ : ByteArray) ++ colS c) ++ (⟨#[36]⟩ : ByteArray)).size + (decS r).size ≤ 9223372036854775807 := by rw [ByteArray.size_append, ByteArray.size_append]; omega
    have z4 : ((⟨#[36]⟩ : ByteArray) ++ colS c).size + (decS r).size ≤ 9223372036854775807 := by rw [ByteArray.size_append]; omega
    have y1 : (⟨#[]⟩ : ByteArray).size + (colS c).size ≤ 9223372036854775807 := by omega
    have y2 : ((⟨#[]⟩ : ByteArray) ++ colS c).size + (⟨#[36]⟩ : ByteArray).size ≤ 9223372036854775807 := by rw [ByteArray.size_append]; omega
    have y3 : (((⟨#[]⟩ : ByteArray) ++ colS c) ++ (⟨#[36]⟩ : ByteArray)).size + (decS r).size ≤ 9223372036854775807 := by rw [ByteArray.size_append, ByteArray.size_append]; omega
    have y4 : ((⟨#[]⟩ : ByteArray) ++ colS c).size + (decS r).size ≤ 9223372036854775807 := by rw [ByteArray.size_append]; omega
    obtain ⟨n1, h1⟩ := ev_impl_RefOk c r
    obtain ⟨n2, h2⟩ := ev_impl_ColText c
    obtain ⟨n3, h3⟩ := ev_impl_decimal r (by omega)
    refine ⟨n1 + n2 + n3 + 1, fun n hn => ?_⟩
    obtain ⟨m, rfl, hm⟩ := up1 hn
    have h1 := h1 m (by omega)
    dsimp only at h1
    have h2 := h2 m (by omega)
    dsimp only at h2
    have h3 := h3 m (by omega)
    dsimp only at h3
    simp only [F_impl_PlaceText, T_impl_PlaceText, run_done, run_fail, run_ask, run_opt, run_inl, run_inr, Option.bind_some, apart_b, apart_i, apart_s, h1, h2, h3]
    simp only [ho, decide_eq_true z1, decide_eq_true z2, decide_eq_true z3, decide_eq_true z4, decide_eq_true y1, decide_eq_true y2, decide_eq_true y3, decide_eq_true y4, if_true, Bool.not_true, Bool.false_eq_true, if_false]
    cases fc <;> cases fr <;> simp only [if_true, if_false, Bool.false_eq_true, Option.some.injEq] <;> apply ba_eq <;> simp [placeS, ho, ba_app]
theorem l1Int_loop (n : Nat) (s : ByteArray) : ∀ (r pre : List UInt8) (acc M : Nat), s.toList = pre ++ r → acc < 10 ^ pre.length → pre.length + r.length ≤ 17 → r.length + 1 ≤ M →
    loopF (B_spec_l1Int_61 n) M (s, (acc : Int), (pre.length : Int)) = some (if r.all isDig = true then .inr ((dvalN acc r : Nat) : Int) else .inl (0, false))
  | r, pre, acc, 0, h1, h2, h3, h4 => by omega
  | [], pre, acc, M + 1, h1, h2, h3, h4 => by
    have hs : s.size = pre.length := by rw [← tl_len, h1]; simp
    rw [loopF_inr (r := .inr (acc : Int)) (by simp [B_spec_l1Int_61, run_done, run_fail, run_ask, run_opt, run_inl, run_inr, Option.bind_some, apart_b, apart_i, apart_s, hs])]
    simp [dval_nil]
  | c :: r, pre, acc, M + 1, h1, h2, h3, h4 => by
    have hs : s.size = pre.length + (r.length + 1) := by rw [← tl_len, h1]; simp
    have hi : (pre.length : Int) < s.size := by omega
    have hg : s.toList[pre.length]? = some c := by rw [h1]; simp
    simp only [List.length_cons] at h3 h4
    by_cases c1 : (c.toNat : Int) < 48
    · rw [loopF_inr (r := .inl (0, false)) (by simp [B_spec_l1Int_61, run_done, run_fail, run_ask, run_opt, run_inl, run_inr, Option.bind_some, apart_b, apart_i, apart_s, hi, hg, c1])]
      have : isDig c = false := by simp [isDig]; omega
      simp [this]
    · by_cases c2 : (c.toNat : Int) > 57
      · rw [loopF_inr (r := .inl (0, false)) (by simp [B_spec_l1Int_61, run_done, run_fail, run_ask, run_opt, run_inl, run_inr, Option.bind_some, apart_b, apart_i, apart_s, hi, hg, c1, c2])]
        have : isDig c = false := by simp [isDig]; omega
        simp [this]
      · have hc : isDig c = true := by simp [isDig]; omega
        have hp : 10 ^ pre.length ≤ 10 ^ 16 := Nat.pow_le_pow_right (by decide) (by omega)
        have p16 : (10 : Nat) ^ 16 = 10000000000000000 := by decide
        have w1 : IntKind.i64.wrap ((acc : Int) * 10) = (acc : Int) * 10 := wrap64 (by omega)
        have w2 : IntKind.u8.wrap ((c.toNat : Int) - 48) = ((c.toNat - 48 : Nat) : Int) := by rw [u8wrap (by omega)]; omega
        have w3 : IntKind.i64.wrap ((c.toNat - 48 : Nat) : Int) = ((c.toNat - 48 : Nat) : Int) := wrap64 (by omega)
        have w4 : IntKind.i64.wrap ((acc : Int) * 10 + ((c.toNat - 48 : Nat) : Int)) = ((acc * 10 + (c.toNat - 48) : Nat) : Int) := by rw [wrap64 (by omega)]; omega
        have w5 : IntKind.i64.wrap ((pre.length : Int) + 1) = (pre.length : Int) + 1 := wrap64 (by omega)
        have e0 : ((pre ++ [c]).length : Int) = (pre.length : Int) + 1 := by simp
        rw [loopF_inl (v' := (s, ((acc * 10 + (c.toNat - 48) : Nat) : Int), ((pre ++ [c]).length : Int))) (by
          rw [e0]
          simp [B_spec_l1Int_61, run_done, run_fail, run_ask, run_opt, run_inl, run_inr, Option.bind_some, apart_b, apart_i, apart_s, hi, hg, c1, c2, w1, w2, w3, w4, w5])]
        rw [l1Int_loop n s r (pre ++ [c]) (acc * 10 + (c.toNat - 48)) M (by rw [h1]; simp) (by rw [List.length_append, List.length_singleton, Nat.pow_succ]; omega) (by simp; omega) (by omega)]
        simp [hc, dval_cons]
theorem ev_spec_l1Int (s : ByteArray) (most : Int) (hm : most ≤ 16) : Ev (F_spec_l1Int · s most) (l1I s.toList most) := by
  have hsz : s.size = s.toList.length := (tl_len s).symm
  by_cases h0 : s.toList = []
  · have hz : s.size = 0 := by rw [hsz, h0]; rfl
    refine ⟨1, fun n hn => ?_⟩
    obtain ⟨m, rfl, hm⟩ := up1 hn
    simp only [F_spec_l1Int, T_spec_l1Int, run_done, run_fail, run_ask, run_opt, run_inl, run_inr, Option.bind_some, apart_b, apart_i, apart_s]
    simp [hz, h0, l1I, canon]
  · obtain ⟨c, r, hcr⟩ : ∃ c r, s.toList = c :: r := by
      cases hq : s.toList with
      | nil => exact absurd hq h0
      | cons a b => exact ⟨a, b, rfl⟩
    have hl : s.size = r.length + 1 := by rw [hsz, hcr]; rfl
    have z1 : ¬ (s.size : Int) < 1 := by omega
    by_cases h1 : (s.size : Int) > most
    · refine ⟨1, fun n hn => ?_⟩
      obtain ⟨m, rfl, hm⟩ := up1 hn
      simp only [F_spec_l1Int, T_spec_l1Int, run_done, run_fail, run_ask, run_opt, run_inl, run_inr, Option.bind_some, apart_b, apart_i, apart_s]
      have : ¬ ((s.toList.length : Int) ≤ most) := by rw [← hsz]; omega
      simp [z1, h1, l1I, this]
    · have hle : (s.toList.length : Int) ≤ most := by rw [← hsz]; omega
      refine ⟨30, fun n hn => ?_⟩
      obtain ⟨m, rfl, hm'⟩ := up1 hn
      have hg : s.toList[0]? = some c := by rw [hcr]; rfl
      have lp := l1Int_loop m s s.toList [] 0 m rfl (by decide) (by simp; omega) (by omega)
      simp only [List.length_nil, Int.natCast_zero] at lp
      have c48 : ((c.toNat : Int) == 48) = (c == 48) := by
        by_cases e : c = 48
        · subst e; rfl
        · have : ¬ (c.toNat : Int) = 48 := fun h => e (UInt8.toNat_inj.1 (by show c.toNat = 48; omega))
          rw [beq_eq_false_iff_ne.2 this, beq_eq_false_iff_ne.2 e]
      simp only [F_spec_l1Int, T_spec_l1Int, run_done, run_fail, run_ask, run_opt, run_inl, run_inr, Option.bind_some, apart_b, apart_i, apart_s, lp, Int.toNat_zero, hg, c48]
      rw [if_neg (by simpa using z1), if_neg (by simpa using h1), if_pos (by simp)]
      have ne : (s.toList == []) = false := by simpa using h0
      have hd : s.toList.head? = some c := by rw [hcr]; rfl
      by_cases hc : c = 48
      · subst hc
        by_cases h2 : (s.size : Int) > 1
        · have : ¬ s.toList.length = 1 := by omega
          simp [h2, l1I, canon, hd, this]
        · have : s.toList.length = 1 := by omega
          cases hall : s.toList.all isDig <;> simp [h2, l1I, canon, hd, this, hall, ne, hle, run_done, run_fail, run_ask, run_opt, run_inl, run_inr, Option.bind_some, apart_b, apart_i, apart_s]
          · omega
      · have : (some c == some 48) = false := by simpa using hc
        cases hall : s.toList.all isDig <;> simp [hc, l1I, canon, hd, this, hall, ne, hle, run_done, run_fail, run_ask, run_opt, run_inl, run_inr, Option.bind_some, apart_b, apart_i, apart_s]
theorem ev_ParseInt (s : ByteArray) (h : s.size ≤ 281474976710656) : Ev (F_strconv_ParseInt · s 10 64) (.inl (parseN s)) ∨ Ev (F_strconv_ParseInt · s 10 64) (.inr (parseN s)) := by
  have key : ∃ r, L_strconv_ParseInt s 10 64 = some r := by
    unfold L_strconv_ParseInt
    rw [if_pos ⟨rfl, rfl, h⟩]
    split <;> exact ⟨_, rfl⟩
  obtain ⟨r, hr⟩ := key
  have e : Ev (F_strconv_ParseInt · s 10 64) r := ⟨1, fun n hn => by
    obtain ⟨m, rfl, hm⟩ := up1 hn
    exact hr⟩
  rcases r with v | v
  · exact .inl (by unfold parseN; rw [hr]; exact e)
  · exact .inr (by unfold parseN; rw [hr]; exact e)
theorem ev_CutPrefix (s : ByteArray) (c : UInt8) : Ev (F_strings_CutPrefix · s ⟨#[c]⟩) (if s.toList.head? = some c then (⟨s.toList.tail.toArray⟩, true) else (s, false)) := by
  refine ⟨1, fun n hn => ?_⟩
  obtain ⟨m, rfl, hm⟩ := up1 hn
  show L_strings_CutPrefix s ⟨#[c]⟩ = _
  unfold L_strings_CutPrefix Lib.trimPrefix Lib.hasPrefix
  rw [← Go.Lib.toList_data s]
  have es : (⟨s.toList.toArray⟩ : ByteArray) = s := ba_eq (by rw [← Go.Lib.toList_data s])
  generalize s.toList = l at *
  cases l with
  | nil => simp [es]
  | cons a r =>
    by_cases h : a = c
    · subst h; simp
    · have : ¬ c = a := fun e => h e.symm
      simp [h, this, es, List.isPrefixOf]
def rcK (s : ByteArray) : Nat → Int → Int
  | 0, _ => 0
  | k + 1, i => if (colS i).toList = s.toList then i else rcK s k (i + 1)
/-- the column of some letters; 0: none -/
def rcol (s : ByteArray) : Int := rcK s 52 1
theorem rcK_in (s : ByteArray) : ∀ (k : Nat) (i : Int), 1 ≤ rcK s k i → (colS (rcK s k i)).toList = s.toList
  | 0, i, h => by simp [rcK] at h
  | k + 1, i, h => by
    simp only [rcK] at h ⊢
    by_cases e : (colS i).toList = s.toList
    · rw [if_pos e]; exact e
    · rw [if_neg e] at h ⊢; exact rcK_in s k (i + 1) h
def isUp (c : UInt8) : Bool := decide (65 ≤ c.toNat) && decide (c.toNat ≤ 90)
/-- behind a sign that may stand ahead -/
def offS (l : List UInt8) : List UInt8 := if l.head? = some 36 then l.tail else l
def lettersS (l : List UInt8) : List UInt8 := l.takeWhile isUp
def behindS (l : List UInt8) : List UInt8 := l.dropWhile isUp
def readP (s : ByteArray) : Int × Int × Bool × Bool × Bool :=
  if (l1I (offS (behindS (offS s.toList))) 2).2 = true ∧ okRef (rcol ⟨(lettersS (offS s.toList)).toArray⟩) (l1I (offS (behindS (offS s.toList))) 2).1 = true then
    (rcol ⟨(lettersS (offS s.toList)).toArray⟩, (l1I (offS (behindS (offS s.toList))) 2).1, s.toList.head? == some 36, (behindS (offS s.toList)).head? == some 36, true) else (0, 0, false, false, false)
theorem readC_loop {R : Type} {B : ByteArray × Int → Tr ((ByteArray × Int) ⊕ (Int ⊕ Unit))} {s : ByteArray} (hs : ∀ i : Int, 1 ≤ i ∧ i ≤ 52 → (B (s, i)).run = some (if (colS i).toList = s.toList then .inr (.inl i) else .inl (s, i + 1))) (he : (B (s, 53)).run = some (.inr (.inr ()))) :
    ∀ (k : Nat) (i : Int) (M : Nat), 1 ≤ i → i + k = 53 → k + 1 ≤ M → loopF B M (s, i) = some (if rcK s k i = 0 then .inr () else .inl (rcK s k i))
  | k, i, 0, h1, h2, h3 => by omega
  | 0, i, M + 1, h1, h2, h3 => by
    have : i = 53 := by omega
    subst this
    rw [loopF_inr he]
    rfl
  | k + 1, i, M + 1, h1, h2, h3 => by
    have h := hs i ⟨h1, by omega⟩
    by_cases e : (colS i).toList = s.toList
    · rw [if_pos e] at h
      rw [loopF_inr h]
      simp only [rcK, if_pos e]
      rw [if_neg (by omega)]
    · rw [if_neg e] at h
      rw [loopF_inl h]
      simp only [rcK, if_neg e]
      exact readC_loop (R := R) hs he k (i + 1) M (by omega) (by omega) (by omega)
theorem ev_cols {F : Nat → Int → Option ByteArray} (h : ∀ i, Ev (F · i) (colS i)) : ∃ n0, ∀ n, n0 ≤ n → ∀ i, 1 ≤ i ∧ i ≤ 52 → F n i = some (colS i) := by
  obtain ⟨n0, h1⟩ := ev_list (F := fun (i : Nat) n => F n (i : Int)) (f := fun i => colS (i : Int)) (List.range 53) (fun i _ => h i)
  refine ⟨n0, fun n hn i hi => ?_⟩
  have := h1 n hn i.toNat (by rw [List.mem_range]; omega)
  rwa [Int.toNat_of_nonneg (by omega)] at this
theorem ev_spec_ReadCol (s : ByteArray) : Ev (F_spec_ReadCol · s) (rcol s) := by
  obtain ⟨n0, h⟩ := ev_cols ev_spec_ColText
  refine ⟨n0 + 60, fun n hn => ?_⟩
  obtain ⟨m, rfl, hm⟩ := up1 hn
  have hc := h m (by omega)
  have lp := readC_loop (R := Unit) (B := B_spec_ReadCol_13 m) (s := s) (fun i hi => by
    have g := hc i hi
    have w1 : IntKind.i64.wrap (i + 1) = i + 1 := wrap64 (by omega)
    simp only [B_spec_ReadCol_13, run_done, run_fail, run_ask, run_opt, run_inl, run_inr, Option.bind_some, apart_b, apart_i, apart_s, g, w1]
    rw [if_pos (decide_eq_true hi.2)]
    by_cases e : (colS i).toList = s.toList <;> simp [e]) (by simp [B_spec_ReadCol_13, run_done, run_fail, run_ask, run_opt, run_inl, run_inr, Option.bind_some, apart_b, apart_i, apart_s]) 52 1 m (by decide) (by decide) (by omega)
  simp only [F_spec_ReadCol, T_spec_ReadCol, run_done, run_fail, run_ask, run_opt, run_inl, run_inr, Option.bind_some, apart_b, apart_i, apart_s, lp]
  show _ = some (rcK s 52 1)
  by_cases e : rcK s 52 1 = 0
  · rw [if_pos e, e]; rfl
  · rw [if_neg e]; rfl
theorem ev_impl_ReadCol (s : ByteArray) : Ev (F_impl_ReadCol · s) (rcol s) := by
  obtain ⟨n0, h⟩ := ev_cols ev_impl_ColText
  refine ⟨n0 + 60, fun n hn => ?_⟩
  obtain ⟨m, rfl, hm⟩ := up1 hn
  have hc := h m (by omega)
  have lp := readC_loop (R := Unit) (B := B_impl_ReadCol_13 m) (s := s) (fun i hi => by
    have g := hc i hi
    have w1 : IntKind.i64.wrap (i + 1) = i + 1 := wrap64 (by omega)
    simp only [B_impl_ReadCol_13, run_done, run_fail, run_ask, run_opt, run_inl, run_inr, Option.bind_some, apart_b, apart_i, apart_s, g, w1]
    rw [if_pos (decide_eq_true hi.2)]
    by_cases e : (colS i).toList = s.toList <;> simp [e]) (by simp [B_impl_ReadCol_13, run_done, run_fail, run_ask, run_opt, run_inl, run_inr, Option.bind_some, apart_b, apart_i, apart_s]) 52 1 m (by decide) (by decide) (by omega)
  simp only [F_impl_ReadCol, T_impl_ReadCol, run_done, run_fail, run_ask, run_opt, run_inl, run_inr, Option.bind_some, apart_b, apart_i, apart_s, lp]
  show _ = some (rcK s 52 1)
  by_cases e : rcK s 52 1 = 0
  · rw [if_pos e, e]; rfl
  · rw [if_neg e]; rfl
theorem ba_len (b : ByteArray) : b.size = b.toList.length := (tl_len b).symm
theorem ext_take (b : ByteArray) (k : Nat) : (b.extract 0 k).toList = b.toList.take k := by
  rw [Go.Lib.toList_data, ByteArray.data_extract, Array.toList_extract, Go.Lib.toList_data]
  show (b.data.toList.drop 0).take (k - 0) = _
  simp
theorem ext_drop (b : ByteArray) (k : Nat) : (b.extract k b.size).toList = b.toList.drop k := by
  rw [Go.Lib.toList_data, ByteArray.data_extract, Array.toList_extract, Go.Lib.toList_data]
  have hl : b.data.toList.length = b.size := by rw [← ba_size]
  show (b.data.toList.drop k).take (b.size - k) = _
  rw [List.take_of_length_le (by rw [List.length_drop, hl]; exact Nat.le_refl _)]
theorem take_letters (l : List UInt8) : l.take (lettersS l).length = lettersS l := by
  have h := List.takeWhile_append_dropWhile (p := isUp) (l := l)
  have h2 : (List.takeWhile isUp l ++ List.dropWhile isUp l).take (List.takeWhile isUp l).length = List.takeWhile isUp l := List.take_left ..
  rw [h] at h2
  exact h2
theorem drop_letters (l : List UInt8) : l.drop (lettersS l).length = behindS l := by
  have h := List.takeWhile_append_dropWhile (p := isUp) (l := l)
  have h2 : (List.takeWhile isUp l ++ List.dropWhile isUp l).drop (List.takeWhile isUp l).length = List.dropWhile isUp l := List.drop_left ..
  rw [h] at h2
  exact h2
theorem letters_len (l : List UInt8) : (lettersS l).length ≤ l.length := by
  have h := congrArg List.length (List.takeWhile_append_dropWhile (p := isUp) (l := l))
  rw [List.length_append] at h
  unfold lettersS
  omega
theorem spec_rp_loop (n : Nat) (b : ByteArray) (fc : Bool) (hb : b.size ≤ 1048576) : ∀ (r pre : List UInt8) (M : Nat), b.toList = pre ++ r → r.length + 1 ≤ M →
    loopF (B_spec_ReadPlace_62 n) M (b, (pre.length : Int), 0, 0, false, false, 0, 0, fc, false) = some (b, ((pre.length + (lettersS r).length : Nat) : Int), 0, 0, false, false, 0, 0, fc, false)
  | r, pre, 0, h1, h2 => by omega
  | [], pre, M + 1, h1, h2 => by
    have hi : ¬ (pre.length : Int) < b.size := by rw [ba_len, h1]; simp
    rw [loopF_inr (r := (b, (pre.length : Int), 0, 0, false, false, 0, 0, fc, false)) (by simp [B_spec_ReadPlace_62, run_done, run_fail, run_ask, run_opt, run_inl, run_inr, Option.bind_some, apart_b, apart_i, apart_s, hi])]
    simp [lettersS]
  | c :: r, pre, M + 1, h1, h2 => by
    have hl : b.size = pre.length + (r.length + 1) := by rw [ba_len, h1]; simp
    have hi : (pre.length : Int) < b.size := by omega
    have hg : b.toList[pre.length]? = some c := by rw [h1]; simp
    have w1 : IntKind.i64.wrap ((pre.length : Int) + 1) = (pre.length : Int) + 1 := wrap64 (by omega)
    by_cases hc : isUp c = true
    · have hc' : 65 ≤ c.toNat ∧ c.toNat ≤ 90 := by simpa [isUp] using hc
      have c1 : (c.toNat : Int) ≥ 65 := by omega
      have c2 : (c.toNat : Int) ≤ 90 := by omega
      have e0 : ((pre ++ [c]).length : Int) = (pre.length : Int) + 1 := by simp
      rw [loopF_inl (v' := (b, ((pre ++ [c]).length : Int), 0, 0, false, false, 0, 0, fc, false)) (by
        rw [e0]
        simp [B_spec_ReadPlace_62, run_done, run_fail, run_ask, run_opt, run_inl, run_inr, Option.bind_some, apart_b, apart_i, apart_s, hi, hg, c1, c2, w1])]
      rw [spec_rp_loop n b fc hb r (pre ++ [c]) M (by rw [h1]; simp) (by simp at h2; omega)]
      simp [lettersS, hc]
      omega
    · rw [loopF_inr (r := (b, (pre.length : Int), 0, 0, false, false, 0, 0, fc, false)) (by
        by_cases c1 : (c.toNat : Int) ≥ 65
        · have c2 : ¬ (c.toNat : Int) ≤ 90 := fun h => hc (by simp [isUp]; omega)
          simp [B_spec_ReadPlace_62, run_done, run_fail, run_ask, run_opt, run_inl, run_inr, Option.bind_some, apart_b, apart_i, apart_s, hi, hg, c1, c2]
        · simp [B_spec_ReadPlace_62, run_done, run_fail, run_ask, run_opt, run_inl, run_inr, Option.bind_some, apart_b, apart_i, apart_s, hi, hg, c1])]
      simp [lettersS, hc]
theorem ev_spec_ReadPlace (s : ByteArray) (hb : s.size ≤ 1048576) : Ev (F_spec_ReadPlace · s) (readP s) := by
  -- what is read behind the sign that may stand ahead
  have main : ∀ (b : ByteArray) (fc : Bool), b.size ≤ 1048576 → b.toList = offS s.toList → fc = (s.toList.head? == some 36) →
      ∃ n0, ∀ m, n0 ≤ m → loopF (B_spec_ReadPlace_62 m) m (b, 0, 0, 0, false, false, 0, 0, fc, false) = some (b, ((lettersS (offS s.toList)).length : Int), 0, 0, false, false, 0, 0, fc, false) ∧
        F_spec_ReadCol m (b.extract 0 (lettersS (offS s.toList)).length) = some (rcol ⟨(lettersS (offS s.toList)).toArray⟩) ∧
        F_spec_l1Int m (b.extract (lettersS (offS s.toList)).length b.size) 2 = some (l1I (behindS (offS s.toList)) 2) ∧
        F_spec_l1Int m ((b.extract (lettersS (offS s.toList)).length b.size).extract 1 (b.extract (lettersS (offS s.toList)).length b.size).size) 2 = some (l1I (behindS (offS s.toList)).tail 2) := fun b fc hb hl _ => by
    have x1 : b.extract 0 (lettersS (offS s.toList)).length = ⟨(lettersS (offS s.toList)).toArray⟩ := ba_eqL (by rw [ext_take, hl, take_letters, toList_mk (lettersS (offS s.toList))])
    have x2 : (b.extract (lettersS (offS s.toList)).length b.size).toList = behindS (offS s.toList) := by rw [ext_drop, hl, drop_letters]
    have x3 : ((b.extract (lettersS (offS s.toList)).length b.size).extract 1 (b.extract (lettersS (offS s.toList)).length b.size).size).toList = (behindS (offS s.toList)).tail := by rw [ext_drop, x2, List.drop_one]
    obtain ⟨n1, h1⟩ := ev_spec_ReadCol (b.extract 0 (lettersS (offS s.toList)).length)
    obtain ⟨n2, h2⟩ := ev_spec_l1Int (b.extract (lettersS (offS s.toList)).length b.size) 2 (by decide)
    obtain ⟨n3, h3⟩ := ev_spec_l1Int ((b.extract (lettersS (offS s.toList)).length b.size).extract 1 (b.extract (lettersS (offS s.toList)).length b.size).size) 2 (by decide)
    rw [x1] at h1
    rw [x2] at h2
    rw [x3] at h3
    refine ⟨n1 + n2 + n3 + b.size + 2, fun m hm => ⟨?_, by rw [x1]; exact h1 m (by omega), h2 m (by omega), h3 m (by omega)⟩⟩
    have := spec_rp_loop m b fc hb b.toList [] m rfl (by rw [← ba_len]; omega)
    simp only [List.length_nil, Int.natCast_zero, Nat.zero_add] at this
    rw [this, hl]
  have z : ∀ (b : ByteArray), b.toList = offS s.toList → ((lettersS (offS s.toList)).length : Int) ≤ b.size := fun b hl => by
    have := letters_len (offS s.toList)
    rw [← hl] at this ⊢
    rw [ba_len]
    omega
  have k36 : ∀ c : UInt8, ((c.toNat : Int) == 36) = (some c == some 36) := fun c => by
    have h := beqI c 36 (by decide)
    have u : UInt8.ofNat 36 = 36 := rfl
    rw [u] at h
    exact h
  unfold readP
  -- the sign ahead
  have part : ∀ (b : ByteArray) (fc : Bool), b.size ≤ 1048576 → b.toList = offS s.toList → fc = (s.toList.head? == some 36) →
      ((fc = true ∧ b = s.extract 1 s.size ∧ ∃ c r, s.toList = c :: r ∧ c = 36) ∨ (fc = false ∧ b = s ∧ ∀ c r, s.toList = c :: r → (some c == some (36 : UInt8)) = false)) →
      Ev (F_spec_ReadPlace · s) (if (l1I (offS (behindS (offS s.toList))) 2).2 = true ∧ okRef (rcol ⟨(lettersS (offS s.toList)).toArray⟩) (l1I (offS (behindS (offS s.toList))) 2).1 = true then
        (rcol ⟨(lettersS (offS s.toList)).toArray⟩, (l1I (offS (behindS (offS s.toList))) 2).1, s.toList.head? == some 36, (behindS (offS s.toList)).head? == some 36, true) else (0, 0, false, false, false)) := fun b fc hb2 hl hfc hcase => by
    obtain ⟨n0, hm0⟩ := main b fc hb2 hl hfc
    have hz := z b hl
    obtain ⟨n2, h2⟩ := ev_spec_RefOk (rcol ⟨(lettersS (offS s.toList)).toArray⟩) (l1I (offS (behindS (offS s.toList))) 2).1
    have x2 : (b.extract (lettersS (offS s.toList)).length b.size).toList = behindS (offS s.toList) := by rw [ext_drop, hl, drop_letters]
    rw [← hfc]
    refine ⟨n0 + n2 + 1, fun n hn => ?_⟩
    obtain ⟨m, rfl, hm⟩ := up1 hn
    obtain ⟨g1, g2, g3, g4⟩ := hm0 m (by omega)
    have h2 := h2 m (by omega)
    dsimp only at h2
    have e1 : (1 : Int).toNat = 1 := rfl
    have e0 : (0 : Int).toNat = 0 := rfl
    -- how it begins
    have start : ∀ q, (T_spec_ReadPlace m s).run = q → F_spec_ReadPlace (m + 1) s = q := fun q h => h
    apply start
    rcases hcase with ⟨rfl, rfl, c, r, hcr, rfl⟩ | ⟨rfl, rfl, hno⟩
    · have hsz : (s.size : Int) > 0 := by rw [ba_len, hcr]; simp <;> omega
      have hs1 : (1 : Int) ≤ s.size := by omega
      have hg : s.toList[0]? = some 36 := by rw [hcr]; rfl
      have bs : (s.extract 1 s.size).size = s.size - 1 := by rw [ba_len, ext_drop, List.length_drop, ← ba_len]
      have zn : (lettersS (offS s.toList)).length ≤ s.size - 1 := by rw [← bs]; omega
      have sn : 0 < s.size := by omega
      have c36 : ((((36 : UInt8)).toNat : Int) == 36) = true := rfl
      simp only [T_spec_ReadPlace, run_done, run_fail, run_ask, run_opt, run_inl, run_inr, Option.bind_some, apart_b, apart_i, apart_s, Int.toNat_natCast, e0, e1, hg, c36, g1, g2]
      cases hq : behindS (offS s.toList) with
      | nil =>
        have y0 : ((s.extract 1 s.size).extract (lettersS (offS s.toList)).length (s.extract 1 s.size).size).size = 0 := by rw [ba_len, x2, hq]; rfl
        have hoff : offS (behindS (offS s.toList)) = [] := by rw [hq]; rfl
        rw [hoff] at h2
        rw [hq] at g3
        simp only [y0, g3, h2, run_done, run_fail, run_ask, run_opt, run_inl, run_inr, Option.bind_some, apart_b, apart_i, apart_s]
        have hoff' : offS ([] : List UInt8) = [] := rfl
        rw [hoff']
        generalize l1I ([] : List UInt8) 2 = q at *
        obtain ⟨x, ok⟩ := q
        cases ok <;> cases hk : okRef (rcol ⟨(lettersS (offS s.toList)).toArray⟩) x <;> simp [hz, hsz, hs1, zn, sn]
      | cons d w =>
        have y0 : (((s.extract 1 s.size).extract (lettersS (offS s.toList)).length (s.extract 1 s.size).size).size : Int) > 0 := by rw [ba_len, x2, hq]; simp <;> omega
        have y1 : (1 : Int) ≤ ((s.extract 1 s.size).extract (lettersS (offS s.toList)).length (s.extract 1 s.size).size).size := by omega
        have ys : ((s.extract 1 s.size).extract (lettersS (offS s.toList)).length (s.extract 1 s.size).size).size = (s.extract 1 s.size).size - (lettersS (offS s.toList)).length := by rw [ba_len, ext_drop, List.length_drop, ← ba_len]
        have yn : (lettersS (offS s.toList)).length < (s.size - 1) := by rw [← bs]; omega
        have yn2 : 1 ≤ (s.size - 1) - (lettersS (offS s.toList)).length := by omega
        have yn3 : 0 < (s.size - 1) - (lettersS (offS s.toList)).length := by omega
        have yn4 : (1 : Int) ≤ (((s.size - 1) - (lettersS (offS s.toList)).length : Nat) : Int) := by omega
        have yg : ((s.extract 1 s.size).extract (lettersS (offS s.toList)).length (s.extract 1 s.size).size).toList[0]? = some d := by rw [x2, hq]; rfl
        rw [hq] at g3 g4 h2
        simp only [yg, k36 d, run_done, run_fail, run_ask, run_opt, run_inl, run_inr, Option.bind_some, apart_b, apart_i, apart_s]
        by_cases hd : d = 36
        · have hoff : offS (d :: w) = w := by unfold offS; rw [if_pos (by rw [hd]; rfl)]; rfl
          rw [hoff] at h2 ⊢
          have e36 : (some d == some (36 : UInt8)) = true := by rw [hd]; rfl
          simp only [List.tail_cons] at g4
          simp only [e36, g4, h2, List.head?_cons, run_done, run_fail, run_ask, run_opt, run_inl, run_inr, Option.bind_some, apart_b, apart_i, apart_s]
          generalize l1I w 2 = q at *
          obtain ⟨x, ok⟩ := q
          cases ok <;> cases hk : okRef (rcol ⟨(lettersS (offS s.toList)).toArray⟩) x <;> simp [hz, hsz, hs1, y0, y1, zn, sn, yn, yn2, yn3, yn4]
        · have hoff : offS (d :: w) = d :: w := by unfold offS; rw [if_neg (by simpa using hd)]
          rw [hoff] at h2 ⊢
          have e36 : (some d == some (36 : UInt8)) = false := by simpa using hd
          simp only [e36, g3, h2, List.head?_cons, run_done, run_fail, run_ask, run_opt, run_inl, run_inr, Option.bind_some, apart_b, apart_i, apart_s]
          generalize l1I (d :: w) 2 = q at *
          obtain ⟨x, ok⟩ := q
          cases ok <;> cases hk : okRef (rcol ⟨(lettersS (offS s.toList)).toArray⟩) x <;> simp [hz, hsz, hs1, y0, y1, zn, sn, yn, yn2, yn3, yn4]
    · by_cases hs0 : (b.size : Int) > 0
      · obtain ⟨c, r, hcr⟩ : ∃ c r, b.toList = c :: r := by
          cases hq : b.toList with
          | nil => rw [ba_len, hq] at hs0; simp at hs0
          | cons a l => exact ⟨a, l, rfl⟩
        have hg : b.toList[0]? = some c := by rw [hcr]; rfl
        have hc := hno c r hcr
        have hsz : (b.size : Int) > 0 := hs0
        have hs1 : (1 : Int) ≤ b.size := by omega
        have zn : (lettersS (offS b.toList)).length ≤ b.size := by omega
        have sn : 0 < b.size := by omega
        simp only [T_spec_ReadPlace, run_done, run_fail, run_ask, run_opt, run_inl, run_inr, Option.bind_some, apart_b, apart_i, apart_s, Int.toNat_natCast, e0, e1, hg, k36 c, hc, g1, g2]
        cases hq : behindS (offS b.toList) with
        | nil =>
          have y0 : (b.extract (lettersS (offS b.toList)).length b.size).size = 0 := by rw [ba_len, x2, hq]; rfl
          have hoff : offS (behindS (offS b.toList)) = [] := by rw [hq]; rfl
          rw [hoff] at h2
          rw [hq] at g3
          simp only [y0, g3, h2, run_done, run_fail, run_ask, run_opt, run_inl, run_inr, Option.bind_some, apart_b, apart_i, apart_s]
          have hoff' : offS ([] : List UInt8) = [] := rfl
          rw [hoff']
          generalize l1I ([] : List UInt8) 2 = q at *
          obtain ⟨x, ok⟩ := q
          cases ok <;> cases hk : okRef (rcol ⟨(lettersS (offS b.toList)).toArray⟩) x <;> simp [hz, hsz, hs1, zn, sn]
        | cons d w =>
          have y0 : ((b.extract (lettersS (offS b.toList)).length b.size).size : Int) > 0 := by rw [ba_len, x2, hq]; simp <;> omega
          have y1 : (1 : Int) ≤ (b.extract (lettersS (offS b.toList)).length b.size).size := by omega
          have ys : (b.extract (lettersS (offS b.toList)).length b.size).size = b.size - (lettersS (offS b.toList)).length := by rw [ba_len, ext_drop, List.length_drop, ← ba_len]
          have yn : (lettersS (offS b.toList)).length < b.size := by omega
          have yn2 : 1 ≤ b.size - (lettersS (offS b.toList)).length := by omega
          have yn3 : 0 < b.size - (lettersS (offS b.toList)).length := by omega
          have yn4 : (1 : Int) ≤ ((b.size - (lettersS (offS b.toList)).length : Nat) : Int) := by omega
          have yg : (b.extract (lettersS (offS b.toList)).length b.size).toList[0]? = some d := by rw [x2, hq]; rfl
          rw [hq] at g3 g4 h2
          simp only [yg, k36 d, run_done, run_fail, run_ask, run_opt, run_inl, run_inr, Option.bind_some, apart_b, apart_i, apart_s]
          by_cases hd : d = 36
          · have hoff : offS (d :: w) = w := by unfold offS; rw [if_pos (by rw [hd]; rfl)]; rfl
            rw [hoff] at h2 ⊢
            have e36 : (some d == some (36 : UInt8)) = true := by rw [hd]; rfl
            simp only [List.tail_cons] at g4
            simp only [e36, g4, h2, List.head?_cons, run_done, run_fail, run_ask, run_opt, run_inl, run_inr, Option.bind_some, apart_b, apart_i, apart_s]
            generalize l1I w 2 = q at *
            obtain ⟨x, ok⟩ := q
            cases ok <;> cases hk : okRef (rcol ⟨(lettersS (offS b.toList)).toArray⟩) x <;> simp [hz, hsz, hs1, y0, y1, zn, sn, yn, yn2, yn3, yn4]
          · have hoff : offS (d :: w) = d :: w := by unfold offS; rw [if_neg (by simpa using hd)]
            rw [hoff] at h2 ⊢
            have e36 : (some d == some (36 : UInt8)) = false := by simpa using hd
            simp only [e36, g3, h2, List.head?_cons, run_done, run_fail, run_ask, run_opt, run_inl, run_inr, Option.bind_some, apart_b, apart_i, apart_s]
            generalize l1I (d :: w) 2 = q at *
            obtain ⟨x, ok⟩ := q
            cases ok <;> cases hk : okRef (rcol ⟨(lettersS (offS b.toList)).toArray⟩) x <;> simp [hz, hsz, hs1, y0, y1, zn, sn, yn, yn2, yn3, yn4]
      · have hsz : ¬ (b.size : Int) > 0 := hs0
        have hs1 : True := trivial
        have zn : (lettersS (offS b.toList)).length ≤ b.size := by omega
        have sn : b.size = 0 := by omega
        have lb : b.toList = [] := List.eq_nil_of_length_eq_zero (by rw [← ba_len]; omega)
        have hb0 : behindS (offS b.toList) = [] := by rw [lb]; rfl
        have ln : lettersS (offS b.toList) = [] := by rw [lb]; rfl
        simp only [T_spec_ReadPlace, run_done, run_fail, run_ask, run_opt, run_inl, run_inr, Option.bind_some, apart_b, apart_i, apart_s, Int.toNat_natCast, e0, e1, g1, g2]
        cases hq : behindS (offS b.toList) with
        | nil =>
          have y0 : (b.extract (lettersS (offS b.toList)).length b.size).size = 0 := by rw [ba_len, x2, hq]; rfl
          have hoff : offS (behindS (offS b.toList)) = [] := by rw [hq]; rfl
          rw [hoff] at h2
          rw [hq] at g3
          simp only [y0, g3, h2, run_done, run_fail, run_ask, run_opt, run_inl, run_inr, Option.bind_some, apart_b, apart_i, apart_s]
          have hoff' : offS ([] : List UInt8) = [] := rfl
          rw [hoff']
          generalize l1I ([] : List UInt8) 2 = q at *
          obtain ⟨x, ok⟩ := q
          cases ok <;> cases hk : okRef (rcol ⟨(lettersS (offS b.toList)).toArray⟩) x <;> simp [hz, hsz, hs1, zn, sn, ln]
        | cons d w => rw [hb0] at hq; cases hq
  by_cases h36 : s.toList.head? = some 36
  · have ho : offS s.toList = s.toList.tail := by unfold offS; rw [if_pos h36]
    have ht : (s.extract 1 s.size).toList = s.toList.tail := by rw [ext_drop, List.drop_one]
    obtain ⟨c, r, hcr⟩ : ∃ c r, s.toList = c :: r := by
      cases hq : s.toList with
      | nil => rw [hq] at h36; cases h36
      | cons a l => exact ⟨a, l, rfl⟩
    refine part (s.extract 1 s.size) true (by rw [ba_len, ht, List.length_tail, ← ba_len]; omega) (by rw [ht, ho]) (by rw [h36]; rfl) (.inl ⟨rfl, rfl, c, r, hcr, ?_⟩)
    rw [hcr] at h36
    simpa using h36
  · have ho : offS s.toList = s.toList := by unfold offS; rw [if_neg h36]
    refine part s false hb ho.symm (by symm; simpa using h36) (.inr ⟨rfl, rfl, fun c r hcr => ?_⟩)
    rw [hcr] at h36
    simpa using h36
def upS : ByteArray := ⟨#[65, 66, 67, 68, 69, 70, 71, 72, 73, 74, 75, 76, 77, 78, 79, 80, 81, 82, 83, 84, 85, 86, 87, 88, 89, 90]⟩
theorem up_fin : ∀ i : Fin 256, (upS.data.toList.contains (UInt8.ofNat i.val)) = (decide (65 ≤ i.val) && decide (i.val ≤ 90)) := by decide +kernel
theorem up_is (c : UInt8) : (upS.data.toList.contains c) = isUp c := by
  have h := up_fin ⟨c.toNat, UInt8.toNat_lt c⟩
  have e : UInt8.ofNat c.toNat = c := by simp
  simp only [e] at h
  exact h
theorem up_ascii : (upS.data.toList.all fun b => decide (b.toNat < 128)) = true := by decide +kernel
theorem ev_TrimLeft (s : ByteArray) : Ev (F_strings_TrimLeft · s ⟨#[65, 66, 67, 68, 69, 70, 71, 72, 73, 74, 75, 76, 77, 78, 79, 80, 81, 82, 83, 84, 85, 86, 87, 88, 89, 90]⟩) ⟨(behindS s.toList).toArray⟩ := by
  refine ⟨1, fun n hn => ?_⟩
  obtain ⟨m, rfl, hm⟩ := up1 hn
  show L_strings_TrimLeft s upS = _
  unfold L_strings_TrimLeft
  rw [if_pos ⟨by decide, up_ascii⟩]
  unfold Lib.trimLeftS behindS
  rw [Go.Lib.toList_data]
  have : (fun c => upS.data.toList.contains c) = isUp := funext up_is
  rw [this]
theorem off_tail (l : List UInt8) : (if l.head? = some 36 then l.tail else l) = offS l := rfl
theorem ev_cut36 (s : ByteArray) : Ev (F_strings_CutPrefix · s ⟨#[36]⟩) (⟨(offS s.toList).toArray⟩, s.toList.head? == some 36) := by
  have h := ev_CutPrefix s 36
  have es : (⟨s.toList.toArray⟩ : ByteArray) = s := ba_eqL (toList_mk s.toList)
  by_cases e : s.toList.head? = some 36
  · rw [if_pos e] at h
    have : (s.toList.head? == some 36) = true := by simpa using e
    unfold offS
    rw [if_pos e, this]
    exact h
  · rw [if_neg e] at h
    have : (s.toList.head? == some 36) = false := by simpa using e
    unfold offS
    rw [if_neg e, this, es]
    exact h
theorem itoa_99 {r : Int} (h : 1 ≤ r ∧ r ≤ 99) : l1I (Lib.itoa r) 2 = (r, true) := by
  have e : Lib.itoa r = Lib.decDigits r.toNat := by unfold Lib.itoa; rw [if_neg (by omega)]
  obtain ⟨h1, h2, h3, _, _⟩ := dec_props r.toNat
  have hl : (Lib.decDigits r.toNat).length ≤ 2 := by
    rw [Lib.decDigits_length]
    exact nd_le 2 r.toNat (by omega) (by have : (10 : Nat) ^ 2 = 100 := by decide
                                         omega)
  rw [e]
  unfold l1I
  rw [if_pos ⟨by omega, dec_canon _⟩, h2]
  congr 1
  omega
theorem l1I_2 {l : List UInt8} (h : (l1I l 2).2 = true) : (l1I l 2).1 = (dvalN 0 l : Int) ∧ Lib.decDigits (dvalN 0 l) = l := by
  unfold l1I at h ⊢
  split at h
  · rename_i hc
    rw [if_pos hc]
    exact ⟨rfl, canon_dec _ l rfl hc.2⟩
  · cases h
/-- what is read is the text's own place -/
theorem readP_eq (s : ByteArray) : readP s = if okRef (rcol ⟨(lettersS (offS s.toList)).toArray⟩) (parseN ⟨(offS (behindS (offS s.toList))).toArray⟩) = true ∧
    (placeS (rcol ⟨(lettersS (offS s.toList)).toArray⟩) (parseN ⟨(offS (behindS (offS s.toList))).toArray⟩) (s.toList.head? == some 36) ((behindS (offS s.toList)).head? == some 36)).toList = s.toList then
      (rcol ⟨(lettersS (offS s.toList)).toArray⟩, parseN ⟨(offS (behindS (offS s.toList))).toArray⟩, s.toList.head? == some 36, (behindS (offS s.toList)).head? == some 36, true) else (0, 0, false, false, false) := by
  have hoff : ∀ l : List UInt8, l = (if (l.head? == some 36) = true then [36] else []) ++ offS l := fun l => by
    unfold offS
    cases l with
    | nil => rfl
    | cons c r =>
      by_cases e : c = 36
      · subst e; simp
      · simp [e]
  have hsplit : offS s.toList = lettersS (offS s.toList) ++ behindS (offS s.toList) := (List.takeWhile_append_dropWhile (p := isUp) (l := offS s.toList)).symm
  have hs : s.toList = (if (s.toList.head? == some 36) = true then [36] else []) ++ lettersS (offS s.toList) ++ (if ((behindS (offS s.toList)).head? == some 36) = true then [36] else []) ++ offS (behindS (offS s.toList)) := by
    conv => lhs; rw [hoff s.toList, hsplit, hoff (behindS (offS s.toList))]
    simp only [List.append_assoc]
  unfold readP
  generalize hL : lettersS (offS s.toList) = L at *
  generalize hR : offS (behindS (offS s.toList)) = R at *
  generalize (s.toList.head? == some 36) = fc at *
  generalize ((behindS (offS s.toList)).head? == some 36) = fr at *
  have col : ∀ r, okRef (rcol ⟨L.toArray⟩) r = true → (colS (rcol ⟨L.toArray⟩)).data.toList = L := fun r h => by
    have := rcK_in (⟨L.toArray⟩ : ByteArray) 52 1 (okRef_in h).1.1
    rw [toList_mk L, Go.Lib.toList_data] at this
    exact this
  have pl : ∀ r, okRef (rcol ⟨L.toArray⟩) r = true → (placeS (rcol ⟨L.toArray⟩) r fc fr).toList = (if fc = true then [36] else []) ++ L ++ (if fr = true then [36] else []) ++ Lib.itoa r := fun r h => by
    rw [Go.Lib.toList_data]
    unfold placeS
    rw [if_pos h, col r h]
    simp [decS]
  have tR : (⟨R.toArray⟩ : ByteArray).toList = R := toList_mk R
  by_cases hA : (l1I R 2).2 = true ∧ okRef (rcol ⟨L.toArray⟩) (l1I R 2).1 = true
  · obtain ⟨a1, a2⟩ := l1I_2 hA.1
    have hr := (okRef_in hA.2).2
    have hi : R = Lib.itoa (l1I R 2).1 := by
      rw [a1]
      unfold Lib.itoa
      rw [if_neg (by omega), Int.toNat_natCast, a2]
    have hp : parseN ⟨R.toArray⟩ = (l1I R 2).1 := parseN_itoa (by rw [tR]; exact hi) (by omega)
    rw [if_pos hA, hp, if_pos ⟨hA.2, by rw [pl _ hA.2, ← hi]; exact hs.symm⟩]
  · rw [if_neg hA, if_neg]
    rintro ⟨h1, h2⟩
    rw [pl _ h1] at h2
    have h3 : R = Lib.itoa (parseN ⟨R.toArray⟩) := by
      rw [hs] at h2
      exact (List.append_cancel_left h2).symm
    have h4 := itoa_99 (okRef_in h1).2
    rw [← h3] at h4
    exact hA (by rw [h4]; exact ⟨rfl, h1⟩)
theorem ev_impl_ReadPlace (s : ByteArray) (hb : s.size ≤ 1048576) : Ev (F_impl_ReadPlace · s) (readP s) := by
  rw [readP_eq]
  have hlen := letters_len (offS s.toList)
  have lo : (offS s.toList).length ≤ s.size := by
    unfold offS
    rw [ba_len]
    split
    · rw [List.length_tail]; omega
    · exact Nat.le_refl _
  have l2 : (behindS (offS s.toList)).length + (lettersS (offS s.toList)).length = (offS s.toList).length := by
    have h := congrArg List.length (List.takeWhile_append_dropWhile (p := isUp) (l := offS s.toList))
    rw [List.length_append] at h
    unfold behindS lettersS
    omega
  have z1 : (⟨(offS s.toList).toArray⟩ : ByteArray).size = (offS s.toList).length := by rw [ba_len, toList_mk (offS s.toList)]
  have z2 : (⟨(behindS (offS s.toList)).toArray⟩ : ByteArray).size = (behindS (offS s.toList)).length := by rw [ba_len, toList_mk (behindS (offS s.toList))]
  have w1 : IntKind.i64.wrap (((offS s.toList).length : Int) - (behindS (offS s.toList)).length) = ((lettersS (offS s.toList)).length : Int) := by rw [wrap64 (by omega)]; omega
  have x1 : (⟨(offS s.toList).toArray⟩ : ByteArray).extract 0 (lettersS (offS s.toList)).length = ⟨(lettersS (offS s.toList)).toArray⟩ := ba_eqL (by rw [ext_take, toList_mk (offS s.toList), take_letters, toList_mk (lettersS (offS s.toList))])
  have x2 : (⟨(offS s.toList).toArray⟩ : ByteArray).extract (lettersS (offS s.toList)).length (offS s.toList).length = ⟨(behindS (offS s.toList)).toArray⟩ := ba_eqL (by rw [← z1, ext_drop, toList_mk (offS s.toList), drop_letters, toList_mk (behindS (offS s.toList))])
  have lr : (⟨(offS (behindS (offS s.toList))).toArray⟩ : ByteArray).size ≤ 281474976710656 := by
    rw [ba_len, toList_mk (offS (behindS (offS s.toList)))]
    have : (offS (behindS (offS s.toList))).length ≤ (behindS (offS s.toList)).length := by
      generalize behindS (offS s.toList) = q
      unfold offS
      split
      · rw [List.length_tail]; omega
      · exact Nat.le_refl _
    omega
  obtain ⟨n1, h1⟩ := ev_cut36 s
  obtain ⟨n2, h2⟩ := ev_TrimLeft ⟨(offS s.toList).toArray⟩
  rw [toList_mk (offS s.toList)] at h2
  obtain ⟨n3, h3⟩ := ev_impl_ReadCol ⟨(lettersS (offS s.toList)).toArray⟩
  obtain ⟨n4, h4⟩ := ev_cut36 ⟨(behindS (offS s.toList)).toArray⟩
  rw [toList_mk (behindS (offS s.toList))] at h4
  generalize offS s.toList = A at *
  generalize behindS A = Bq at *
  generalize lettersS A = L at *
  generalize offS Bq = R at *
  generalize (s.toList.head? == some 36) = fc at *
  generalize (Bq.head? == some 36) = fr at *
  obtain ⟨n5, h5⟩ := ev_impl_RefOk (rcol ⟨L.toArray⟩) (parseN ⟨R.toArray⟩)
  obtain ⟨n6, h6⟩ := ev_impl_PlaceText (rcol ⟨L.toArray⟩) (parseN ⟨R.toArray⟩) fc fr
  have e0 : (0 : Int).toNat = 0 := rfl
  have c1 : L.length ≤ A.length := by omega
  rcases ev_ParseInt ⟨R.toArray⟩ lr with ⟨n7, h7⟩ | ⟨n7, h7⟩
  all_goals
    refine ⟨n1 + n2 + n3 + n4 + n5 + n6 + n7 + 1, fun n hn => ?_⟩
    obtain ⟨m, rfl, hm⟩ := up1 hn
    have h1 := h1 m (by omega)
    have h2 := h2 m (by omega)
    have h3 := h3 m (by omega)
    have h4 := h4 m (by omega)
    have h5 := h5 m (by omega)
    have h6 := h6 m (by omega)
    have h7 := h7 m (by omega)
    dsimp only at h1 h2 h3 h4 h5 h6 h7
    simp only [F_impl_ReadPlace, T_impl_ReadPlace, run_done, run_fail, run_ask, run_opt, run_inl, run_inr, Option.bind_some, apart_b, apart_i, apart_s, h1, h2, z1, z2, w1, Int.toNat_natCast, e0, x1, x2, h3, h4, h5, h6, h7]
    cases hk : okRef (rcol ⟨L.toArray⟩) (parseN ⟨R.toArray⟩) with
    | false => simp [c1]
    | true => by_cases e : (placeS (rcol ⟨L.toArray⟩) (parseN ⟨R.toArray⟩) fc fr).toList = s.toList <;> simp [c1, e]
theorem ev_laws_eqPlace (c r : Int) (fc fr : Bool) : Ev (F_laws_eqPlace · c r fc fr c r fc fr) true := by
  obtain ⟨n1, h1⟩ := ev_laws_eqRef c r c r
  refine ⟨n1 + 1, fun n hn => ?_⟩
  obtain ⟨m, rfl, hm⟩ := up1 hn
  have h1 := h1 m (by omega)
  dsimp only at h1
  simp only [F_laws_eqPlace, T_laws_eqPlace, run_done, run_fail, run_ask, run_opt, run_inl, run_inr, Option.bind_some, apart_b, apart_i, apart_s, h1]
  simp
theorem law (s : ByteArray) (hb : s.size ≤ 140737488351232) : Ev (F_laws_FnExactReadPlace · s) true := by
  by_cases h : (s.size : Int) > 1048576
  · refine ⟨1, fun n hn => ?_⟩
    obtain ⟨m, rfl, hm⟩ := up1 hn
    simp only [F_laws_FnExactReadPlace, T_laws_FnExactReadPlace, run_done, run_fail, run_ask, run_opt, run_inl, run_inr, Option.bind_some, apart_b, apart_i, apart_s]
    simp [h]
  · obtain ⟨n1, h1⟩ := ev_spec_ReadPlace s (by omega)
    obtain ⟨n2, h2⟩ := ev_impl_ReadPlace s (by omega)
    obtain ⟨n3, h3⟩ := ev_laws_eqPlace (readP s).1 (readP s).2.1 (readP s).2.2.1 (readP s).2.2.2.1
    refine ⟨n1 + n2 + n3 + 1, fun n hn => ?_⟩
    obtain ⟨m, rfl, hm⟩ := up1 hn
    have h1 := h1 m (by omega)
    dsimp only at h1
    have h2 := h2 m (by omega)
    dsimp only at h2
    have h3 := h3 m (by omega)
    dsimp only at h3
    simp only [F_laws_FnExactReadPlace, T_laws_FnExactReadPlace, run_done, run_fail, run_ask, run_opt, run_inl, run_inr, Option.bind_some, apart_b, apart_i, apart_s, h1, h2, h3]
    simp [h]
end Go.Proofs.YtaannlnlddbgdabDoor.KFnExactReadPlace
