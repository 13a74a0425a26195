/-
  What the functions that FnPlaces calls answer, said of their trees. No condition beside those that stand in the statements.
-/
import Derived.Test.YtaannlnlddbgdabDoorTFnPlaces
import Derived.Test.YtaannlnlddbgdabDoorE32
import Derived.Lib.Strings
namespace Go.Proofs.YtaannlnlddbgdabDoor.KFnPlaces
open Go.Eng
set_option linter.unusedVariables false
set_option linter.unusedSimpArgs false
def Ev {R : Type} (F : Nat → Option R) (r : R) : Prop := ∃ n0, ∀ n, n0 ≤ n → F n = some r
theorem tl_len (s : ByteArray) : s.toList.length = s.size := by rw [Go.Lib.toList_data]; rfl
theorem toList_nil : (ByteArray.mk #[]).toList = [] := by decide +kernel
theorem wf64 {x : Int} (h : (Lit.int .i64 x).wf = true) : -9223372036854775808 ≤ x ∧ x ≤ 9223372036854775807 := by
  simp only [Lit.wf, Bool.and_eq_true, decide_eq_true_eq] at h
  have h1 : IntKind.i64.min = -9223372036854775808 := by decide
  have h2 : IntKind.i64.max = 9223372036854775807 := by decide
  omega
theorem wrap64 {x : Int} (h : -9223372036854775808 ≤ x ∧ x ≤ 9223372036854775807) : IntKind.i64.wrap x = x := by
  unfold IntKind.wrap
  have e1 : (2 : Int) ^ (64 - 1) = 9223372036854775808 := by decide
  have e2 : (2 : Int) ^ 64 = 18446744073709551616 := by decide
  simp only [IntKind.signed, IntKind.bits, Bool.true_and, decide_eq_true_eq, e1, e2]
  split <;> omega
theorem wrap64_in (x : Int) : -9223372036854775808 ≤ IntKind.i64.wrap x ∧ IntKind.i64.wrap x ≤ 9223372036854775807 := by
  unfold IntKind.wrap
  have e1 : (2 : Int) ^ (64 - 1) = 9223372036854775808 := by decide
  have e2 : (2 : Int) ^ 64 = 18446744073709551616 := by decide
  simp only [IntKind.signed, IntKind.bits, Bool.true_and, decide_eq_true_eq, e1, e2]
  split <;> omega
theorem get_of_lt {s : ByteArray} {i : Nat} (h : i < s.size) : ∃ c, s.toList[i]? = some c := ⟨_, List.getElem?_eq_getElem (by rw [tl_len]; exact h)⟩
theorem drop_cons {α : Type} {s : List α} {i : Nat} {c : α} (h : s[i]? = some c) : s.drop i = c :: s.drop (i + 1) := by
  obtain ⟨h1, rfl⟩ := List.getElem?_eq_some_iff.1 h
  exact List.drop_eq_getElem_cons h1
theorem loopF_inl {V R : Type} {B : V → Tr (V ⊕ R)} {m : Nat} {v v' : V} (h : (B v).run = some (.inl v')) : loopF B (m + 1) v = loopF B m v' := by simp only [loopF, h]
theorem loopF_inr {V R : Type} {B : V → Tr (V ⊕ R)} {m : Nat} {v : V} {r : R} (h : (B v).run = some (.inr r)) : loopF B (m + 1) v = some r := by simp only [loopF, h]
theorem up1 {n n0 : Nat} (h : n0 + 1 ≤ n) : ∃ m, n = m + 1 ∧ n0 ≤ m := ⟨n - 1, by omega, by omega⟩
theorem run_done {α : Type} (x : α) : (Tr.done x).run = some x := rfl
theorem run_fail {α : Type} : (Tr.fail : Tr α).run = none := rfl
theorem run_ask {α : Type} (b : Bool) (t f : Tr α) : (Tr.ask b t f).run = if b = true then t.run else f.run := by cases b <;> rfl
theorem run_opt {α β : Type} (o : Option β) (k : β → Tr α) : (Tr.opt o k).run = o.bind fun x => (k x).run := by cases o <;> rfl
theorem run_inl {α β γ : Type} (x : β) (k : β → Tr α) (l : γ → Tr α) : (Tr.alt (.inl x) k l).run = (k x).run := rfl
theorem run_inr {α β γ : Type} (x : γ) (k : β → Tr α) (l : γ → Tr α) : (Tr.alt (.inr x) k l).run = (l x).run := rfl
theorem ev_list {α R : Type} {F : α → Nat → Option R} {f : α → R} : ∀ (l : List α), (∀ c ∈ l, Ev (F c) (f c)) → ∃ n0, ∀ n, n0 ≤ n → ∀ c ∈ l, F c n = some (f c)
  | [], _ => ⟨0, fun n _ c hc => by cases hc⟩
  | a :: l, h => by
    obtain ⟨n1, h1⟩ := h a (List.mem_cons_self ..)
    obtain ⟨n2, h2⟩ := ev_list l fun c hc => h c (List.mem_cons_of_mem _ hc)
    exact ⟨n1 + n2, fun n hn c hc => by
      rcases List.mem_cons.1 hc with rfl | hc
      · exact h1 n (by omega)
      · exact h2 n (by omega) c hc⟩
/-- a list that is written anew, place by place -/
theorem conv_loop {R : Type} {B : List (List PV) × Nat × Int × List (List PV) → Tr ((List (List PV) × Nat × Int × List (List PV)) ⊕ R)} {rows : List (List PV)} {z : List PV} {r : List (List PV) → R}
    (hs : ∀ (i : Nat) (acc : List (List PV)) (e : List PV), rows[i]? = some e → acc.length = rows.length → acc[i]? = some z → (B (rows, rows.length, (i : Int), acc)).run = some (.inl (rows, rows.length, ((i + 1 : Nat) : Int), acc.set i e)))
    (he : ∀ acc : List (List PV), acc.length = rows.length → (B (rows, rows.length, (rows.length : Int), acc)).run = some (.inr (r acc))) :
    ∀ (m i M : Nat), rows.length = i + m → m + 1 ≤ M → loopF B M (rows, rows.length, (i : Int), rows.take i ++ zrows z m) = some (r rows)
  | m, i, 0, h1, h2 => by omega
  | 0, i, M + 1, h1, h2 => by
    have hi : i = rows.length := by omega
    subst hi
    have e : rows.take rows.length ++ zrows z 0 = rows := by simp [zrows]
    rw [e, loopF_inr (he rows rfl)]
  | m + 1, i, M + 1, h1, h2 => by
    have hl : i < rows.length := by omega
    have hg := List.getElem?_eq_getElem hl
    have hlen : (rows.take i ++ zrows z (m + 1)).length = rows.length := by simp [zrows]; omega
    have hz : (rows.take i ++ zrows z (m + 1))[i]? = some z := by
      rw [List.getElem?_append_right (by simp; omega)]
      simp [zrows, Nat.min_eq_left (Nat.le_of_lt hl)]
    rw [loopF_inl (hs i _ _ hg hlen hz)]
    have e : (rows.take i ++ zrows z (m + 1)).set i rows[i] = rows.take (i + 1) ++ zrows z m := by
      have hx : zrows z (m + 1) = z :: zrows z m := by simp [zrows, List.replicate_succ]
      rw [hx, List.set_append_right (h := by simp; omega)]
      have : i - (rows.take i).length = 0 := by simp; omega
      rw [this, List.set_cons_zero, show rows.take (i + 1) = rows.take i ++ [rows[i]] from by rw [List.take_add_one, hg]; rfl, List.append_assoc]
      rfl
    rw [e]
    exact conv_loop hs he m (i + 1) M (by omega) (by omega)
theorem conv_all {R : Type} {B : List (List PV) × Nat × Int × List (List PV) → Tr ((List (List PV) × Nat × Int × List (List PV)) ⊕ R)} {rows : List (List PV)} {z : List PV} {r : List (List PV) → R} {M : Nat}
    (hs : ∀ (i : Nat) (acc : List (List PV)) (e : List PV), rows[i]? = some e → acc.length = rows.length → acc[i]? = some z → (B (rows, rows.length, (i : Int), acc)).run = some (.inl (rows, rows.length, ((i + 1 : Nat) : Int), acc.set i e)))
    (he : ∀ acc : List (List PV), acc.length = rows.length → (B (rows, rows.length, (rows.length : Int), acc)).run = some (.inr (r acc))) (hM : rows.length + 1 ≤ M) :
    loopF B M (rows, rows.length, 0, zrows z rows.length) = some (r rows) := by
  have := conv_loop (B := B) hs he rows.length 0 M (by omega) hM
  simpa using this
/-- a list held against itself -/
theorem eq_loop {R : Type} {B : List (List PV) × List (List PV) × Int → Tr ((List (List PV) × List (List PV) × Int) ⊕ R)} {rows : List (List PV)} {r : R}
    (hs : ∀ (i : Nat) (e : List PV), rows[i]? = some e → (B (rows, rows, (i : Int))).run = some (.inl (rows, rows, ((i + 1 : Nat) : Int)))) (he : (B (rows, rows, (rows.length : Int))).run = some (.inr r)) :
    ∀ (m i M : Nat), rows.length = i + m → m + 1 ≤ M → loopF B M (rows, rows, (i : Int)) = some r
  | m, i, 0, h1, h2 => by omega
  | 0, i, M + 1, h1, h2 => by
    have hi : i = rows.length := by omega
    subst hi
    rw [loopF_inr he]
  | m + 1, i, M + 1, h1, h2 => by
    have hg := List.getElem?_eq_getElem (l := rows) (i := i) (by omega)
    rw [loopF_inl (hs i _ hg)]
    exact eq_loop hs he m (i + 1) M (by omega) (by omega)
/-- a list's size, as far as it is not too great -/
theorem sz_loop {R : Type} {B : List (List PV) × Int × Int → Tr ((List (List PV) × Int × Int) ⊕ R)} {rows : List (List PV)}
    (hs : ∀ (i : Nat) (e : List PV) (x : Int), rows[i]? = some e → (∃ y, (B (rows, x, (i : Int))).run = some (.inl (rows, y, ((i + 1 : Nat) : Int)))) ∨ ∃ r, (B (rows, x, (i : Int))).run = some (.inr r)) (he : ∀ x, ∃ r, (B (rows, x, (rows.length : Int))).run = some (.inr r)) :
    ∀ (m i M : Nat) (x : Int), rows.length = i + m → m + 1 ≤ M → ∃ r, loopF B M (rows, x, (i : Int)) = some r
  | m, i, 0, x, h1, h2 => by omega
  | 0, i, M + 1, x, h1, h2 => by
    have hi : i = rows.length := by omega
    subst hi
    obtain ⟨r, hr⟩ := he x
    exact ⟨r, loopF_inr hr⟩
  | m + 1, i, M + 1, x, h1, h2 => by
    have hg := List.getElem?_eq_getElem (l := rows) (i := i) (by omega)
    rcases hs i _ x hg with ⟨y, hy⟩ | ⟨r, hr⟩
    · rw [loopF_inl hy]
      exact sz_loop hs he m (i + 1) M y (by omega) (by omega)
    · exact ⟨r, loopF_inr hr⟩
/-- rows of a shape, as a list of what stands in them -/
theorem rows_map {α : Type} {enc : α → List PV} {P : α → Prop} {sh : List Sh} (hd : ∀ e, okR sh e → ∃ a, e = enc a ∧ P a) : ∀ {rows : List (List PV)}, (∀ e ∈ rows, okR sh e) → ∃ l : List α, rows = l.map enc ∧ ∀ a ∈ l, P a
  | [], _ => ⟨[], rfl, fun a h => by cases h⟩
  | e :: rows, h => by
    obtain ⟨a, rfl, ha⟩ := hd e (h e (List.mem_cons_self ..))
    obtain ⟨l, rfl, hl⟩ := rows_map hd fun e he => h e (List.mem_cons_of_mem _ he)
    exact ⟨a :: l, rfl, fun b hb => by
      rcases List.mem_cons.1 hb with rfl | hb
      · exact ha
      · exact hl b hb⟩
theorem opt_eq {α β : Type} {o : Option β} {x : β} {k : β → Tr α} {y : Option α} (h : o = some x) (h2 : (k x).run = y) : (Tr.opt o k).run = y := by rw [h]; exact h2
theorem ask_t {α : Type} {b : Bool} {t f : Tr α} {y : Option α} (h : b = true) (h2 : t.run = y) : (Tr.ask b t f).run = y := by rw [h]; exact h2
theorem ask_f {α : Type} {b : Bool} {t f : Tr α} {y : Option α} (h : b = false) (h2 : f.run = y) : (Tr.ask b t f).run = y := by rw [h]; exact h2
theorem apart_b (b : Bool) : apartR (⟨(.c (.p (.b b))), [], []⟩ : Res) = true := rfl
theorem apart_i (x : Int) : apartR (⟨(.c (.p (.i .i64 x))), [], []⟩ : Res) = true := rfl
theorem apart_s (x : ByteArray) : apartR (⟨(.c (.p (.s x))), [], []⟩ : Res) = true := rfl
theorem ev_spec_l1In (x lo hi : Int) : Ev (F_spec_l1In · x lo hi) (decide (lo ≤ x ∧ x ≤ hi)) := by
  refine ⟨1, fun n hn => ?_⟩
  obtain ⟨m, rfl, hm⟩ := up1 hn
  simp only [F_spec_l1In, T_spec_l1In, run_done, run_fail, run_ask, run_opt, run_inl, run_inr, Option.bind_some, apart_b, apart_i, apart_s]
  by_cases h : x ≥ lo <;> simp [h]
theorem ev_impl_within (x lo hi : Int) : Ev (F_impl_within · x lo hi) (decide (lo ≤ x ∧ x ≤ hi)) := by
  refine ⟨1, fun n hn => ?_⟩
  obtain ⟨m, rfl, hm⟩ := up1 hn
  simp only [F_impl_within, T_impl_within, run_done, run_fail, run_ask, run_opt, run_inl, run_inr, Option.bind_some, apart_b, apart_i, apart_s]
  by_cases h : x ≥ lo <;> simp [h]
/-- the bytes from 32 to 126 -/
def okc (c : UInt8) : Bool := decide (32 ≤ c.toNat ∧ c.toNat ≤ 126)
def plainN (s : ByteArray) (most : Int) : Bool := s.toList.all okc && decide ((s.size : Int) ≤ most)
def okV (k n : Int) (s : ByteArray) : Bool :=
  if k = 2 then decide (n = 0) && plainN s 200 else (s.toList == []) && (if k = 0 then decide (n = 0) else if k = 1 then decide (-1000000000000000 ≤ n ∧ n ≤ 1000000000000000) else if k = 3 then decide (0 ≤ n ∧ n ≤ 1) else if k = 4 then decide (1 ≤ n ∧ n ≤ 5) else false)
abbrev V3 := Int × Int × ByteArray
def em : ByteArray := ⟨#[]⟩
/-- a value as a number; else what is answered -/
def num (k x : Int) (s : ByteArray) : Int ⊕ V3 := if okV k x s = true then (if k = 0 ∨ k = 1 then .inl x else if k = 4 then .inr (k, x, s) else .inr (4, 2, em)) else .inr (4, 2, em)
def fin64 (z : Int) : V3 := if -1000000000000000 ≤ z ∧ z ≤ 1000000000000000 then (1, z, em) else (4, 4, em)
def arith (op : Int → Int → V3) (k x : Int) (s : ByteArray) (k' x' : Int) (s' : ByteArray) : V3 := match num k x s with
  | .inr e => e
  | .inl a => match num k' x' s' with
    | .inr e => e
    | .inl b => op a b
theorem num_inr {k x : Int} {s : ByteArray} {e : V3} (h : num k x s = .inr e) : e.1 = 4 := by
  unfold num at h
  split at h
  · split at h
    · cases h
    · split at h
      · cases h; assumption
      · cases h; rfl
  · cases h; rfl
theorem num_ne {k x : Int} {s : ByteArray} {e : V3} (h : num k x s = .inr e) : ¬ e.1 = 0 := by rw [num_inr h]; decide
theorem num_inl {k x : Int} {s : ByteArray} {a : Int} (h : num k x s = .inl a) : -1000000000000000 ≤ a ∧ a ≤ 1000000000000000 := by
  unfold num at h
  split at h
  · rename_i ho
    split at h
    · rename_i hk
      cases h
      unfold okV at ho
      rcases hk with rfl | rfl
      · simp at ho; omega
      · simp at ho; exact ho.2
    · split at h <;> cases h
  · cases h
def absI (x : Int) : Int := if x < 0 then -x else x
def timesV (a b : Int) : V3 := if a = 0 ∨ b = 0 then fin64 0 else if absI a > Int.tdiv 1000000000000000 (absI b) then (4, 4, em) else fin64 (IntKind.i64.wrap (a * b))
theorem tdiv_in {b : Int} (h : 1 ≤ b) : 0 ≤ Int.tdiv 1000000000000000 b ∧ Int.tdiv 1000000000000000 b ≤ 1000000000000000 := by
  rw [Int.tdiv_eq_ediv_of_nonneg (by decide)]
  exact ⟨Int.ediv_nonneg (by decide) (by omega), Int.ediv_le_self _ (by decide)⟩
def okRef (c r : Int) : Bool := decide (1 ≤ c ∧ c ≤ 52) && decide (1 ≤ r ∧ r ≤ 99)
def okArea (a b c d : Int) : Bool := okRef a b && okRef c d && decide (a ≤ c) && decide (b ≤ d)
theorem ev_spec_RefOk (c r : Int) : Ev (F_spec_RefOk · c r) (okRef c r) := by
  obtain ⟨n1, h1⟩ := ev_spec_l1In c 1 52
  obtain ⟨n2, h2⟩ := ev_spec_l1In r 1 99
  refine ⟨n1 + n2 + 1, fun n hn => ?_⟩
  obtain ⟨m, rfl, hm⟩ := up1 hn
  have h1 := h1 m (by omega)
  dsimp only at h1
  have h2 := h2 m (by omega)
  dsimp only at h2
  simp only [F_spec_RefOk, T_spec_RefOk, run_done, run_fail, run_ask, run_opt, run_inl, run_inr, Option.bind_some, apart_b, apart_i, apart_s, h1, h2]
  unfold okRef
  cases decide (1 ≤ c ∧ c ≤ 52) <;> simp
theorem ev_impl_RefOk (c r : Int) : Ev (F_impl_RefOk · c r) (okRef c r) := by
  obtain ⟨n1, h1⟩ := ev_impl_within c 1 52
  obtain ⟨n2, h2⟩ := ev_impl_within r 1 99
  refine ⟨n1 + n2 + 1, fun n hn => ?_⟩
  obtain ⟨m, rfl, hm⟩ := up1 hn
  have h1 := h1 m (by omega)
  dsimp only at h1
  have h2 := h2 m (by omega)
  dsimp only at h2
  simp only [F_impl_RefOk, T_impl_RefOk, run_done, run_fail, run_ask, run_opt, run_inl, run_inr, Option.bind_some, apart_b, apart_i, apart_s, h1, h2]
  unfold okRef
  cases decide (1 ≤ c ∧ c ≤ 52) <;> simp
abbrev A5 := Int × Int × Int × Int × Bool
def common (x0 x1 x2 x3 x4 x5 x6 x7 : Int) : A5 :=
  if okArea x0 x1 x2 x3 = true ∧ okArea x4 x5 x6 x7 = true ∧ okArea (if x4 > x0 then x4 else x0) (if x5 > x1 then x5 else x1) (if x6 < x2 then x6 else x2) (if x7 < x3 then x7 else x3) = true then
    ((if x4 > x0 then x4 else x0), (if x5 > x1 then x5 else x1), (if x6 < x2 then x6 else x2), (if x7 < x3 then x7 else x3), true) else (0, 0, 0, 0, false)
def cmpI (x y : Int) : Int := if x < y then -1 else if x > y then 1 else 0
def cmpS (x y : ByteArray) : Int := if Op.bytesLess x.toList y.toList = true then -1 else if x.toList = y.toList then 0 else 1
def firstNZ : List Int → Int
  | [] => 0
  | x :: r => if x ≠ 0 then x else firstNZ r
def ordV (k x : Int) (s : ByteArray) (k' x' : Int) (s' : ByteArray) : Int := firstNZ [cmpI k k', cmpI x x', cmpS s s']
def heldB (op o : Int) : Bool := if op = 6 then o == 0 else if op = 7 then o != 0 else if op = 8 then decide (o < 0) else if op = 9 then decide (o ≤ 0) else if op = 10 then decide (o > 0) else decide (o ≥ 0)
def held (op k x : Int) (s : ByteArray) (k' x' : Int) (s' : ByteArray) : Int × Int × ByteArray :=
  if okV k x s = true ∧ okV k' x' s' = true ∧ 6 ≤ op ∧ op ≤ 11 then
    (if k = 4 then (k, x, s) else if k' = 4 then (k', x', s') else (3, if heldB op (ordV (if k = 0 then k' else k) x s (if k' = 0 then k else k') x' s') = true then 1 else 0, em))
  else (4, 2, em)
abbrev CVt := Int × Int × Int × Int × ByteArray
def encCV (c : CVt) : List PV := [.i .i64 c.1, .i .i64 c.2.1, .i .i64 c.2.2.1, .i .i64 c.2.2.2.1, .s c.2.2.2.2]
theorem rows_cv {rows : List (List PV)} (h : ∀ e ∈ rows, okR [.i .i64, .i .i64, .i .i64, .i .i64, .s] e) : ∃ l : List CVt, rows = l.map encCV ∧ ∀ c ∈ l, c.2.2.2.2.size ≤ 140737488351232 := by
  refine rows_map (fun e h => ?_) h
  obtain ⟨c0, t0, rfl, p0, h⟩ := okR_cons h
  obtain ⟨c1, t1, rfl, p1, h1⟩ := okR_cons h
  obtain ⟨c2, t2, rfl, p2, h2⟩ := okR_cons h1
  obtain ⟨c3, t3, rfl, p3, h3⟩ := okR_cons h2
  obtain ⟨c4, t4, rfl, p4, h4⟩ := okR_cons h3
  obtain rfl := okR_nil h4
  obtain ⟨x0, rfl, _⟩ := okP_i p0
  obtain ⟨x1, rfl, _⟩ := okP_i p1
  obtain ⟨x2, rfl, _⟩ := okP_i p2
  obtain ⟨x3, rfl, _⟩ := okP_i p3
  obtain ⟨x4, rfl, w⟩ := okP_s p4
  exact ⟨(x0, x1, x2, x3, x4), rfl, w⟩
theorem cv_get {l : List CVt} {i : Nat} {e : List PV} (h : (l.map encCV)[i]? = some e) : ∃ c, l[i]? = some c ∧ e = encCV c := by
  rw [List.getElem?_map] at h
  obtain ⟨c, h1, h2⟩ := Option.map_eq_some_iff.1 h
  exact ⟨c, h1, h2.symm⟩
def ahead (a b c d : Int) : Bool := decide (b < d ∨ (b = d ∧ a < c))
/-- a value at its place -/
def cvOk (l : List CVt) (i : Nat) (c : CVt) : Bool := okRef c.1 c.2.1 && okV c.2.2.1 c.2.2.2.1 c.2.2.2.2 && (match i with | 0 => true | j + 1 => match l[j]? with | some p => ahead p.1 p.2.1 c.1 c.2.1 | none => true)
def cvFrom (l : List CVt) : Nat → List CVt → Bool
  | _, [] => true
  | i, c :: r => cvOk l i c && cvFrom l (i + 1) r
def cvsOk (l : List CVt) : Bool := cvFrom l 0 l && decide ((l.length : Int) ≤ 120)
theorem ahead_cmp (a b c d : Int) : decide (firstNZ [cmpI b d, cmpI a c] ≥ 0) = !(ahead a b c d) := by
  unfold firstNZ firstNZ firstNZ cmpI ahead
  by_cases h1 : b < d
  · simp [h1]
  · by_cases h2 : b > d
    · have : ¬ b = d := by omega
      simp [h1, h2, this]
    · have : b = d := by omega
      subst this
      by_cases h3 : a < c
      · simp [h3]
      · by_cases h4 : a > c <;> simp [h3, h4]
/-- what stands at a place -/
def cvAt (c r : Int) : List CVt → V3
  | [] => (0, 0, em)
  | p :: l => if p.1 = c ∧ p.2.1 = r then (p.2.2.1, p.2.2.2.1, p.2.2.2.2) else cvAt c r l
def cvIn (c r : Int) : List CVt → Bool
  | [] => false
  | p :: l => decide (p.1 = c ∧ p.2.1 = r) || cvIn c r l
theorem cvAt_out (c r : Int) : ∀ {l : List CVt}, cvIn c r l = false → cvAt c r l = (0, 0, em)
  | [], _ => rfl
  | p :: l, h => by
    simp only [cvIn, Bool.or_eq_false_iff, decide_eq_false_iff_not] at h
    simp only [cvAt, if_neg h.1, cvAt_out c r h.2]
abbrev Ch := Int × Int × ByteArray × ByteArray
def encCh (c : Ch) : List PV := [.i .i64 c.1, .i .i64 c.2.1, .s c.2.2.1, .s c.2.2.2]
theorem rows_ch {rows : List (List PV)} (h : ∀ e ∈ rows, okR [.i .i64, .i .i64, .s, .s] e) : ∃ l : List Ch, rows = l.map encCh ∧ ∀ c ∈ l, True := by
  refine rows_map (fun e h => ?_) h
  obtain ⟨c0, t0, rfl, p0, h⟩ := okR_cons h
  obtain ⟨c1, t1, rfl, p1, h1⟩ := okR_cons h
  obtain ⟨c2, t2, rfl, p2, h2⟩ := okR_cons h1
  obtain ⟨c3, t3, rfl, p3, h3⟩ := okR_cons h2
  obtain rfl := okR_nil h3
  obtain ⟨x0, rfl, _⟩ := okP_i p0
  obtain ⟨x1, rfl, _⟩ := okP_i p1
  obtain ⟨x2, rfl, _⟩ := okP_s p2
  obtain ⟨x3, rfl, _⟩ := okP_s p3
  exact ⟨(x0, x1, x2, x3), rfl, trivial⟩
theorem ch_get {l : List Ch} {i : Nat} {e : List PV} (h : (l.map encCh)[i]? = some e) : ∃ c, l[i]? = some c ∧ e = encCh c := by
  rw [List.getElem?_map] at h
  obtain ⟨c, h1, h2⟩ := Option.map_eq_some_iff.1 h
  exact ⟨c, h1, h2.symm⟩
theorem apart_ch (m sz ty : Nat) (l : List Ch) : apartR (⟨(.c (.own 0 0 0 m)), [], [⟨0, sz, ty, (.row (l.map encCh))⟩]⟩ : Res) = true := by
  simp [apartR, AV.cvs, flatO, flatB, encCh, CV.flat]
def swp (c : Ch) : Ch := (c.1, c.2.1, c.2.2.2, c.2.2.1)
def turnedL (l : List Ch) : List Ch := (l.map swp).reverse
theorem ev_of {R : Type} {F : Nat → Option R} {r : R} {k : Nat} (h : ∀ n, k ≤ n → F n = some r) : Ev F r := ⟨k, h⟩
theorem wf8 {x : Int} (h : (Lit.int .u8 x).wf = true) : 0 ≤ x ∧ x ≤ 255 := by
  simp only [Lit.wf, Bool.and_eq_true, decide_eq_true_eq] at h
  have h1 : IntKind.u8.min = 0 := by decide
  have h2 : IntKind.u8.max = 255 := by decide
  omega
theorem wrapu_in (x : Int) : 0 ≤ IntKind.u64.wrap x ∧ IntKind.u64.wrap x ≤ 18446744073709551615 := by
  unfold IntKind.wrap
  have e2 : (2 : Int) ^ 64 = 18446744073709551616 := by decide
  simp only [IntKind.signed, IntKind.bits, Bool.false_and, Bool.false_eq_true, if_false, e2]
  omega
theorem wrapu {x : Int} (h : 0 ≤ x ∧ x ≤ 18446744073709551615) : IntKind.u64.wrap x = x := by
  unfold IntKind.wrap
  have e2 : (2 : Int) ^ 64 = 18446744073709551616 := by decide
  simp only [IntKind.signed, IntKind.bits, Bool.false_and, Bool.false_eq_true, if_false, e2]
  omega
/-- a reader's bytes -/
def RdOk (l : List (List PV)) : Prop := l.length ≤ 1048576 ∧ ∀ e ∈ l, ∃ b : Int, e = [.i .u8 b] ∧ 0 ≤ b ∧ b ≤ 255
theorem rdOk_of {l : List (List PV)} (w : ∀ r ∈ l, okR [.i .u8] r) (h : ¬ (l.length : Int) > 1048576) : RdOk l := by
  refine ⟨by omega, fun e he => ?_⟩
  obtain ⟨x, r, rfl, h1, h2⟩ := okR_cons (w e he)
  obtain ⟨n, rfl, h3⟩ := okP_i h1
  obtain rfl := okR_nil h2
  exact ⟨n, rfl, wf8 h3⟩
theorem ev_laws_big (l : List (List PV)) : Ev (F_laws_big · l) (decide ((l.length : Int) > 1048576)) := by
  refine ⟨1, fun n hn => ?_⟩
  obtain ⟨m, rfl, hm⟩ := up1 hn
  simp only [F_laws_big, T_laws_big, run_done, run_fail, run_ask, run_opt, run_inl, run_inr, Option.bind_some, apart_b, apart_i, apart_s]
theorem dr_open (l : List (List PV)) : ∀ n, 1 ≤ n → F_spec_l1Open n l = some (l, 0) := fun n hn => by
  obtain ⟨m, rfl, _⟩ := up1 hn
  simp [F_spec_l1Open, T_spec_l1Open, run_done, run_fail, run_ask, run_opt, run_inl, run_inr, Option.bind_some, apart_b, apart_i, apart_s]
theorem dr_next {l : List (List PV)} {p : Int} (hl : RdOk l) (hp : 0 ≤ p ∧ p ≤ l.length) : ∃ (a p' : Int), (0 ≤ p' ∧ p' ≤ l.length) ∧ (0 ≤ a ∧ a ≤ 255) ∧ ∀ n, 1 ≤ n → F_spec_l1Rd_next n l p = some (a, l, p') := by
  have h1 := hl.1
  by_cases h : p ≥ l.length
  · refine ⟨0, p, hp, by decide, fun n hn => ?_⟩
    obtain ⟨m, rfl, _⟩ := up1 hn
    simp [F_spec_l1Rd_next, T_spec_l1Rd_next, run_done, run_fail, run_ask, run_opt, run_inl, run_inr, Option.bind_some, apart_b, apart_i, apart_s, h]
  · have hlt : p.toNat < l.length := by omega
    obtain ⟨b, hb, b0, b1⟩ := hl.2 _ (List.getElem_mem hlt)
    have hg : l[p.toNat]? = some [.i .u8 b] := by rw [List.getElem?_eq_getElem hlt, hb]
    refine ⟨b, p + 1, by omega, ⟨b0, b1⟩, fun n hn => ?_⟩
    obtain ⟨m, rfl, _⟩ := up1 hn
    have w1 : IntKind.i64.wrap (p + 1) = p + 1 := wrap64 (by omega)
    have w2 : IntKind.i64.wrap p = p := wrap64 (by omega)
    have w3 : IntKind.i64.wrap b = b := wrap64 (by omega)
    have hp2 : p < l.length := by omega
    simp [F_spec_l1Rd_next, T_spec_l1Rd_next, run_done, run_fail, run_ask, run_opt, run_inl, run_inr, Option.bind_some, apart_b, apart_i, apart_s, h, w1, w2, w3, hp.1, hp2, hg, hb, cellI]
theorem dr_below {l : List (List PV)} {p : Int} (k : Int) (hk : 1 < k ∧ k ≤ 256) (hl : RdOk l) (hp : 0 ≤ p ∧ p ≤ l.length) : ∃ (a p' : Int), (0 ≤ p' ∧ p' ≤ l.length) ∧ (0 ≤ a ∧ a < k) ∧ ∀ n, 2 ≤ n → F_spec_l1Rd_below n k l p = some (a, l, p') := by
  obtain ⟨a, p', h1, h2, h3⟩ := dr_next hl hp
  have e : Int.tmod a k = a % k := Int.tmod_eq_emod_of_nonneg h2.1
  refine ⟨a % k, p', h1, ⟨Int.emod_nonneg a (by omega), Int.emod_lt_of_pos a (by omega)⟩, fun n hn => ?_⟩
  obtain ⟨m, rfl, hm⟩ := up1 hn
  have h3 := h3 m (by omega)
  have k1 : ¬ k ≤ 1 := by omega
  have k2 : k ≤ 256 := hk.2
  have k3 : ¬ k = 0 := by omega
  simp [F_spec_l1Rd_below, T_spec_l1Rd_below, run_done, run_fail, run_ask, run_opt, run_inl, run_inr, Option.bind_some, apart_b, apart_i, apart_s, h3, k1, k2, k3, e]
theorem dr_once {l : List (List PV)} {p : Int} (k : Int) (hk : 1 < k ∧ k ≤ 256) (hl : RdOk l) (hp : 0 ≤ p ∧ p ≤ l.length) : ∃ (b : Bool) (p' : Int), (0 ≤ p' ∧ p' ≤ l.length) ∧ ∀ n, 3 ≤ n → F_spec_l1Rd_once n k l p = some (b, l, p') := by
  obtain ⟨a, p', h1, h2, h3⟩ := dr_below k hk hl hp
  refine ⟨a == IntKind.i64.wrap (k - 1), p', h1, fun n hn => ?_⟩
  obtain ⟨m, rfl, hm⟩ := up1 hn
  have h3 := h3 m (by omega)
  simp [F_spec_l1Rd_once, T_spec_l1Rd_once, run_done, run_fail, run_ask, run_opt, run_inl, run_inr, Option.bind_some, apart_b, apart_i, apart_s, h3]
theorem word_loop {l : List (List PV)} (hl : RdOk l) : ∀ (m : Nat) (i : Nat) (v p : Int), i + m = 8 → (0 ≤ p ∧ p ≤ l.length) → ∃ (r p' : Int), (0 ≤ p' ∧ p' ≤ l.length) ∧ ∀ n M, 1 ≤ n → m + 1 ≤ M → loopF (B_spec_l1Rd_word_29 n) M (v, (i : Int), l, p) = some (r, l, p')
  | 0, i, v, p, h, hp => by
    refine ⟨v, p, hp, fun n M hn hM => ?_⟩
    obtain ⟨M, rfl⟩ : ∃ q, M = q + 1 := ⟨M - 1, by omega⟩
    have hi : ¬ (i : Int) < 8 := by omega
    rw [loopF_inr (r := (v, l, p)) (by simp [B_spec_l1Rd_word_29, run_done, run_fail, run_ask, run_opt, run_inl, run_inr, Option.bind_some, apart_b, apart_i, apart_s, hi])]
  | m + 1, i, v, p, h, hp => by
    obtain ⟨a, p1, h1, h2, h3⟩ := dr_next hl hp
    obtain ⟨r, p2, h4, h5⟩ := word_loop hl m (i + 1) (IntKind.u64.wrap ((BitVec.ofInt IntKind.u64.bits (IntKind.u64.wrap (v * (2 : Int) ^ (8 : Nat))) ||| BitVec.ofInt IntKind.u64.bits (IntKind.u64.wrap a)).toNat : Int)) p1 (by omega) h1
    refine ⟨r, p2, h4, fun n M hn hM => ?_⟩
    obtain ⟨M, rfl⟩ : ∃ q, M = q + 1 := ⟨M - 1, by omega⟩
    have hi : (i : Int) < 8 := by omega
    have w1 : IntKind.i64.wrap ((i : Int) + 1) = ((i + 1 : Nat) : Int) := by rw [wrap64 (by omega)]; omega
    have h3 := h3 n hn
    rw [loopF_inl (v' := (IntKind.u64.wrap ((BitVec.ofInt IntKind.u64.bits (IntKind.u64.wrap (v * (2 : Int) ^ (8 : Nat))) ||| BitVec.ofInt IntKind.u64.bits (IntKind.u64.wrap a)).toNat : Int), ((i + 1 : Nat) : Int), l, p1)) (by
      simp only [B_spec_l1Rd_word_29, run_done, run_fail, run_ask, run_opt, run_inl, run_inr, Option.bind_some, apart_b, apart_i, apart_s, h3, w1]
      rw [if_pos (by simpa using hi)])]
    exact h5 n M hn (by omega)
theorem dr_word {l : List (List PV)} {p : Int} (hl : RdOk l) (hp : 0 ≤ p ∧ p ≤ l.length) : ∃ (r p' : Int), (0 ≤ p' ∧ p' ≤ l.length) ∧ ∀ n, 10 ≤ n → F_spec_l1Rd_word n l p = some (r, l, p') := by
  obtain ⟨r, p', h1, h2⟩ := word_loop hl 8 0 0 p rfl hp
  refine ⟨r, p', h1, fun n hn => ?_⟩
  obtain ⟨m, rfl, hm⟩ := up1 hn
  have h2 := h2 m m (by omega) (by omega)
  simp only [Int.natCast_zero] at h2
  simp only [F_spec_l1Rd_word, T_spec_l1Rd_word, run_done, run_fail, run_ask, run_opt, run_inl, run_inr, Option.bind_some, apart_b, apart_i, apart_s, h2]
theorem dr_near {l : List (List PV)} {p : Int} (lo hi : Int) (hk : -1000 ≤ lo ∧ lo ≤ hi ∧ hi ≤ 1000) (hl : RdOk l) (hp : 0 ≤ p ∧ p ≤ l.length) : ∃ (x p' : Int), (0 ≤ p' ∧ p' ≤ l.length) ∧ (-9223372036854775808 ≤ x ∧ x ≤ 9223372036854775807) ∧ ∀ n, 11 ≤ n → F_spec_l1Rd_near n lo hi l p = some (x, l, p') := by
  obtain ⟨a, p1, h1, h2, h3⟩ := dr_below 8 (by decide) hl hp
  by_cases a0 : a = 0
  · refine ⟨lo, p1, h1, by omega, fun n hn => ?_⟩
    obtain ⟨m, rfl, hm⟩ := up1 hn
    have h3 := h3 m (by omega)
    simp [F_spec_l1Rd_near, T_spec_l1Rd_near, run_done, run_fail, run_ask, run_opt, run_inl, run_inr, Option.bind_some, apart_b, apart_i, apart_s, h3, a0]
  · by_cases a1 : a = 1
    · refine ⟨hi, p1, h1, by omega, fun n hn => ?_⟩
      obtain ⟨m, rfl, hm⟩ := up1 hn
      have h3 := h3 m (by omega)
      simp [F_spec_l1Rd_near, T_spec_l1Rd_near, run_done, run_fail, run_ask, run_opt, run_inl, run_inr, Option.bind_some, apart_b, apart_i, apart_s, h3, a1]
    · obtain ⟨r, p2, h4, h5⟩ := dr_word hl h1
      refine ⟨_, p2, h4, wrap64_in (lo + IntKind.i64.wrap (Int.tmod (Int.fdiv r ((2 : Int) ^ (1 : Nat))) (IntKind.u64.wrap (IntKind.i64.wrap (IntKind.i64.wrap (hi - lo) + 1))))), fun n hn => ?_⟩
      obtain ⟨m, rfl, hm⟩ := up1 hn
      have h3 := h3 m (by omega)
      have h5 := h5 m (by omega)
      have c1 : ¬ hi < lo := by omega
      have w1 : IntKind.i64.wrap (hi - lo) = hi - lo := wrap64 (by omega)
      have w2 : IntKind.i64.wrap (hi - lo + 1) = hi - lo + 1 := wrap64 (by omega)
      have w3 : IntKind.u64.wrap (hi - lo + 1) = hi - lo + 1 := wrapu (by omega)
      have w4 : ¬ hi - lo + 1 = 0 := by omega
      simp only [F_spec_l1Rd_near, T_spec_l1Rd_near, run_done, run_fail, run_ask, run_opt, run_inl, run_inr, Option.bind_some, apart_b, apart_i, apart_s, h3, h5, w1, w2, w3]
      simp [a0, a1, c1, w4]
theorem dr_off {l : List (List PV)} {p : Int} (lo hi : Int) (hk : -1000 ≤ lo ∧ lo ≤ hi ∧ hi ≤ 1000) (hl : RdOk l) (hp : 0 ≤ p ∧ p ≤ l.length) : ∃ (x p' : Int), (0 ≤ p' ∧ p' ≤ l.length) ∧ (-9223372036854775808 ≤ x ∧ x ≤ 9223372036854775807) ∧ ∀ n, 12 ≤ n → F_spec_l1Rd_off n lo hi l p = some (x, l, p') := by
  obtain ⟨b, p1, h1, h2⟩ := dr_once 24 (by decide) hl hp
  cases b with
  | true =>
    obtain ⟨a, p2, h3, h4, h5⟩ := dr_below 4 (by decide) hl h1
    have c : a = 0 ∨ a = 1 ∨ a = 2 ∨ a = 3 := by omega
    rcases c with rfl | rfl | rfl | rfl
    · refine ⟨IntKind.i64.wrap (lo - 1), p2, h3, wrap64_in _, fun n hn => ?_⟩
      obtain ⟨m, rfl, hm⟩ := up1 hn
      have h2 := h2 m (by omega)
      have h5 := h5 m (by omega)
      simp [F_spec_l1Rd_off, T_spec_l1Rd_off, run_done, run_fail, run_ask, run_opt, run_inl, run_inr, Option.bind_some, apart_b, apart_i, apart_s, h2, h5, cellI]
    · refine ⟨IntKind.i64.wrap (hi + 1), p2, h3, wrap64_in _, fun n hn => ?_⟩
      obtain ⟨m, rfl, hm⟩ := up1 hn
      have h2 := h2 m (by omega)
      have h5 := h5 m (by omega)
      simp [F_spec_l1Rd_off, T_spec_l1Rd_off, run_done, run_fail, run_ask, run_opt, run_inl, run_inr, Option.bind_some, apart_b, apart_i, apart_s, h2, h5, cellI]
    · refine ⟨-9223372036854775808, p2, h3, by decide, fun n hn => ?_⟩
      obtain ⟨m, rfl, hm⟩ := up1 hn
      have h2 := h2 m (by omega)
      have h5 := h5 m (by omega)
      simp [F_spec_l1Rd_off, T_spec_l1Rd_off, run_done, run_fail, run_ask, run_opt, run_inl, run_inr, Option.bind_some, apart_b, apart_i, apart_s, h2, h5, cellI]
    · refine ⟨9223372036854775807, p2, h3, by decide, fun n hn => ?_⟩
      obtain ⟨m, rfl, hm⟩ := up1 hn
      have h2 := h2 m (by omega)
      have h5 := h5 m (by omega)
      simp [F_spec_l1Rd_off, T_spec_l1Rd_off, run_done, run_fail, run_ask, run_opt, run_inl, run_inr, Option.bind_some, apart_b, apart_i, apart_s, h2, h5, cellI]
  | false =>
    obtain ⟨x, p2, h3, h4, h5⟩ := dr_near lo hi hk hl h1
    refine ⟨x, p2, h3, h4, fun n hn => ?_⟩
    obtain ⟨m, rfl, hm⟩ := up1 hn
    have h2 := h2 m (by omega)
    have h5 := h5 m (by omega)
    simp [F_spec_l1Rd_off, T_spec_l1Rd_off, run_done, run_fail, run_ask, run_opt, run_inl, run_inr, Option.bind_some, apart_b, apart_i, apart_s, h2, h5]
def rng (a : Int) : Nat → List Int
  | 0 => []
  | n + 1 => a :: rng (a + 1) n
theorem rng_len : ∀ (n : Nat) (a : Int), (rng a n).length = n
  | 0, a => rfl
  | n + 1, a => by simp [rng, rng_len n]
def encRf (x : Int × Int) : List PV := [.i .i64 x.1, .i .i64 x.2]
def rowC (a : Int) (n : Nat) (r : Int) : List (Int × Int) := (rng a n).map fun x => (x, r)
def cellsP (a b c d : Int) : List (Int × Int) := (rng b (d - b + 1).toNat).flatMap fun r => rowC a (c - a + 1).toNat r
theorem dr_ref {l : List (List PV)} {p : Int} (hl : RdOk l) (hp : 0 ≤ p ∧ p ≤ l.length) : ∃ (a b p' : Int), (0 ≤ p' ∧ p' ≤ l.length) ∧ ∀ n, 3 ≤ n → F_spec_l1Rd_ref n l p = some (a, b, l, p') := by
  obtain ⟨a, p1, h1, h2, h3⟩ := dr_below 3 (by decide) hl hp
  obtain ⟨b, p2, h4, h5, h6⟩ := dr_below 4 (by decide) hl h1
  refine ⟨IntKind.i64.wrap (1 + a), IntKind.i64.wrap (1 + b), p2, h4, fun n hn => ?_⟩
  obtain ⟨m, rfl, hm⟩ := up1 hn
  have h3 := h3 m (by omega)
  have h6 := h6 m (by omega)
  simp [F_spec_l1Rd_ref, T_spec_l1Rd_ref, run_done, run_fail, run_ask, run_opt, run_inl, run_inr, Option.bind_some, apart_b, apart_i, apart_s, h3, h6]
def decS (x : Int) : ByteArray := ⟨(Lib.itoa x).toArray⟩
theorem ba_app (a b : ByteArray) : (a ++ b).data.toList = a.data.toList ++ b.data.toList := by
  rw [ByteArray.data_append, Array.toList_append]
theorem ba_eq {a b : ByteArray} (h : a.data.toList = b.data.toList) : a = b := by
  cases a; cases b
  congr 1
  exact Array.toList_inj.1 h
theorem ba_eqL {a b : ByteArray} (h : a.toList = b.toList) : a = b := ba_eq (by rw [← Go.Lib.toList_data, ← Go.Lib.toList_data]; exact h)
theorem ba_size (a : ByteArray) : a.size = a.data.toList.length := by rw [Array.length_toList]; rfl
theorem u8w {q : Nat} (h : q < 10) : IntKind.u8.wrap (IntKind.i64.wrap (48 + (q : Int))) = ((48 + q : Nat) : Int) := by
  rw [wrap64 (by omega)]
  unfold IntKind.wrap
  have e2 : (2 : Int) ^ 8 = 256 := by decide
  simp only [IntKind.signed, IntKind.bits, Bool.false_and, Bool.false_eq_true, if_false, e2]
  omega
theorem nd_le : ∀ (k v : Nat), 1 ≤ v → v < 10 ^ k → Lib.nDigits v ≤ k := by
  intro k
  induction k with
  | zero => intro v hv hv'; simp at hv'; omega
  | succ k ih =>
    intro v hv hv'
    by_cases h10 : v < 10
    · rw [Lib.nDigits_small h10]; omega
    · rw [Lib.nDigits_big h10]
      have := ih (v / 10) (by omega) (by rw [Nat.pow_succ] at hv'; omega)
      omega
theorem dec_len (u : Nat) (h : u ≤ 1000000000000000000) : (Lib.decDigits u).length ≤ 19 := by
  have p : (10 : Nat) ^ 19 = 10000000000000000000 := by decide
  rw [Lib.decDigits_length]
  rcases Nat.lt_or_ge u 1 with h6 | h6
  · have : u = 0 := by omega
    subst this
    rw [Lib.nDigits_small (by decide)]
    decide
  · exact nd_le 19 u h6 (by omega)
def nameS (x : Int) : ByteArray := if x = 1 then ⟨#[35, 68, 73, 86, 33]⟩ else if x = 2 then ⟨#[35, 84, 89, 80, 69, 33]⟩ else if x = 3 then ⟨#[35, 82, 69, 70, 33]⟩ else if x = 4 then ⟨#[35, 79, 86, 69, 82, 33]⟩ else if x = 5 then ⟨#[35, 67, 89, 67, 76, 69, 33]⟩ else ⟨#[]⟩
theorem lt6 {x : Int} (h : 0 ≤ x ∧ x ≤ 5) : x = 0 ∨ x = 1 ∨ x = 2 ∨ x = 3 ∨ x = 4 ∨ x = 5 := by omega
def boolS (x : Int) : ByteArray := if x = 1 then ⟨#[84, 82, 85, 69]⟩ else ⟨#[70, 65, 76, 83, 69]⟩
theorem okV_1 {x : Int} {s : ByteArray} (h : okV 1 x s = true) : -1000000000000000 ≤ x ∧ x ≤ 1000000000000000 := by
  simp [okV] at h; exact h.2
theorem okV_2 {x : Int} {s : ByteArray} (h : okV 2 x s = true) : x = 0 ∧ (s.size : Int) ≤ 200 ∧ s.toList.all okc = true := by
  simp only [okV, plainN, if_true, Bool.and_eq_true, decide_eq_true_eq] at h
  exact ⟨h.1, h.2.2, h.2.1⟩
theorem okV_3 {x : Int} {s : ByteArray} (h : okV 3 x s = true) : 0 ≤ x ∧ x ≤ 1 := by
  simp [okV] at h; exact h.2
theorem okV_4 {x : Int} {s : ByteArray} (h : okV 4 x s = true) : 1 ≤ x ∧ x ≤ 5 := by
  simp [okV] at h; exact h.2
/-- a value's text -/
def vtext (k x : Int) (s : ByteArray) : ByteArray := if k = 1 then decS x else if k = 2 then ⟨#[39]⟩ ++ s else if k = 3 then boolS x else if k = 4 then nameS x else ⟨#[]⟩
theorem decS_size {x : Int} (h : -1000000000000000000 ≤ x ∧ x ≤ 1000000000000000000) : (decS x).size ≤ 20 := by
  rw [ba_size]
  show (Lib.itoa x).length ≤ 20
  unfold Lib.itoa
  split
  · have := dec_len x.natAbs (by omega); simp; omega
  · have := dec_len x.toNat (by omega); omega
theorem vtext_size {k x : Int} {s : ByteArray} (h : okV k x s = true) : (vtext k x s).size ≤ 300 := by
  unfold vtext
  split
  · rename_i k1; subst k1; have := okV_1 h; have := decS_size (x := x) (by omega); omega
  · split
    · rename_i k2; subst k2
      have := okV_2 h
      rw [ByteArray.size_append]
      show 1 + s.size ≤ 300
      omega
    · split
      · unfold boolS; split <;> decide
      · split
        · unfold nameS
          repeat' split
          all_goals decide
        · decide
/-- a value as a text; else what is answered -/
def word (k x : Int) (s : ByteArray) : ByteArray ⊕ V3 := if okV k x s = true then (if k = 4 then .inr (k, x, s) else if k = 2 then .inl s else .inl (vtext k x s)) else .inr (4, 2, em)
theorem word_inr {k x : Int} {s : ByteArray} {e : V3} (h : word k x s = .inr e) : e.1 = 4 ∧ num k x s = .inr e := by
  unfold word at h
  unfold num
  by_cases ho : okV k x s = true
  · rw [if_pos ho] at h ⊢
    split at h
    · rename_i k4
      cases h
      subst k4
      simp
    · split at h <;> cases h
  · rw [if_neg ho] at h ⊢
    cases h
    exact ⟨rfl, rfl⟩
theorem word_size {k x : Int} {s : ByteArray} {t : ByteArray} (h : word k x s = .inl t) : t.size ≤ 300 := by
  unfold word at h
  split at h
  · rename_i ho
    split at h
    · cases h
    · split at h
      · rename_i k2; cases h; subst k2; have := okV_2 ho; omega
      · cases h; exact vtext_size ho
  · cases h
def joinV (a b : ByteArray) : V3 := if ((a.size : Int) + b.size) > 200 then (4, 4, em) else (2, 0, a ++ b)
def joined (k x : Int) (s : ByteArray) (k' x' : Int) (s' : ByteArray) : V3 := match word k x s with
  | .inr e => e
  | .inl a => match word k' x' s' with
    | .inr e => e
    | .inl b => joinV a b
/-- a column's letters -/
def colS (x : Int) : ByteArray := if x < 1 ∨ x > 52 then ⟨#[]⟩ else if x ≤ 26 then ⟨#[UInt8.ofNat (64 + x.toNat)]⟩ else ⟨#[65, UInt8.ofNat (65 + (x.toNat - 1) % 26)]⟩
theorem colS_size (x : Int) : (colS x).size ≤ 2 := by
  unfold colS
  split
  · decide
  · split
    · exact (show (1 : Nat) ≤ 2 by decide)
    · exact (show (2 : Nat) ≤ 2 by decide)
theorem u8wrap {q : Int} (h : 0 ≤ q ∧ q < 256) : IntKind.u8.wrap q = q := by
  unfold IntKind.wrap
  have e2 : (2 : Int) ^ 8 = 256 := by decide
  simp only [IntKind.signed, IntKind.bits, Bool.false_and, Bool.false_eq_true, if_false, e2]
  omega
/-- a place's text -/
def placeS (c r : Int) (fc fr : Bool) : ByteArray := if okRef c r = true then ⟨((if fc = true then [36] else []) ++ (colS c).data.toList ++ (if fr = true then [36] else []) ++ (decS r).data.toList).toArray⟩ else ⟨#[]⟩
theorem decS_size' {x : Int} (h : 1 ≤ x ∧ x ≤ 99) : (decS x).size ≤ 20 := by
  rw [ba_size]
  show (Lib.itoa x).length ≤ 20
  unfold Lib.itoa
  rw [if_neg (by omega)]
  have := dec_len x.toNat (by omega)
  omega
theorem okRef_in {c r : Int} (h : okRef c r = true) : (1 ≤ c ∧ c ≤ 52) ∧ (1 ≤ r ∧ r ≤ 99) := by
  simpa [okRef] using h
def isDig (c : UInt8) : Bool := decide (48 ≤ c.toNat) && decide (c.toNat ≤ 57)
def dvalN (acc : Nat) (l : List UInt8) : Nat := l.foldl (fun a c => a * 10 + (c.toNat - 48)) acc
theorem dval_nil (acc : Nat) : dvalN acc [] = acc := rfl
theorem dval_cons (acc : Nat) (c : UInt8) (r : List UInt8) : dvalN acc (c :: r) = dvalN (acc * 10 + (c.toNat - 48)) r := by simp only [dvalN, List.foldl_cons]
theorem dval_app (l : List UInt8) (acc : Nat) (c : UInt8) : dvalN acc (l ++ [c]) = dvalN acc l * 10 + (c.toNat - 48) := by
  simp only [dvalN, List.foldl_append, List.foldl_cons, List.foldl_nil]
theorem dval_ge : ∀ (l : List UInt8) (acc : Nat), acc ≤ dvalN acc l
  | [], acc => by rw [dval_nil]; exact Nat.le_refl _
  | c :: r, acc => by
    have h := dval_ge r (acc * 10 + (c.toNat - 48))
    have h2 : acc ≤ acc * 10 + (c.toNat - 48) := by omega
    rw [dval_cons]
    exact Nat.le_trans h2 h
theorem dig_of {d : Nat} (h : d < 10) : (UInt8.ofNat (48 + d)).toNat = 48 + d := by
  rw [UInt8.toNat_ofNat']; omega
theorem isDig_of {d : Nat} (h : d < 10) : isDig (UInt8.ofNat (48 + d)) = true := by
  unfold isDig
  rw [dig_of h]
  simp
  omega
theorem dec_props : ∀ u : Nat, (Lib.decDigits u).all isDig = true ∧ dvalN 0 (Lib.decDigits u) = u ∧ Lib.decDigits u ≠ [] ∧ (10 ≤ u → (Lib.decDigits u).head? ≠ some 48) ∧ (1 ≤ u → (Lib.decDigits u).head? ≠ some 48) := by
  intro u
  induction u using Nat.strongRecOn with
  | _ u ih =>
    by_cases h : u < 10
    · rw [Lib.decDigits, dif_pos h]
      have h1 : ∀ k, 1 ≤ k → k < 10 → UInt8.ofNat (48 + k) ≠ 48 := fun k hk hk' e => by
        have := congrArg UInt8.toNat e
        rw [dig_of hk'] at this
        have h2 : (48 : UInt8).toNat = 48 := rfl
        omega
      refine ⟨by simp only [List.all_cons, List.all_nil, isDig_of h, Bool.and_true], by rw [dval_cons, dval_nil, dig_of h]; omega, by simp, fun _ => by omega, fun hu => ?_⟩
      simp only [List.head?_cons, ne_eq, Option.some.injEq]
      exact h1 u hu h
    · obtain ⟨i1, i2, i3, i4, i5⟩ := ih (u / 10) (by omega)
      rw [Lib.decDigits, dif_neg h]
      have hd : u % 10 < 10 := by omega
      have hh : (Lib.decDigits (u / 10) ++ [UInt8.ofNat (48 + u % 10)]).head? = (Lib.decDigits (u / 10)).head? := by
        cases hq : Lib.decDigits (u / 10) with
        | nil => exact absurd hq i3
        | cons a b => rfl
      refine ⟨by simp only [List.all_append, i1, List.all_cons, List.all_nil, isDig_of hd, Bool.and_true], by rw [dval_app, i2, dig_of hd]; omega, by simp, fun _ => ?_, fun _ => ?_⟩
      · rw [hh]; exact i5 (by omega)
      · rw [hh]; exact i5 (by omega)
/-- digits, no nought ahead of others -/
def canon (l : List UInt8) : Bool := !(l == []) && l.all isDig && (!(l.head? == some 48) || l.length == 1)
theorem dec_canon (u : Nat) : canon (Lib.decDigits u) = true := by
  obtain ⟨h1, h2, h3, h4, h5⟩ := dec_props u
  simp only [canon, h1, Bool.and_true, Bool.and_eq_true, Bool.not_eq_true', beq_eq_false_iff_ne, Bool.or_eq_true]
  refine ⟨h3, ?_⟩
  by_cases hu : u < 10
  · right; rw [Lib.decDigits, dif_pos hu]; rfl
  · left; exact h4 (by omega)
theorem canon_dec : ∀ (n : Nat) (l : List UInt8), l.length = n → canon l = true → Lib.decDigits (dvalN 0 l) = l
  | 0, l, hn, h => by
    have := List.eq_nil_of_length_eq_zero hn
    subst this
    simp [canon] at h
  | n + 1, l, hn, h => by
    simp only [canon, Bool.and_eq_true, Bool.not_eq_true', beq_eq_false_iff_ne, Bool.or_eq_true, beq_iff_eq] at h
    obtain ⟨⟨h1, h2⟩, h3⟩ := h
    obtain ⟨ini, c, rfl⟩ : ∃ ini c, l = ini ++ [c] := ⟨l.dropLast, l.getLast h1, (List.dropLast_concat_getLast h1).symm⟩
    simp only [List.all_append, Bool.and_eq_true, List.all_cons, List.all_nil, Bool.and_true] at h2
    obtain ⟨h2, hc⟩ := h2
    simp only [isDig, Bool.and_eq_true, decide_eq_true_eq] at hc
    have ec : UInt8.ofNat (48 + (c.toNat - 48)) = c := by
      have : 48 + (c.toNat - 48) = c.toNat := by omega
      rw [this]; simp
    rw [dval_app]
    cases ini with
    | nil =>
      rw [dval_nil, Nat.zero_mul, Nat.zero_add, List.nil_append, Lib.decDigits, dif_pos (by omega), ec]
    | cons a b =>
      have hl : (a :: b).length = n := by simp at hn ⊢; omega
      have h48 : ¬ a = 48 := by
        rcases h3 with h3 | h3
        · simpa using h3
        · simp at h3
      have hcn : canon (a :: b) = true := by
        simp only [canon, h2, Bool.and_true, Bool.and_eq_true, Bool.not_eq_true', beq_eq_false_iff_ne, Bool.or_eq_true]
        exact ⟨by simp, .inl (by simpa using h48)⟩
      have ih := canon_dec n (a :: b) hl hcn
      have hp : 1 ≤ dvalN 0 (a :: b) := by
        rcases Nat.eq_zero_or_pos (dvalN 0 (a :: b)) with h0 | h0
        · rw [h0, Lib.decDigits, dif_pos (by decide)] at ih
          have : a = 48 := by
            have := congrArg List.head? ih
            simpa using this.symm
          exact absurd this h48
        · exact h0
      rw [Lib.decDigits, dif_neg (by omega)]
      have e1 : (dvalN 0 (a :: b) * 10 + (c.toNat - 48)) / 10 = dvalN 0 (a :: b) := by omega
      have e2 : (dvalN 0 (a :: b) * 10 + (c.toNat - 48)) % 10 = c.toNat - 48 := by omega
      rw [e1, e2, ih, ec]
/-- what the law's reader of numbers answers -/
def l1I (l : List UInt8) (most : Int) : Int × Bool := if (l.length : Int) ≤ most ∧ canon l = true then ((dvalN 0 l : Int), true) else (0, false)
theorem dval_lt : ∀ (l : List UInt8) (acc k : Nat), l.all isDig = true → acc < 10 ^ k → dvalN acc l < 10 ^ (k + l.length)
  | [], acc, k, _, h => by rw [dval_nil]; simpa using h
  | c :: r, acc, k, hd, h => by
    simp only [List.all_cons, Bool.and_eq_true] at hd
    have hc := hd.1
    simp only [isDig, Bool.and_eq_true, decide_eq_true_eq] at hc
    have := dval_lt r (acc * 10 + (c.toNat - 48)) (k + 1) hd.2 (by rw [Nat.pow_succ]; omega)
    rw [dval_cons, List.length_cons, show k + (r.length + 1) = k + 1 + r.length by omega]
    exact this
theorem parseM_ok : ∀ (l : List UInt8) (acc : Nat), l.all isDig = true → dvalN acc l ≤ 1000000000000000000 → Lib.parseUintM (2 ^ 64 - 1) acc l = .ok (dvalN acc l)
  | [], acc, _, _ => by simp only [Lib.parseUintM, dval_nil]
  | c :: r, acc, hd, h => by
    simp only [List.all_cons, Bool.and_eq_true] at hd
    have hc := hd.1
    simp only [isDig, Bool.and_eq_true, decide_eq_true_eq] at hc
    rw [dval_cons] at h ⊢
    have g1 := dval_ge r (acc * 10 + (c.toNat - 48))
    have p : (2 : Nat) ^ 64 - 1 = 18446744073709551615 := by decide
    simp only [Lib.parseUintM]
    rw [if_pos hc, if_neg (by omega), if_neg (by rw [p]; omega)]
    exact parseM_ok r _ hd.2 h
theorem parse_dec {u : Nat} (h : u ≤ 1000000000000000000) : Lib.parseUintB 64 (Lib.decDigits u) = .ok u := by
  obtain ⟨h1, h2, h3, _, _⟩ := dec_props u
  unfold Lib.parseUintB
  rw [if_neg h3, parseM_ok _ 0 h1 (by rw [h2]; exact h), h2]
theorem dec_cons (u : Nat) : ∃ c r, Lib.decDigits u = c :: r ∧ isDig c = true := by
  obtain ⟨h1, _, h3, _, _⟩ := dec_props u
  cases hq : Lib.decDigits u with
  | nil => exact absurd hq h3
  | cons c r =>
    rw [hq] at h1
    simp only [List.all_cons, Bool.and_eq_true] at h1
    exact ⟨c, r, rfl, h1.1⟩
theorem parse_itoa {x : Int} (h : -1000000000000000 ≤ x ∧ x ≤ 1000000000000000) : Lib.parseIntB 64 (Lib.itoa x) = .ok x := by
  have p : (2 : Nat) ^ (64 - 1) = 9223372036854775808 := by decide
  by_cases hx : x < 0
  · have e : Lib.itoa x = 45 :: Lib.decDigits x.natAbs := by unfold Lib.itoa; rw [if_pos hx]
    have c45 : (45 : UInt8).toNat = 45 := rfl
    rw [e]
    simp only [Lib.parseIntB, c45, or_true, if_true, parse_dec (u := x.natAbs) (by omega), p]
    rw [if_neg (by simp), if_neg (by omega)]
    congr 1
    omega
  · have e : Lib.itoa x = Lib.decDigits x.toNat := by unfold Lib.itoa; rw [if_neg hx]
    obtain ⟨c, r, hcr, hd⟩ := dec_cons x.toNat
    simp only [isDig, Bool.and_eq_true, decide_eq_true_eq] at hd
    rw [e, hcr]
    simp only [Lib.parseIntB]
    rw [if_neg (by omega), ← hcr, parse_dec (u := x.toNat) (by omega)]
    simp only [p]
    rw [if_neg (by omega), if_neg (by omega), if_neg (by omega)]
    congr 1
    omega
/-- a number that is read: it is its own text -/
def numR (l : List UInt8) : Option Int := if l.head? = some 45 then (if (l1I (l.drop 1) 16).2 = true ∧ (l1I (l.drop 1) 16).1 ≠ 0 then some (-(l1I (l.drop 1) 16).1) else none) else (if (l1I l 16).2 = true then some (l1I l 16).1 else none)
theorem l1I_true {l : List UInt8} (h : (l1I l 16).2 = true) : l.length ≤ 16 ∧ canon l = true ∧ (l1I l 16).1 = (dvalN 0 l : Int) ∧ Lib.decDigits (dvalN 0 l) = l := by
  unfold l1I at h ⊢
  split at h
  · rename_i hc
    rw [if_pos hc]
    exact ⟨by omega, hc.2, rfl, canon_dec _ l rfl hc.2⟩
  · cases h
theorem l1I_dec {u : Nat} (h : u ≤ 1000000000000000) : l1I (Lib.decDigits u) 16 = ((u : Int), true) := by
  obtain ⟨h1, h2, h3, _, _⟩ := dec_props u
  have hl : (Lib.decDigits u).length ≤ 16 := by
    rw [Lib.decDigits_length]
    have : Lib.nDigits 1000000000000000 = 16 := Lib.nDigits_unique 15 _ (by decide) (by decide)
    rcases Nat.lt_or_ge 16 (Lib.nDigits u) with h4 | h4
    · have h5 : u < 10 ^ 16 := by have : (10 : Nat) ^ 16 = 10000000000000000 := by decide
                                  omega
      exfalso
      rcases Nat.lt_or_ge u 1 with h6 | h6
      · have : u = 0 := by omega
        subst this
        rw [Lib.nDigits_small (by decide)] at h4
        omega
      · have key : ∀ (k v : Nat), 1 ≤ v → v < 10 ^ k → Lib.nDigits v ≤ k := by
          intro k
          induction k with
          | zero => intro v hv hv'; simp at hv'; omega
          | succ k ih =>
            intro v hv hv'
            by_cases h10 : v < 10
            · rw [Lib.nDigits_small h10]; omega
            · rw [Lib.nDigits_big h10]
              have := ih (v / 10) (by omega) (by rw [Nat.pow_succ] at hv'; omega)
              omega
        have := key 16 u h6 h5
        omega
    · exact h4
  unfold l1I
  rw [if_pos ⟨by omega, dec_canon u⟩, h2]
theorem numR_some {l : List UInt8} {x : Int} (h : numR l = some x) : l = Lib.itoa x := by
  unfold numR at h
  split at h
  · rename_i h45
    split at h
    · rename_i hc
      cases h
      obtain ⟨a1, a2, a3, a4⟩ := l1I_true hc.1
      have hne := hc.2
      rw [a3] at hne ⊢
      unfold Lib.itoa
      rw [if_pos (by omega)]
      have : (-(dvalN 0 (l.drop 1) : Int)).natAbs = dvalN 0 (l.drop 1) := by omega
      rw [this, a4]
      cases l with
      | nil => cases h45
      | cons c r => simp at h45; simp [h45]
    · cases h
  · split at h
    · rename_i hc
      cases h
      obtain ⟨a1, a2, a3, a4⟩ := l1I_true hc
      rw [a3]
      unfold Lib.itoa
      rw [if_neg (by omega), Int.toNat_natCast, a4]
    · cases h
theorem numR_itoa {x : Int} (h : -1000000000000000 ≤ x ∧ x ≤ 1000000000000000) : numR (Lib.itoa x) = some x := by
  unfold numR
  by_cases hx : x < 0
  · have e : Lib.itoa x = 45 :: Lib.decDigits x.natAbs := by unfold Lib.itoa; rw [if_pos hx]
    have e2 := l1I_dec (u := x.natAbs) (by omega)
    rw [e, List.head?_cons, if_pos rfl, List.drop_succ_cons, List.drop_zero, e2, if_pos ⟨rfl, by show ((x.natAbs : Nat) : Int) ≠ 0; omega⟩]
    congr 1
    show -((x.natAbs : Nat) : Int) = x
    omega
  · have e : Lib.itoa x = Lib.decDigits x.toNat := by unfold Lib.itoa; rw [if_neg hx]
    have e2 := l1I_dec (u := x.toNat) (by omega)
    obtain ⟨c, r, hcr, hd⟩ := dec_cons x.toNat
    have h45 : ¬ (Lib.decDigits x.toNat).head? = some 45 := by
      rw [hcr]
      simp only [List.head?_cons, Option.some.injEq]
      intro hc
      subst hc
      simp [isDig] at hd
    rw [e, if_neg h45, e2, if_pos rfl]
    congr 1
    show ((x.toNat : Nat) : Int) = x
    omega
theorem numR_in {l : List UInt8} {x : Int} (h : numR l = some x) : -10000000000000000 ≤ x ∧ x ≤ 10000000000000000 := by
  have p16 : (10 : Nat) ^ 16 = 10000000000000000 := by decide
  have key : ∀ {q : List UInt8}, (l1I q 16).2 = true → (0 ≤ (l1I q 16).1 ∧ (l1I q 16).1 ≤ 10000000000000000) := fun {q} hq => by
    obtain ⟨a1, a2, a3, a4⟩ := l1I_true hq
    rw [a3]
    simp only [canon, Bool.and_eq_true] at a2
    have := dval_lt q 0 0 a2.1.2 (by decide)
    have h2 : (10 : Nat) ^ (0 + q.length) ≤ 10 ^ 16 := Nat.pow_le_pow_right (by decide) (by omega)
    omega
  unfold numR at h
  split at h
  · split at h
    · rename_i hc; cases h; have := key hc.1; omega
    · cases h
  · split at h
    · rename_i hc; cases h; have := key hc; omega
    · cases h
def parseN (s : ByteArray) : Int := match L_strconv_ParseInt s 10 64 with
  | some (.inl v) => v
  | some (.inr v) => v
  | none => 0
theorem parseN_itoa {s : ByteArray} {x : Int} (hs : s.toList = Lib.itoa x) (h : -1000000000000000 ≤ x ∧ x ≤ 1000000000000000) : parseN s = x := by
  have hd : s.data.toList = Lib.itoa x := by rw [← Go.Lib.toList_data]; exact hs
  have hsz : s.size ≤ 281474976710656 := by
    rw [← tl_len, hs]
    unfold Lib.itoa
    split
    · have := dec_len x.natAbs (by omega); simp; omega
    · have := dec_len x.toNat (by omega); omega
  unfold parseN L_strconv_ParseInt
  rw [if_pos ⟨rfl, rfl, hsz⟩, hd, parse_itoa h]
/-- which error's name a text is -/
def idxN (s : ByteArray) : Int := if (nameS 5).toList = s.toList then 5 else if (nameS 4).toList = s.toList then 4 else if (nameS 3).toList = s.toList then 3 else if (nameS 2).toList = s.toList then 2 else if (nameS 1).toList = s.toList then 1 else 0
theorem idxN_in (s : ByteArray) : 0 ≤ idxN s ∧ idxN s ≤ 5 := by
  unfold idxN
  repeat' split
  all_goals decide
theorem idxN_ne {s : ByteArray} (h : ¬ idxN s = 0) : nameS (idxN s) = s := by
  unfold idxN at h ⊢
  by_cases h5 : (nameS 5).toList = s.toList
  · rw [if_pos h5]; exact ba_eqL h5
  rw [if_neg h5] at h ⊢
  by_cases h4 : (nameS 4).toList = s.toList
  · rw [if_pos h4]; exact ba_eqL h4
  rw [if_neg h4] at h ⊢
  by_cases h3 : (nameS 3).toList = s.toList
  · rw [if_pos h3]; exact ba_eqL h3
  rw [if_neg h3] at h ⊢
  by_cases h2 : (nameS 2).toList = s.toList
  · rw [if_pos h2]; exact ba_eqL h2
  rw [if_neg h2] at h ⊢
  by_cases h1 : (nameS 1).toList = s.toList
  · rw [if_pos h1]; exact ba_eqL h1
  rw [if_neg h1] at h
  exact absurd rfl h
theorem five {i : Int} (h : 1 ≤ i ∧ i ≤ 5) : i = 1 ∨ i = 2 ∨ i = 3 ∨ i = 4 ∨ i = 5 := by omega
/-- what a text may be the text of -/
def candV (s : ByteArray) : V3 :=
  if s.toList.head? = some 39 then (2, 0, ⟨s.toList.tail.toArray⟩) else
  if s.toList = [70, 65, 76, 83, 69] then (3, 0, em) else if s.toList = [84, 82, 85, 69] then (3, 1, em) else
  if s.toList.head? = some 35 then (if idxN s = 0 then (0, 0, em) else (4, idxN s, em)) else
  if s.toList = [] then (0, 0, em) else (1, parseN s, em)
/-- a text, read as a value: it is that value's text -/
def readV (s : ByteArray) : Int × Int × ByteArray × Bool := if okV (candV s).1 (candV s).2.1 (candV s).2.2 = true ∧ (vtext (candV s).1 (candV s).2.1 (candV s).2.2).toList = s.toList then ((candV s).1, (candV s).2.1, (candV s).2.2, true) else (0, 0, ⟨#[]⟩, false)
theorem beqI (c : UInt8) (k : Nat) (hk : k < 256) : ((c.toNat : Int) == (k : Int)) = (some c == some (UInt8.ofNat k)) := by
  by_cases e : c = UInt8.ofNat k
  · subst e
    have : (UInt8.ofNat k).toNat = k := by rw [UInt8.toNat_ofNat']; omega
    simp [this]
  · have h1 : ¬ (c.toNat : Int) = (k : Int) := fun h => e (by
      have : c.toNat = k := by omega
      rw [← this]; simp)
    have h2 : ¬ some c = some (UInt8.ofNat k) := fun h => e (by simpa using h)
    rw [beq_eq_false_iff_ne.2 h1, beq_eq_false_iff_ne.2 h2]
theorem toList_mk (l : List UInt8) : (⟨l.toArray⟩ : ByteArray).toList = l := by rw [Go.Lib.toList_data]
theorem l1Dec_loop (n : Nat) : ∀ (f u : Nat) (s : ByteArray), u < 10 ^ (f + 1) → u ≤ 9223372036854775807 → s.size + f ≤ 1000 → ∃ (q : Nat) (t : ByteArray), q < 10 ∧ t.size ≤ s.size + f ∧ UInt8.ofNat (48 + q) :: t.data.toList = Lib.decDigits u ++ s.data.toList ∧ ∀ M, f + 1 ≤ M → loopF (B_spec_l1Dec_30 n) M ((u : Int), s) = some ((q : Int), t)
  | f, u, s, h1, h2, h3 => by
    by_cases h : u < 10
    · refine ⟨u, s, h, by omega, by rw [Lib.decDigits, dif_pos h]; rfl, fun M hM => ?_⟩
      obtain ⟨M, rfl⟩ : ∃ k, M = k + 1 := ⟨M - 1, by omega⟩
      have hc : ¬ (u : Int) ≥ 10 := by omega
      rw [loopF_inr (r := ((u : Int), s)) (by simp [B_spec_l1Dec_30, run_done, run_fail, run_ask, run_opt, run_inl, run_inr, Option.bind_some, apart_b, apart_i, apart_s, hc])]
    · cases f with
      | zero => simp at h1; omega
      | succ f =>
        have e1 : Int.tmod (u : Int) 10 = ((u % 10 : Nat) : Int) := by rw [Int.tmod_eq_emod_of_nonneg (by omega)]; omega
        have e2 : IntKind.i64.wrap (Int.tdiv (u : Int) 10) = ((u / 10 : Nat) : Int) := by
          rw [Int.tdiv_eq_ediv_of_nonneg (by omega), wrap64 (by omega)]; omega
        have e3 := u8w (q := u % 10) (by omega)
        have h4 : u / 10 < 10 ^ (f + 1) := by
          have : 10 ^ (f + 1 + 1) = 10 ^ (f + 1) * 10 := Nat.pow_succ 10 (f + 1)
          omega
        let d : ByteArray := ⟨#[UInt8.ofNat (48 + u % 10)]⟩
        have hd : d.size = 1 := rfl
        have hs : (d ++ s).size = s.size + 1 := by rw [ByteArray.size_append]; omega
        obtain ⟨q, t, g1, g2, g3, g4⟩ := l1Dec_loop n f (u / 10) (d ++ s) h4 (by omega) (by omega)
        refine ⟨q, t, g1, by omega, ?_, fun M hM => ?_⟩
        · rw [g3, ba_app, Lib.decDigits.eq_1 u, dif_neg h]
          simp [d]
        · obtain ⟨M, rfl⟩ : ∃ k, M = k + 1 := ⟨M - 1, by omega⟩
          have hc : (u : Int) ≥ 10 := by omega
          have hz : d.size + s.size ≤ 9223372036854775807 := by omega
          rw [loopF_inl (v' := (((u / 10 : Nat) : Int), d ++ s)) (by
            simp only [B_spec_l1Dec_30, run_done, run_fail, run_ask, run_opt, run_inl, run_inr, Option.bind_some, apart_b, apart_i, apart_s, e1, e2, e3, bytesOf, Option.map_some, Int.toNat_natCast]
            rw [if_pos (by simpa using hc), if_pos (by simp), if_pos (decide_eq_true hz)])]
          exact g4 M (by omega)
theorem un_l1Dec_pos (u : Nat) (h : u ≤ 1000000000000000000) : ∀ n, 25 ≤ n → F_spec_l1Dec n (u : Int) = some (decS u) := by
  intro n hn
  obtain ⟨m, rfl, hm⟩ := up1 hn
  have p : (10 : Nat) ^ (18 + 1) = 10000000000000000000 := by decide
  obtain ⟨q, t, g1, g2, g3, g4⟩ := l1Dec_loop m 18 u ⟨#[]⟩ (by omega) (by omega) (by show 0 + 18 ≤ 1000; decide)
  have g4 := g4 m (by omega)
  have e3 := u8w g1
  have hc : ¬ (u : Int) < 0 := by omega
  have hz : (⟨#[UInt8.ofNat (48 + q)]⟩ : ByteArray).size + t.size ≤ 9223372036854775807 := by
    have g2 : t.size ≤ 0 + 18 := g2
    show 1 + t.size ≤ _
    omega
  simp only [F_spec_l1Dec, T_spec_l1Dec, run_done, run_fail, run_ask, run_opt, run_inl, run_inr, Option.bind_some, apart_b, apart_i, apart_s, g4, e3, bytesOf, Option.map_some, Int.toNat_natCast]
  rw [if_neg (by simp), if_pos (by simp), if_pos (decide_eq_true hz)]
  congr 1
  apply ba_eq
  rw [ba_app]
  have e : Lib.itoa (u : Int) = Lib.decDigits u := by unfold Lib.itoa; rw [if_neg hc]; simp
  show UInt8.ofNat (48 + q) :: t.data.toList = Lib.itoa (u : Int)
  rw [g3, e]
  simp
theorem ev_spec_l1Dec (x : Int) (h : -1000000000000000000 ≤ x ∧ x ≤ 1000000000000000000) : Ev (F_spec_l1Dec · x) (decS x) := by
  by_cases hx : x < 0
  · refine ⟨30, fun n hn => ?_⟩
    obtain ⟨m, rfl, hm⟩ := up1 hn
    have e1 : IntKind.i64.wrap (0 - x) = ((x.natAbs : Nat) : Int) := by rw [wrap64 (by omega)]; omega
    have g := un_l1Dec_pos x.natAbs (by omega) m (by omega)
    have hl := dec_len x.natAbs (by omega)
    have e0 : Lib.itoa ((x.natAbs : Nat) : Int) = Lib.decDigits x.natAbs := by unfold Lib.itoa; rw [if_neg (by omega)]; simp
    have hz : (⟨#[45]⟩ : ByteArray).size + (decS ((x.natAbs : Nat) : Int)).size ≤ 9223372036854775807 := by
      have : (decS ((x.natAbs : Nat) : Int)).size = (Lib.decDigits x.natAbs).length := by rw [ba_size]; simp [decS, e0]
      show 1 + _ ≤ _
      omega
    simp only [F_spec_l1Dec, T_spec_l1Dec, run_done, run_fail, run_ask, run_opt, run_inl, run_inr, Option.bind_some, apart_b, apart_i, apart_s, e1, g]
    rw [if_pos (by simpa using hx), if_pos (decide_eq_true hz)]
    congr 1
    apply ba_eq
    rw [ba_app]
    have e : Lib.itoa x = 45 :: Lib.decDigits x.natAbs := by unfold Lib.itoa; rw [if_pos hx]
    show 45 :: (Lib.itoa ((x.natAbs : Nat) : Int)) = Lib.itoa x
    rw [e, e0]
  · obtain ⟨u, rfl⟩ : ∃ u : Nat, x = u := ⟨x.toNat, by omega⟩
    exact ⟨25, un_l1Dec_pos u (by omega)⟩
theorem ev_FormatInt (x : Int) (h : -9223372036854775808 ≤ x ∧ x ≤ 9223372036854775807) : Ev (F_strconv_FormatInt · x 10) (decS x) := by
  refine ⟨1, fun n hn => ?_⟩
  obtain ⟨m, rfl, hm⟩ := up1 hn
  show L_strconv_FormatInt x 10 = _
  unfold L_strconv_FormatInt
  rw [if_pos ⟨rfl, h⟩]
  rfl
theorem ev_impl_decimal (x : Int) (h : -9223372036854775808 ≤ x ∧ x ≤ 9223372036854775807) : Ev (F_impl_decimal · x) (decS x) := by
  obtain ⟨n1, h1⟩ := ev_FormatInt x h
  refine ⟨n1 + 1, fun n hn => ?_⟩
  obtain ⟨m, rfl, hm⟩ := up1 hn
  have h1 := h1 m (by omega)
  dsimp only at h1
  simp only [F_impl_decimal, T_impl_decimal, run_done, run_fail, run_ask, run_opt, run_inl, run_inr, Option.bind_some, apart_b, apart_i, apart_s, h1]
theorem ev_impl_ColText (x : Int) : Ev (F_impl_ColText · x) (colS x) := by
  by_cases h : 1 ≤ x ∧ x ≤ 52
  · by_cases h26 : x ≤ 26
    · have w1 : IntKind.i64.wrap (65 + x) = 65 + x := wrap64 (by omega)
      have w2 : IntKind.i64.wrap (65 + x - 1) = 65 + x - 1 := wrap64 (by omega)
      have w3 : IntKind.u8.wrap (65 + x - 1) = 65 + x - 1 := u8wrap (by omega)
      have e : (65 + x - 1).toNat = 64 + x.toNat := by omega
      obtain ⟨n1, h1⟩ := ev_impl_within x 1 52
      refine ⟨n1 + 1, fun n hn => ?_⟩
      obtain ⟨m, rfl, hm⟩ := up1 hn
      have h1 := h1 m (by omega)
      dsimp only at h1
      simp only [F_impl_ColText, T_impl_ColText, run_done, run_fail, run_ask, run_opt, run_inl, run_inr, Option.bind_some, apart_b, apart_i, apart_s, h1]
      simp only [w1, w2, w3, bytesOf, Option.map_some, e]
      simp [h, h26, colS, show ¬ x < 1 by omega, show ¬ 52 < x by omega]
    · have w1 : IntKind.i64.wrap (x - 1) = x - 1 := wrap64 (by omega)
      have e1 : Int.tdiv (x - 1) 26 = 1 := by rw [Int.tdiv_eq_ediv_of_nonneg (by omega)]; omega
      have e2 : Int.tmod (x - 1) 26 = (((x.toNat - 1) % 26 : Nat) : Int) := by rw [Int.tmod_eq_emod_of_nonneg (by omega)]; omega
      have w2 : IntKind.u8.wrap (IntKind.i64.wrap (IntKind.i64.wrap (65 + IntKind.i64.wrap 1) - 1)) = 65 := by decide
      have w3 : IntKind.i64.wrap (65 + (((x.toNat - 1) % 26 : Nat) : Int)) = 65 + (((x.toNat - 1) % 26 : Nat) : Int) := wrap64 (by omega)
      have w4 : IntKind.u8.wrap (65 + (((x.toNat - 1) % 26 : Nat) : Int)) = 65 + (((x.toNat - 1) % 26 : Nat) : Int) := u8wrap (by omega)
      have e3 : (65 + (((x.toNat - 1) % 26 : Nat) : Int)).toNat = 65 + (x.toNat - 1) % 26 := by omega
      obtain ⟨n1, h1⟩ := ev_impl_within x 1 52
      refine ⟨n1 + 1, fun n hn => ?_⟩
      obtain ⟨m, rfl, hm⟩ := up1 hn
      have h1 := h1 m (by omega)
      dsimp only at h1
      simp only [F_impl_ColText, T_impl_ColText, run_done, run_fail, run_ask, run_opt, run_inl, run_inr, Option.bind_some, apart_b, apart_i, apart_s, h1]
      simp only [w1, e1, e2, w2, w3, w4, e3, bytesOf, Option.map_some]
      simp [h, h26, colS, show ¬ x < 1 by omega, show ¬ 52 < x by omega]
  · have hx : x < 1 ∨ x > 52 := by omega
    obtain ⟨n1, h1⟩ := ev_impl_within x 1 52
    refine ⟨n1 + 1, fun n hn => ?_⟩
    obtain ⟨m, rfl, hm⟩ := up1 hn
    have h1 := h1 m (by omega)
    dsimp only at h1
    simp only [F_impl_ColText, T_impl_ColText, run_done, run_fail, run_ask, run_opt, run_inl, run_inr, Option.bind_some, apart_b, apart_i, apart_s, h1]
    simp [h, colS, hx]
theorem colT_step (n x : Nat) (s : ByteArray) (h : 1 ≤ x ∧ x ≤ 1000) (hs : s.size ≤ 100) : (B_spec_ColText_30 n ((x : Int), s)).run = some (.inl ((((x - 1) / 26 : Nat) : Int), (⟨#[UInt8.ofNat (65 + (x - 1) % 26)]⟩ : ByteArray) ++ s)) := by
  have w1 : IntKind.i64.wrap ((x : Int) - 1) = ((x - 1 : Nat) : Int) := by rw [wrap64 (by omega)]; omega
  have e1 : Int.tdiv ((x - 1 : Nat) : Int) 26 = (((x - 1) / 26 : Nat) : Int) := by rw [Int.tdiv_eq_ediv_of_nonneg (by omega)]; omega
  have e2 : Int.tmod ((x - 1 : Nat) : Int) 26 = (((x - 1) % 26 : Nat) : Int) := by rw [Int.tmod_eq_emod_of_nonneg (by omega)]; omega
  have w2 : IntKind.i64.wrap (((x - 1) / 26 : Nat) : Int) = (((x - 1) / 26 : Nat) : Int) := wrap64 (by omega)
  have w3 : IntKind.i64.wrap (65 + (((x - 1) % 26 : Nat) : Int)) = 65 + (((x - 1) % 26 : Nat) : Int) := wrap64 (by omega)
  have w4 : IntKind.u8.wrap (65 + (((x - 1) % 26 : Nat) : Int)) = 65 + (((x - 1) % 26 : Nat) : Int) := u8wrap (by omega)
  have e3 : (65 + (((x - 1) % 26 : Nat) : Int)).toNat = 65 + (x - 1) % 26 := by omega
  have hz : (⟨#[UInt8.ofNat (65 + (x - 1) % 26)]⟩ : ByteArray).size + s.size ≤ 9223372036854775807 := by show 1 + s.size ≤ _; omega
  have hc : (x : Int) > 0 := by omega
  simp only [B_spec_ColText_30, run_done, run_fail, run_ask, run_opt, run_inl, run_inr, Option.bind_some, apart_b, apart_i, apart_s, w1, e1, e2, w2, w3, w4, e3, bytesOf, Option.map_some]
  rw [if_pos (decide_eq_true hc), if_pos (by simp), if_pos (decide_eq_true hz)]
theorem colT_end (n : Nat) (s : ByteArray) : (B_spec_ColText_30 n (((0 : Nat) : Int), s)).run = some (.inr s) := by
  simp [B_spec_ColText_30, run_done, run_fail, run_ask, run_opt, run_inl, run_inr, Option.bind_some, apart_b, apart_i, apart_s]
theorem ev_spec_ColText (x : Int) : Ev (F_spec_ColText · x) (colS x) := by
  by_cases h : 1 ≤ x ∧ x ≤ 52
  · obtain ⟨n1, h1⟩ := ev_spec_l1In x 1 52
    refine ⟨n1 + 10, fun n hn => ?_⟩
    obtain ⟨m, rfl, hm⟩ := up1 hn
    have h1 := h1 m (by omega)
    dsimp only at h1
    obtain ⟨u, rfl⟩ : ∃ u : Nat, x = u := ⟨x.toNat, by omega⟩
    obtain ⟨M, hM⟩ : ∃ M, m = M + 3 := ⟨m - 3, by omega⟩
    have key : loopF (B_spec_ColText_30 m) m ((u : Int), (⟨#[]⟩ : ByteArray)) = some (colS u) := by
      rw [hM, loopF_inl (colT_step _ u ⟨#[]⟩ (by omega) (by decide))]
      by_cases h26 : u ≤ 26
      · have e : (u - 1) / 26 = 0 := by omega
        have e2 : 65 + (u - 1) % 26 = 64 + u := by omega
        rw [e, loopF_inr (colT_end _ _), e2]
        congr 1
        apply ba_eq
        rw [ba_app]
        simp [colS, show ¬ (u : Int) < 1 by omega, show ¬ (52 : Int) < u by omega, show (u : Int) ≤ 26 by omega]
      · have e : (u - 1) / 26 = 1 := by omega
        have e4 : (⟨#[UInt8.ofNat (65 + (u - 1) % 26)]⟩ ++ (⟨#[]⟩ : ByteArray)).size ≤ 100 := by rw [ByteArray.size_append]; show 1 + 0 ≤ 100; decide
        rw [e, loopF_inl (colT_step _ 1 _ (by decide) e4)]
        have e3 : (1 - 1) / 26 = 0 := by decide
        rw [e3, loopF_inr (colT_end _ _)]
        congr 1
        apply ba_eq
        rw [ba_app, ba_app]
        simp [colS, show ¬ (u : Int) < 1 by omega, show ¬ (52 : Int) < u by omega, show ¬ (u : Int) ≤ 26 by omega]
    simp only [F_spec_ColText, T_spec_ColText, run_done, run_fail, run_ask, run_opt, run_inl, run_inr, Option.bind_some, apart_b, apart_i, apart_s, h1, key]
    simp [h]
  · have hx : x < 1 ∨ x > 52 := by omega
    obtain ⟨n1, h1⟩ := ev_spec_l1In x 1 52
    refine ⟨n1 + 1, fun n hn => ?_⟩
    obtain ⟨m, rfl, hm⟩ := up1 hn
    have h1 := h1 m (by omega)
    dsimp only at h1
    simp only [F_spec_ColText, T_spec_ColText, run_done, run_fail, run_ask, run_opt, run_inl, run_inr, Option.bind_some, apart_b, apart_i, apart_s, h1]
    simp [h, colS, hx]
theorem ev_spec_PlaceText (c r : Int) (fc fr : Bool) : Ev (F_spec_PlaceText · c r fc fr) (placeS c r fc fr) := by
  cases ho : okRef c r with
  | false =>
    obtain ⟨n1, h1⟩ := ev_spec_RefOk c r
    refine ⟨n1 + 1, fun n hn => ?_⟩
    obtain ⟨m, rfl, hm⟩ := up1 hn
    have h1 := h1 m (by omega)
    dsimp only at h1
    simp only [F_spec_PlaceText, T_spec_PlaceText, run_done, run_fail, run_ask, run_opt, run_inl, run_inr, Option.bind_some, apart_b, apart_i, apart_s, h1]
    simp [ho, placeS]
  | true =>
    have h := okRef_in ho
    have s1 := colS_size c
    have s2 := decS_size' h.2
    have d1 : (⟨#[36]⟩ : ByteArray).size = 1 := rfl
    have z1 : (⟨#[36]⟩ : ByteArray).size + (colS c).size ≤ 9223372036854775807 := by omega
    have z2 : ((⟨#[36]⟩ : ByteArray) ++ colS c).size + (⟨#[36]⟩ : ByteArray).size ≤ 9223372036854775807 := by rw [ByteArray.size_append]; omega
    have z3 : (((⟨#[36]⟩ : ByteArray) ++ colS c) ++ (⟨#[36]⟩ : ByteArray)).size + (decS r).size ≤ 9223372036854775807 := by rw [ByteArray.size_append, ByteArray.size_append]; omega
    have z4 : ((⟨#[36]⟩ : ByteArray) ++ colS c).size + (decS r).size ≤ 9223372036854775807 := by rw [ByteArray.size_append]; omega
    have z5 : (colS c).size + (⟨#[36]⟩ : ByteArray).size ≤ 9223372036854775807 := by omega
    have z6 : (colS c ++ (⟨#[36]⟩ : ByteArray)).size + (decS r).size ≤ 9223372036854775807 := by rw [ByteArray.size_append]; omega
    have z7 : (colS c).size + (decS r).size ≤ 9223372036854775807 := by omega
    obtain ⟨n1, h1⟩ := ev_spec_RefOk c r
    obtain ⟨n2, h2⟩ := ev_spec_ColText c
    obtain ⟨n3, h3⟩ := ev_spec_l1Dec r (by omega)
    refine ⟨n1 + n2 + n3 + 1, fun n hn => ?_⟩
    obtain ⟨m, rfl, hm⟩ := up1 hn
    have h1 := h1 m (by omega)
    dsimp only at h1
    have h2 := h2 m (by omega)
    dsimp only at h2
    have h3 := h3 m (by omega)
    dsimp only at h3
    simp only [F_spec_PlaceText, T_spec_PlaceText, run_done, run_fail, run_ask, run_opt, run_inl, run_inr, Option.bind_some, apart_b, apart_i, apart_s, h1, h2, h3]
    simp only [ho, decide_eq_true z1, decide_eq_true z2, decide_eq_true z3, decide_eq_true z4, decide_eq_true z5, decide_eq_true z6, decide_eq_true z7, if_true, Bool.not_true, Bool.false_eq_true, if_false]
    cases fc <;> cases fr <;> simp only [if_true, if_false, Bool.false_eq_true, Option.some.injEq] <;> apply ba_eq <;> simp [placeS, ho, ba_app]
theorem ev_impl_PlaceText (c r : Int) (fc fr : Bool) : Ev (F_impl_PlaceText · c r fc fr) (placeS c r fc fr) := by
  cases ho : okRef c r with
  | false =>
    obtain ⟨n1, h1⟩ := ev_impl_RefOk c r
    refine ⟨n1 + 1, fun n hn => ?_⟩
    obtain ⟨m, rfl, hm⟩ := up1 hn
    have h1 := h1 m (by omega)
    dsimp only at h1
    simp only [F_impl_PlaceText, T_impl_PlaceText, run_done, run_fail, run_ask, run_opt, run_inl, run_inr, Option.bind_some, apart_b, apart_i, apart_s, h1]
    simp [ho, placeS]
  | true =>
    have h := okRef_in ho
    have s1 := colS_size c
    have s2 := decS_size' h.2
    have d1 : (⟨#[36]⟩ : ByteArray).size = 1 := rfl
    have d0 : (⟨#[]⟩ : ByteArray).size = 0 := rfl
    have z1 : (⟨#[36]⟩ : ByteArray).size + (colS c).size ≤ 9223372036854775807 := by omega
    have z2 : ((⟨#[36]⟩ : ByteArray) ++ colS c).size + (⟨#[36]⟩ : ByteArray).size ≤ 9223372036854775807 := by rw [ByteArray.size_append]; omega
    have z3 : (((⟨#[36]⟩ : ByteArray) ++ colS c) ++ (⟨#[36]⟩ : ByteArray)).size + (decS r).size ≤ 9223372036854775807 := by rw [ByteArray.size_append, ByteArray.size_append]; omega
    have z4 : ((⟨#[36]⟩ : ByteArray) ++ colS c).size + (decS r).size ≤ 9223372036854775807 := by rw [ByteArray.size_append]; omega
    have y1 : (⟨#[]⟩ : ByteArray).size + (colS c).size ≤ 9223372036854775807 := by omega
    have y2 : ((⟨#[]⟩ : ByteArray) ++ colS c).size + (⟨#[36]⟩ : ByteArray).size ≤ 9223372036854775807 := by rw [ByteArray.size_append]; omega
    have y3 : (((⟨#[]⟩ : ByteArray) ++ colS c) ++ (⟨#[36]⟩ : ByteArray)).size + (decS r).size ≤ 9223372036854775807 := by rw [ByteArray.size_append, ByteArray.size_append]; omega
    have y4 : ((⟨#[]⟩ : ByteArray) ++ colS c).size + (decS r).size ≤ 9223372036854775807 := by rw [ByteArray.size_append]; omega
    obtain ⟨n1, h1⟩ := ev_impl_RefOk c r
    obtain ⟨n2, h2⟩ := ev_impl_ColText c
    obtain ⟨n3, h3⟩ := ev_impl_decimal r (by omega)
    refine ⟨n1 + n2 + n3 + 1, fun n hn => ?_⟩
    obtain ⟨m, rfl, hm⟩ := up1 hn
    have h1 := h1 m (by omega)
    dsimp only at h1
    have h2 := h2 m (by omega)
    dsimp only at h2
    have h3 := h3 m (by omega)
    dsimp only at h3
    simp only [F_impl_PlaceText, T_impl_PlaceText, run_done, run_fail, run_ask, run_opt, run_inl, run_inr, Option.bind_some, apart_b, apart_i, apart_s, h1, h2, h3]
    simp only [ho, decide_eq_true z1, decide_eq_true z2, decide_eq_true z3, decide_eq_true z4, decide_eq_true y1, decide_eq_true y2, decide_eq_true y3, decide_eq_true y4, if_true, Bool.not_true, Bool.false_eq_true, if_false]
    cases fc <;> cases fr <;> simp only [if_true, if_false, Bool.false_eq_true, Option.some.injEq] <;> apply ba_eq <;> simp [placeS, ho, ba_app]
theorem l1Int_loop (n : Nat) (s : ByteArray) : ∀ (r pre : List UInt8) (acc M : Nat), s.toList = pre ++ r → acc < 10 ^ pre.length → pre.length + r.length ≤ 17 → r.length + 1 ≤ M →
    loopF (B_spec_l1Int_61 n) M (s, (acc : Int), (pre.length : Int)) = some (if r.all isDig = true then .inr ((dvalN acc r : Nat) : Int) else .inl (0, false))
  | r, pre, acc, 0, h1, h2, h3, h4 => by omega
  | [], pre, acc, M + 1, h1, h2, h3, h4 => by
    have hs : s.size = pre.length := by rw [← tl_len, h1]; simp
    rw [loopF_inr (r := .inr (acc : Int)) (by simp [B_spec_l1Int_61, run_done, run_fail, run_ask, run_opt, run_inl, run_inr, Option.bind_some, apart_b, apart_i, apart_s, hs])]
    simp [dval_nil]
  | c :: r, pre, acc, M + 1, h1, h2, h3, h4 => by
    have hs : s.size = pre.length + (r.length + 1) := by rw [← tl_len, h1]; simp
    have hi : (pre.length : Int) < s.size := by omega
    have hg : s.toList[pre.length]? = some c := by rw [h1]; simp
    simp only [List.length_cons] at h3 h4
    by_cases c1 : (c.toNat : Int) < 48
    · rw [loopF_inr (r := .inl (0, false)) (by simp [B_spec_l1Int_61, run_done, run_fail, run_ask, run_opt, run_inl, run_inr, Option.bind_some, apart_b, apart_i, apart_s, hi, hg, c1])]
      have : isDig c = false := by simp [isDig]; omega
      simp [this]
    · by_cases c2 : (c.toNat : Int) > 57
      · rw [loopF_inr (r := .inl (0, false)) (by simp [B_spec_l1Int_61, run_done, run_fail, run_ask, run_opt, run_inl, run_inr, Option.bind_some, apart_b, apart_i, apart_s, hi, hg, c1, c2])]
        have : isDig c = false := by simp [isDig]; omega
        simp [this]
      · have hc : isDig c = true := by simp [isDig]; omega
        have hp : 10 ^ pre.length ≤ 10 ^ 16 := Nat.pow_le_pow_right (by decide) (by omega)
        have p16 : (10 : Nat) ^ 16 = 10000000000000000 := by decide
        have w1 : IntKind.i64.wrap ((acc : Int) * 10) = (acc : Int) * 10 := wrap64 (by omega)
        have w2 : IntKind.u8.wrap ((c.toNat : Int) - 48) = ((c.toNat - 48 : Nat) : Int) := by rw [u8wrap (by omega)]; omega
        have w3 : IntKind.i64.wrap ((c.toNat - 48 : Nat) : Int) = ((c.toNat - 48 : Nat) : Int) := wrap64 (by omega)
        have w4 : IntKind.i64.wrap ((acc : Int) * 10 + ((c.toNat - 48 : Nat) : Int)) = ((acc * 10 + (c.toNat - 48) : Nat) : Int) := by rw [wrap64 (by omega)]; omega
        have w5 : IntKind.i64.wrap ((pre.length : Int) + 1) = (pre.length : Int) + 1 := wrap64 (by omega)
        have e0 : ((pre ++ [c]).length : Int) = (pre.length : Int) + 1 := by simp
        rw [loopF_inl (v' := (s, ((acc * 10 + (c.toNat - 48) : Nat) : Int), ((pre ++ [c]).length : Int))) (by
          rw [e0]
          simp [B_spec_l1Int_61, run_done, run_fail, run_ask, run_opt, run_inl, run_inr, Option.bind_some, apart_b, apart_i, apart_s, hi, hg, c1, c2, w1, w2, w3, w4, w5])]
        rw [l1Int_loop n s r (pre ++ [c]) (acc * 10 + (c.toNat - 48)) M (by rw [h1]; simp) (by rw [List.length_append, List.length_singleton, Nat.pow_succ]; omega) (by simp; omega) (by omega)]
        simp [hc, dval_cons]
theorem ev_spec_l1Int (s : ByteArray) (most : Int) (hm : most ≤ 16) : Ev (F_spec_l1Int · s most) (l1I s.toList most) := by
  have hsz : s.size = s.toList.length := (tl_len s).symm
  by_cases h0 : s.toList = []
  · have hz : s.size = 0 := by rw [hsz, h0]; rfl
    refine ⟨1, fun n hn => ?_⟩
    obtain ⟨m, rfl, hm⟩ := up1 hn
    simp only [F_spec_l1Int, T_spec_l1Int, run_done, run_fail, run_ask, run_opt, run_inl, run_inr, Option.bind_some, apart_b, apart_i, apart_s]
    simp [hz, h0, l1I, canon]
  · obtain ⟨c, r, hcr⟩ : ∃ c r, s.toList = c :: r := by
      cases hq : s.toList with
      | nil => exact absurd hq h0
      | cons a b => exact ⟨a, b, rfl⟩
    have hl : s.size = r.length + 1 := by rw [hsz, hcr]; rfl
    have z1 : ¬ (s.size : Int) < 1 := by omega
    by_cases h1 : (s.size : Int) > most
    · refine ⟨1, fun n hn => ?_⟩
      obtain ⟨m, rfl, hm⟩ := up1 hn
      simp only [F_spec_l1Int, T_spec_l1Int, run_done, run_fail, run_ask, run_opt, run_inl, run_inr, Option.bind_some, apart_b, apart_i, apart_s]
      have : ¬ ((s.toList.length : Int) ≤ most) := by rw [← hsz]; omega
      simp [z1, h1, l1I, this]
    · have hle : (s.toList.length : Int) ≤ most := by rw [← hsz]; omega
      refine ⟨30, fun n hn => ?_⟩
      obtain ⟨m, rfl, hm'⟩ := up1 hn
      have hg : s.toList[0]? = some c := by rw [hcr]; rfl
      have lp := l1Int_loop m s s.toList [] 0 m rfl (by decide) (by simp; omega) (by omega)
      simp only [List.length_nil, Int.natCast_zero] at lp
      have c48 : ((c.toNat : Int) == 48) = (c == 48) := by
        by_cases e : c = 48
        · subst e; rfl
        · have : ¬ (c.toNat : Int) = 48 := fun h => e (UInt8.toNat_inj.1 (by show c.toNat = 48; omega))
          rw [beq_eq_false_iff_ne.2 this, beq_eq_false_iff_ne.2 e]
      simp only [F_spec_l1Int, T_spec_l1Int, run_done, run_fail, run_ask, run_opt, run_inl, run_inr, Option.bind_some, apart_b, apart_i, apart_s, lp, Int.toNat_zero, hg, c48]
      rw [if_neg (by simpa using z1), if_neg (by simpa using h1), if_pos (by simp)]
      have ne : (s.toList == []) = false := by simpa using h0
      have hd : s.toList.head? = some c := by rw [hcr]; rfl
      by_cases hc : c = 48
      · subst hc
        by_cases h2 : (s.size : Int) > 1
        · have : ¬ s.toList.length = 1 := by omega
          simp [h2, l1I, canon, hd, this]
        · have : s.toList.length = 1 := by omega
          cases hall : s.toList.all isDig <;> simp [h2, l1I, canon, hd, this, hall, ne, hle, run_done, run_fail, run_ask, run_opt, run_inl, run_inr, Option.bind_some, apart_b, apart_i, apart_s]
          · omega
      · have : (some c == some 48) = false := by simpa using hc
        cases hall : s.toList.all isDig <;> simp [hc, l1I, canon, hd, this, hall, ne, hle, run_done, run_fail, run_ask, run_opt, run_inl, run_inr, Option.bind_some, apart_b, apart_i, apart_s]
theorem ev_ParseInt (s : ByteArray) (h : s.size ≤ 281474976710656) : Ev (F_strconv_ParseInt · s 10 64) (.inl (parseN s)) ∨ Ev (F_strconv_ParseInt · s 10 64) (.inr (parseN s)) := by
  have key : ∃ r, L_strconv_ParseInt s 10 64 = some r := by
    unfold L_strconv_ParseInt
    rw [if_pos ⟨rfl, rfl, h⟩]
    split <;> exact ⟨_, rfl⟩
  obtain ⟨r, hr⟩ := key
  have e : Ev (F_strconv_ParseInt · s 10 64) r := ⟨1, fun n hn => by
    obtain ⟨m, rfl, hm⟩ := up1 hn
    exact hr⟩
  rcases r with v | v
  · exact .inl (by unfold parseN; rw [hr]; exact e)
  · exact .inr (by unfold parseN; rw [hr]; exact e)
theorem ev_CutPrefix (s : ByteArray) (c : UInt8) : Ev (F_strings_CutPrefix · s ⟨#[c]⟩) (if s.toList.head? = some c then (⟨s.toList.tail.toArray⟩, true) else (s, false)) := by
  refine ⟨1, fun n hn => ?_⟩
  obtain ⟨m, rfl, hm⟩ := up1 hn
  show L_strings_CutPrefix s ⟨#[c]⟩ = _
  unfold L_strings_CutPrefix Lib.trimPrefix Lib.hasPrefix
  rw [← Go.Lib.toList_data s]
  have es : (⟨s.toList.toArray⟩ : ByteArray) = s := ba_eq (by rw [← Go.Lib.toList_data s])
  generalize s.toList = l at *
  cases l with
  | nil => simp [es]
  | cons a r =>
    by_cases h : a = c
    · subst h; simp
    · have : ¬ c = a := fun e => h e.symm
      simp [h, this, es, List.isPrefixOf]
def rcK (s : ByteArray) : Nat → Int → Int
  | 0, _ => 0
  | k + 1, i => if (colS i).toList = s.toList then i else rcK s k (i + 1)
/-- the column of some letters; 0: none -/
def rcol (s : ByteArray) : Int := rcK s 52 1
theorem rcK_in (s : ByteArray) : ∀ (k : Nat) (i : Int), 1 ≤ rcK s k i → (colS (rcK s k i)).toList = s.toList
  | 0, i, h => by simp [rcK] at h
  | k + 1, i, h => by
    simp only [rcK] at h ⊢
    by_cases e : (colS i).toList = s.toList
    · rw [if_pos e]; exact e
    · rw [if_neg e] at h ⊢; exact rcK_in s k (i + 1) h
def isUp (c : UInt8) : Bool := decide (65 ≤ c.toNat) && decide (c.toNat ≤ 90)
/-- behind a sign that may stand ahead -/
def offS (l : List UInt8) : List UInt8 := if l.head? = some 36 then l.tail else l
def lettersS (l : List UInt8) : List UInt8 := l.takeWhile isUp
def behindS (l : List UInt8) : List UInt8 := l.dropWhile isUp
def readP (s : ByteArray) : Int × Int × Bool × Bool × Bool :=
  if (l1I (offS (behindS (offS s.toList))) 2).2 = true ∧ okRef (rcol ⟨(lettersS (offS s.toList)).toArray⟩) (l1I (offS (behindS (offS s.toList))) 2).1 = true then
    (rcol ⟨(lettersS (offS s.toList)).toArray⟩, (l1I (offS (behindS (offS s.toList))) 2).1, s.toList.head? == some 36, (behindS (offS s.toList)).head? == some 36, true) else (0, 0, false, false, false)
theorem readC_loop {R : Type} {B : ByteArray × Int → Tr ((ByteArray × Int) ⊕ (Int ⊕ Unit))} {s : ByteArray} (hs : ∀ i : Int, 1 ≤ i ∧ i ≤ 52 → (B (s, i)).run = some (if (colS i).toList = s.toList then .inr (.inl i) else .inl (s, i + 1))) (he : (B (s, 53)).run = some (.inr (.inr ()))) :
    ∀ (k : Nat) (i : Int) (M : Nat), 1 ≤ i → i + k = 53 → k + 1 ≤ M → loopF B M (s, i) = some (if rcK s k i = 0 then .inr () else .inl (rcK s k i))
  | k, i, 0, h1, h2, h3 => by omega
  | 0, i, M + 1, h1, h2, h3 => by
    have : i = 53 := by omega
    subst this
    rw [loopF_inr he]
    rfl
  | k + 1, i, M + 1, h1, h2, h3 => by
    have h := hs i ⟨h1, by omega⟩
    by_cases e : (colS i).toList = s.toList
    · rw [if_pos e] at h
      rw [loopF_inr h]
      simp only [rcK, if_pos e]
      rw [if_neg (by omega)]
    · rw [if_neg e] at h
      rw [loopF_inl h]
      simp only [rcK, if_neg e]
      exact readC_loop (R := R) hs he k (i + 1) M (by omega) (by omega) (by omega)
theorem ev_cols {F : Nat → Int → Option ByteArray} (h : ∀ i, Ev (F · i) (colS i)) : ∃ n0, ∀ n, n0 ≤ n → ∀ i, 1 ≤ i ∧ i ≤ 52 → F n i = some (colS i) := by
  obtain ⟨n0, h1⟩ := ev_list (F := fun (i : Nat) n => F n (i : Int)) (f := fun i => colS (i : Int)) (List.range 53) (fun i _ => h i)
  refine ⟨n0, fun n hn i hi => ?_⟩
  have := h1 n hn i.toNat (by rw [List.mem_range]; omega)
  rwa [Int.toNat_of_nonneg (by omega)] at this
theorem ev_spec_ReadCol (s : ByteArray) : Ev (F_spec_ReadCol · s) (rcol s) := by
  obtain ⟨n0, h⟩ := ev_cols ev_spec_ColText
  refine ⟨n0 + 60, fun n hn => ?_⟩
  obtain ⟨m, rfl, hm⟩ := up1 hn
  have hc := h m (by omega)
  have lp := readC_loop (R := Unit) (B := B_spec_ReadCol_13 m) (s := s) (fun i hi => by
    have g := hc i hi
    have w1 : IntKind.i64.wrap (i + 1) = i + 1 := wrap64 (by omega)
    simp only [B_spec_ReadCol_13, run_done, run_fail, run_ask, run_opt, run_inl, run_inr, Option.bind_some, apart_b, apart_i, apart_s, g, w1]
    rw [if_pos (decide_eq_true hi.2)]
    by_cases e : (colS i).toList = s.toList <;> simp [e]) (by simp [B_spec_ReadCol_13, run_done, run_fail, run_ask, run_opt, run_inl, run_inr, Option.bind_some, apart_b, apart_i, apart_s]) 52 1 m (by decide) (by decide) (by omega)
  simp only [F_spec_ReadCol, T_spec_ReadCol, run_done, run_fail, run_ask, run_opt, run_inl, run_inr, Option.bind_some, apart_b, apart_i, apart_s, lp]
  show _ = some (rcK s 52 1)
  by_cases e : rcK s 52 1 = 0
  · rw [if_pos e, e]; rfl
  · rw [if_neg e]; rfl
theorem ev_impl_ReadCol (s : ByteArray) : Ev (F_impl_ReadCol · s) (rcol s) := by
  obtain ⟨n0, h⟩ := ev_cols ev_impl_ColText
  refine ⟨n0 + 60, fun n hn => ?_⟩
  obtain ⟨m, rfl, hm⟩ := up1 hn
  have hc := h m (by omega)
  have lp := readC_loop (R := Unit) (B := B_impl_ReadCol_13 m) (s := s) (fun i hi => by
    have g := hc i hi
    have w1 : IntKind.i64.wrap (i + 1) = i + 1 := wrap64 (by omega)
    simp only [B_impl_ReadCol_13, run_done, run_fail, run_ask, run_opt, run_inl, run_inr, Option.bind_some, apart_b, apart_i, apart_s, g, w1]
    rw [if_pos (decide_eq_true hi.2)]
    by_cases e : (colS i).toList = s.toList <;> simp [e]) (by simp [B_impl_ReadCol_13, run_done, run_fail, run_ask, run_opt, run_inl, run_inr, Option.bind_some, apart_b, apart_i, apart_s]) 52 1 m (by decide) (by decide) (by omega)
  simp only [F_impl_ReadCol, T_impl_ReadCol, run_done, run_fail, run_ask, run_opt, run_inl, run_inr, Option.bind_some, apart_b, apart_i, apart_s, lp]
  show _ = some (rcK s 52 1)
  by_cases e : rcK s 52 1 = 0
  · rw [if_pos e, e]; rfl
  · rw [if_neg e]; rfl
theorem ba_len (b : ByteArray) : b.size = b.toList.length := (tl_len b).symm
theorem ext_take (b : ByteArray) (k : Nat) : (b.extract 0 k).toList = b.toList.take k := by
  rw [Go.Lib.toList_data, ByteArray.data_extract, Array.toList_extract, Go.Lib.toList_data]
  show (b.data.toList.drop 0).take (k - 0) = _
  simp
theorem ext_drop (b : ByteArray) (k : Nat) : (b.extract k b.size).toList = b.toList.drop k := by
  rw [Go.Lib.toList_data, ByteArray.data_extract, Array.toList_extract, Go.Lib.toList_data]
  have hl : b.data.toList.length = b.size := by rw [← ba_size]
  show (b.data.toList.drop k).take (b.size - k) = _
  rw [List.take_of_length_le (by rw [List.length_drop, hl]; exact Nat.le_refl _)]
theorem take_letters (l : List UInt8) : l.take (lettersS l).length = lettersS l := by
  have h := List.takeWhile_append_dropWhile (p := isUp) (l := l)
  have h2 : (List.takeWhile isUp l ++ List.dropWhile isUp l).take (List.takeWhile isUp l).length = List.takeWhile isUp l := List.take_left ..
  rw [h] at h2
  exact h2
theorem drop_letters (l : List UInt8) : l.drop (lettersS l).length = behindS l := by
  have h := List.takeWhile_append_dropWhile (p := isUp) (l := l)
  have h2 : (List.takeWhile isUp l ++ List.dropWhile isUp l).drop (List.takeWhile isUp l).length = List.dropWhile isUp l := List.drop_left ..
  rw [h] at h2
  exact h2
theorem letters_len (l : List UInt8) : (lettersS l).length ≤ l.length := by
  have h := congrArg List.length (List.takeWhile_append_dropWhile (p := isUp) (l := l))
  rw [List.length_append] at h
  unfold lettersS
  omega
theorem spec_rp_loop (n : Nat) (b : ByteArray) (fc : Bool) (hb : b.size ≤ 1048576) : ∀ (r pre : List UInt8) (M : Nat), b.toList = pre ++ r → r.length + 1 ≤ M →
    loopF (B_spec_ReadPlace_62 n) M (b, (pre.length : Int), 0, 0, false, false, 0, 0, fc, false) = some (b, ((pre.length + (lettersS r).length : Nat) : Int), 0, 0, false, false, 0, 0, fc, false)
  | r, pre, 0, h1, h2 => by omega
  | [], pre, M + 1, h1, h2 => by
    have hi : ¬ (pre.length : Int) < b.size := by rw [ba_len, h1]; simp
    rw [loopF_inr (r := (b, (pre.length : Int), 0, 0, false, false, 0, 0, fc, false)) (by simp [B_spec_ReadPlace_62, run_done, run_fail, run_ask, run_opt, run_inl, run_inr, Option.bind_some, apart_b, apart_i, apart_s, hi])]
    simp [lettersS]
  | c :: r, pre, M + 1, h1, h2 => by
    have hl : b.size = pre.length + (r.length + 1) := by rw [ba_len, h1]; simp
    have hi : (pre.length : Int) < b.size := by omega
    have hg : b.toList[pre.length]? = some c := by rw [h1]; simp
    have w1 : IntKind.i64.wrap ((pre.length : Int) + 1) = (pre.length : Int) + 1 := wrap64 (by omega)
    by_cases hc : isUp c = true
    · have hc' : 65 ≤ c.toNat ∧ c.toNat ≤ 90 := by simpa [isUp] using hc
      have c1 : (c.toNat : Int) ≥ 65 := by omega
      have c2 : (c.toNat : Int) ≤ 90 := by omega
      have e0 : ((pre ++ [c]).length : Int) = (pre.length : Int) + 1 := by simp
      rw [loopF_inl (v' := (b, ((pre ++ [c]).length : Int), 0, 0, false, false, 0, 0, fc, false)) (by
        rw [e0]
        simp [B_spec_ReadPlace_62, run_done, run_fail, run_ask, run_opt, run_inl, run_inr, Option.bind_some, apart_b, apart_i, apart_s, hi, hg, c1, c2, w1])]
      rw [spec_rp_loop n b fc hb r (pre ++ [c]) M (by rw [h1]; simp) (by simp at h2; omega)]
      simp [lettersS, hc]
      omega
    · rw [loopF_inr (r := (b, (pre.length : Int), 0, 0, false, false, 0, 0, fc, false)) (by
        by_cases c1 : (c.toNat : Int) ≥ 65
        · have c2 : ¬ (c.toNat : Int) ≤ 90 := fun h => hc (by simp [isUp]; omega)
          simp [B_spec_ReadPlace_62, run_done, run_fail, run_ask, run_opt, run_inl, run_inr, Option.bind_some, apart_b, apart_i, apart_s, hi, hg, c1, c2]
        · simp [B_spec_ReadPlace_62, run_done, run_fail, run_ask, run_opt, run_inl, run_inr, Option.bind_some, apart_b, apart_i, apart_s, hi, hg, c1])]
      simp [lettersS, hc]
theorem ev_spec_ReadPlace (s : ByteArray) (hb : s.size ≤ 1048576) : Ev (F_spec_ReadPlace · s) (readP s) := by
  -- what is read behind the sign that may stand ahead
  have main : ∀ (b : ByteArray) (fc : Bool), b.size ≤ 1048576 → b.toList = offS s.toList → fc = (s.toList.head? == some 36) →
      ∃ n0, ∀ m, n0 ≤ m → loopF (B_spec_ReadPlace_62 m) m (b, 0, 0, 0, false, false, 0, 0, fc, false) = some (b, ((lettersS (offS s.toList)).length : Int), 0, 0, false, false, 0, 0, fc, false) ∧
        F_spec_ReadCol m (b.extract 0 (lettersS (offS s.toList)).length) = some (rcol ⟨(lettersS (offS s.toList)).toArray⟩) ∧
        F_spec_l1Int m (b.extract (lettersS (offS s.toList)).length b.size) 2 = some (l1I (behindS (offS s.toList)) 2) ∧
        F_spec_l1Int m ((b.extract (lettersS (offS s.toList)).length b.size).extract 1 (b.extract (lettersS (offS s.toList)).length b.size).size) 2 = some (l1I (behindS (offS s.toList)).tail 2) := fun b fc hb hl _ => by
    have x1 : b.extract 0 (lettersS (offS s.toList)).length = ⟨(lettersS (offS s.toList)).toArray⟩ := ba_eqL (by rw [ext_take, hl, take_letters, toList_mk (lettersS (offS s.toList))])
    have x2 : (b.extract (lettersS (offS s.toList)).length b.size).toList = behindS (offS s.toList) := by rw [ext_drop, hl, drop_letters]
    have x3 : ((b.extract (lettersS (offS s.toList)).length b.size).extract 1 (b.extract (lettersS (offS s.toList)).length b.size).size).toList = (behindS (offS s.toList)).tail := by rw [ext_drop, x2, List.drop_one]
    obtain ⟨n1, h1⟩ := ev_spec_ReadCol (b.extract 0 (lettersS (offS s.toList)).length)
    obtain ⟨n2, h2⟩ := ev_spec_l1Int (b.extract (lettersS (offS s.toList)).length b.size) 2 (by decide)
    obtain ⟨n3, h3⟩ := ev_spec_l1Int ((b.extract (lettersS (offS s.toList)).length b.size).extract 1 (b.extract (lettersS (offS s.toList)).length b.size).size) 2 (by decide)
    rw [x1] at h1
    rw [x2] at h2
    rw [x3] at h3
    refine ⟨n1 + n2 + n3 + b.size + 2, fun m hm => ⟨?_, by rw [x1]; exact h1 m (by omega), h2 m (by omega), h3 m (by omega)⟩⟩
    have := spec_rp_loop m b fc hb b.toList [] m rfl (by rw [← ba_len]; omega)
    simp only [List.length_nil, Int.natCast_zero, Nat.zero_add] at this
    rw [this, hl]
  have z : ∀ (b : ByteArray), b.toList = offS s.toList → ((lettersS (offS s.toList)).length : Int) ≤ b.size := fun b hl => by
    have := letters_len (offS s.toList)
    rw [← hl] at this ⊢
    rw [ba_len]
    omega
  have k36 : ∀ c : UInt8, ((c.toNat : Int) == 36) = (some c == some 36) := fun c => by
    have h := beqI c 36 (by decide)
    have u : UInt8.ofNat 36 = 36 := rfl
    rw [u] at h
    exact h
  unfold readP
  -- the sign ahead
  have part : ∀ (b : ByteArray) (fc : Bool), b.size ≤ 1048576 → b.toList = offS s.toList → fc = (s.toList.head? == some 36) →
      ((fc = true ∧ b = s.extract 1 s.size ∧ ∃ c r, s.toList = c :: r ∧ c = 36) ∨ (fc = false ∧ b = s ∧ ∀ c r, s.toList = c :: r → (some c == some (36 : UInt8)) = false)) →
      Ev (F_spec_ReadPlace · s) (if (l1I (offS (behindS (offS s.toList))) 2).2 = true ∧ okRef (rcol ⟨(lettersS (offS s.toList)).toArray⟩) (l1I (offS (behindS (offS s.toList))) 2).1 = true then
        (rcol ⟨(lettersS (offS s.toList)).toArray⟩, (l1I (offS (behindS (offS s.toList))) 2).1, s.toList.head? == some 36, (behindS (offS s.toList)).head? == some 36, true) else (0, 0, false, false, false)) := fun b fc hb2 hl hfc hcase => by
    obtain ⟨n0, hm0⟩ := main b fc hb2 hl hfc
    have hz := z b hl
    obtain ⟨n2, h2⟩ := ev_spec_RefOk (rcol ⟨(lettersS (offS s.toList)).toArray⟩) (l1I (offS (behindS (offS s.toList))) 2).1
    have x2 : (b.extract (lettersS (offS s.toList)).length b.size).toList = behindS (offS s.toList) := by rw [ext_drop, hl, drop_letters]
    rw [← hfc]
    refine ⟨n0 + n2 + 1, fun n hn => ?_⟩
    obtain ⟨m, rfl, hm⟩ := up1 hn
    obtain ⟨g1, g2, g3, g4⟩ := hm0 m (by omega)
    have h2 := h2 m (by omega)
    dsimp only at h2
    have e1 : (1 : Int).toNat = 1 := rfl
    have e0 : (0 : Int).toNat = 0 := rfl
    -- how it begins
    have start : ∀ q, (T_spec_ReadPlace m s).run = q → F_spec_ReadPlace (m + 1) s = q := fun q h => h
    apply start
    rcases hcase with ⟨rfl, rfl, c, r, hcr, rfl⟩ | ⟨rfl, rfl, hno⟩
    · have hsz : (s.size : Int) > 0 := by rw [ba_len, hcr]; simp <;> omega
      have hs1 : (1 : Int) ≤ s.size := by omega
      have hg : s.toList[0]? = some 36 := by rw [hcr]; rfl
      have bs : (s.extract 1 s.size).size = s.size - 1 := by rw [ba_len, ext_drop, List.length_drop, ← ba_len]
      have zn : (lettersS (offS s.toList)).length ≤ s.size - 1 := by rw [← bs]; omega
      have sn : 0 < s.size := by omega
      have c36 : ((((36 : UInt8)).toNat : Int) == 36) = true := rfl
      simp only [T_spec_ReadPlace, run_done, run_fail, run_ask, run_opt, run_inl, run_inr, Option.bind_some, apart_b, apart_i, apart_s, Int.toNat_natCast, e0, e1, hg, c36, g1, g2]
      cases hq : behindS (offS s.toList) with
      | nil =>
        have y0 : ((s.extract 1 s.size).extract (lettersS (offS s.toList)).length (s.extract 1 s.size).size).size = 0 := by rw [ba_len, x2, hq]; rfl
        have hoff : offS (behindS (offS s.toList)) = [] := by rw [hq]; rfl
        rw [hoff] at h2
        rw [hq] at g3
        simp only [y0, g3, h2, run_done, run_fail, run_ask, run_opt, run_inl, run_inr, Option.bind_some, apart_b, apart_i, apart_s]
        have hoff' : offS ([] : List UInt8) = [] := rfl
        rw [hoff']
        generalize l1I ([] : List UInt8) 2 = q at *
        obtain ⟨x, ok⟩ := q
        cases ok <;> cases hk : okRef (rcol ⟨(lettersS (offS s.toList)).toArray⟩) x <;> simp [hz, hsz, hs1, zn, sn]
      | cons d w =>
        have y0 : (((s.extract 1 s.size).extract (lettersS (offS s.toList)).length (s.extract 1 s.size).size).size : Int) > 0 := by rw [ba_len, x2, hq]; simp <;> omega
        have y1 : (1 : Int) ≤ ((s.extract 1 s.size).extract (lettersS (offS s.toList)).length (s.extract 1 s.size).size).size := by omega
        have ys : ((s.extract 1 s.size).extract (lettersS (offS s.toList)).length (s.extract 1 s.size).size).size = (s.extract 1 s.size).size - (lettersS (offS s.toList)).length := by rw [ba_len, ext_drop, List.length_drop, ← ba_len]
        have yn : (lettersS (offS s.toList)).length < (s.size - 1) := by rw [← bs]; omega
        have yn2 : 1 ≤ (s.size - 1) - (lettersS (offS s.toList)).length := by omega
        have yn3 : 0 < (s.size - 1) - (lettersS (offS s.toList)).length := by omega
        have yn4 : (1 : Int) ≤ (((s.size - 1) - (lettersS (offS s.toList)).length : Nat) : Int) := by omega
        have yg : ((s.extract 1 s.size).extract (lettersS (offS s.toList)).length (s.extract 1 s.size).size).toList[0]? = some d := by rw [x2, hq]; rfl
        rw [hq] at g3 g4 h2
        simp only [yg, k36 d, run_done, run_fail, run_ask, run_opt, run_inl, run_inr, Option.bind_some, apart_b, apart_i, apart_s]
        by_cases hd : d = 36
        · have hoff : offS (d :: w) = w := by unfold offS; rw [if_pos (by rw [hd]; rfl)]; rfl
          rw [hoff] at h2 ⊢
          have e36 : (some d == some (36 : UInt8)) = true := by rw [hd]; rfl
          simp only [List.tail_cons] at g4
          simp only [e36, g4, h2, List.head?_cons, run_done, run_fail, run_ask, run_opt, run_inl, run_inr, Option.bind_some, apart_b, apart_i, apart_s]
          generalize l1I w 2 = q at *
          obtain ⟨x, ok⟩ := q
          cases ok <;> cases hk : okRef (rcol ⟨(lettersS (offS s.toList)).toArray⟩) x <;> simp [hz, hsz, hs1, y0, y1, zn, sn, yn, yn2, yn3, yn4]
        · have hoff : offS (d :: w) = d :: w := by unfold offS; rw [if_neg (by simpa using hd)]
          rw [hoff] at h2 ⊢
          have e36 : (some d == some (36 : UInt8)) = false := by simpa using hd
          simp only [e36, g3, h2, List.head?_cons, run_done, run_fail, run_ask, run_opt, run_inl, run_inr, Option.bind_some, apart_b, apart_i, apart_s]
          generalize l1I (d :: w) 2 = q at *
          obtain ⟨x, ok⟩ := q
          cases ok <;> cases hk : okRef (rcol ⟨(lettersS (offS s.toList)).toArray⟩) x <;> simp [hz, hsz, hs1, y0, y1, zn, sn, yn, yn2, yn3, yn4]
    · by_cases hs0 : (b.size : Int) > 0
      · obtain ⟨c, r, hcr⟩ : ∃ c r, b.toList = c :: r := by
          cases hq : b.toList with
          | nil => rw [ba_len, hq] at hs0; simp at hs0
          | cons a l => exact ⟨a, l, rfl⟩
        have hg : b.toList[0]? = some c := by rw [hcr]; rfl
        have hc := hno c r hcr
        have hsz : (b.size : Int) > 0 := hs0
        have hs1 : (1 : Int) ≤ b.size := by omega
        have zn : (lettersS (offS b.toList)).length ≤ b.size := by omega
        have sn : 0 < b.size := by omega
        simp only [T_spec_ReadPlace, run_done, run_fail, run_ask, run_opt, run_inl, run_inr, Option.bind_some, apart_b, apart_i, apart_s, Int.toNat_natCast, e0, e1, hg, k36 c, hc, g1, g2]
        cases hq : behindS (offS b.toList) with
        | nil =>
          have y0 : (b.extract (lettersS (offS b.toList)).length b.size).size = 0 := by rw [ba_len, x2, hq]; rfl
          have hoff : offS (behindS (offS b.toList)) = [] := by rw [hq]; rfl
          rw [hoff] at h2
          rw [hq] at g3
          simp only [y0, g3, h2, run_done, run_fail, run_ask, run_opt, run_inl, run_inr, Option.bind_some, apart_b, apart_i, apart_s]
          have hoff' : offS ([] : List UInt8) = [] := rfl
          rw [hoff']
          generalize l1I ([] : List UInt8) 2 = q at *
          obtain ⟨x, ok⟩ := q
          cases ok <;> cases hk : okRef (rcol ⟨(lettersS (offS b.toList)).toArray⟩) x <;> simp [hz, hsz, hs1, zn, sn]
        | cons d w =>
          have y0 : ((b.extract (lettersS (offS b.toList)).length b.size).size : Int) > 0 := by rw [ba_len, x2, hq]; simp <;> omega
          have y1 : (1 : Int) ≤ (b.extract (lettersS (offS b.toList)).length b.size).size := by omega
          have ys : (b.extract (lettersS (offS b.toList)).length b.size).size = b.size - (lettersS (offS b.toList)).length := by rw [ba_len, ext_drop, List.length_drop, ← ba_len]
          have yn : (lettersS (offS b.toList)).length < b.size := by omega
          have yn2 : 1 ≤ b.size - (lettersS (offS b.toList)).length := by omega
          have yn3 : 0 < b.size - (lettersS (offS b.toList)).length := by omega
          have yn4 : (1 : Int) ≤ ((b.size - (lettersS (offS b.toList)).length : Nat) : Int) := by omega
          have yg : (b.extract (lettersS (offS b.toList)).length b.size).toList[0]? = some d := by rw [x2, hq]; rfl
          rw [hq] at g3 g4 h2
          simp only [yg, k36 d, run_done, run_fail, run_ask, run_opt, run_inl, run_inr, Option.bind_some, apart_b, apart_i, apart_s]
          by_cases hd : d = 36
          · have hoff : offS (d :: w) = w := by unfold offS; rw [if_pos (by rw [hd]; rfl)]; rfl
            rw [hoff] at h2 ⊢
            have e36 : (some d == some (36 : UInt8)) = true := by rw [hd]; rfl
            simp only [List.tail_cons] at g4
            simp only [e36, g4, h2, List.head?_cons, run_done, run_fail, run_ask, run_opt, run_inl, run_inr, Option.bind_some, apart_b, apart_i, apart_s]
            generalize l1I w 2 = q at *
            obtain ⟨x, ok⟩ := q
            cases ok <;> cases hk : okRef (rcol ⟨(lettersS (offS b.toList)).toArray⟩) x <;> simp [hz, hsz, hs1, y0, y1, zn, sn, yn, yn2, yn3, yn4]
          · have hoff : offS (d :: w) = d :: w := by unfold offS; rw [if_neg (by simpa using hd)]
            rw [hoff] at h2 ⊢
            have e36 : (some d == some (36 : UInt8)) = false := by simpa using hd
            simp only [e36, g3, h2, List.head?_cons, run_done, run_fail, run_ask, run_opt, run_inl, run_inr, Option.bind_some, apart_b, apart_i, apart_s]
            generalize l1I (d :: w) 2 = q at *
            obtain ⟨x, ok⟩ := q
            cases ok <;> cases hk : okRef (rcol ⟨(lettersS (offS b.toList)).toArray⟩) x <;> simp [hz, hsz, hs1, y0, y1, zn, sn, yn, yn2, yn3, yn4]
      · have hsz : ¬ (b.size : Int) > 0 := hs0
        have hs1 : True := trivial
        have zn : (lettersS (offS b.toList)).length ≤ b.size := by omega
        have sn : b.size = 0 := by omega
        have lb : b.toList = [] := List.eq_nil_of_length_eq_zero (by rw [← ba_len]; omega)
        have hb0 : behindS (offS b.toList) = [] := by rw [lb]; rfl
        have ln : lettersS (offS b.toList) = [] := by rw [lb]; rfl
        simp only [T_spec_ReadPlace, run_done, run_fail, run_ask, run_opt, run_inl, run_inr, Option.bind_some, apart_b, apart_i, apart_s, Int.toNat_natCast, e0, e1, g1, g2]
        cases hq : behindS (offS b.toList) with
        | nil =>
          have y0 : (b.extract (lettersS (offS b.toList)).length b.size).size = 0 := by rw [ba_len, x2, hq]; rfl
          have hoff : offS (behindS (offS b.toList)) = [] := by rw [hq]; rfl
          rw [hoff] at h2
          rw [hq] at g3
          simp only [y0, g3, h2, run_done, run_fail, run_ask, run_opt, run_inl, run_inr, Option.bind_some, apart_b, apart_i, apart_s]
          have hoff' : offS ([] : List UInt8) = [] := rfl
          rw [hoff']
          generalize l1I ([] : List UInt8) 2 = q at *
          obtain ⟨x, ok⟩ := q
          cases ok <;> cases hk : okRef (rcol ⟨(lettersS (offS b.toList)).toArray⟩) x <;> simp [hz, hsz, hs1, zn, sn, ln]
        | cons d w => rw [hb0] at hq; cases hq
  by_cases h36 : s.toList.head? = some 36
  · have ho : offS s.toList = s.toList.tail := by unfold offS; rw [if_pos h36]
    have ht : (s.extract 1 s.size).toList = s.toList.tail := by rw [ext_drop, List.drop_one]
    obtain ⟨c, r, hcr⟩ : ∃ c r, s.toList = c :: r := by
      cases hq : s.toList with
      | nil => rw [hq] at h36; cases h36
      | cons a l => exact ⟨a, l, rfl⟩
    refine part (s.extract 1 s.size) true (by rw [ba_len, ht, List.length_tail, ← ba_len]; omega) (by rw [ht, ho]) (by rw [h36]; rfl) (.inl ⟨rfl, rfl, c, r, hcr, ?_⟩)
    rw [hcr] at h36
    simpa using h36
  · have ho : offS s.toList = s.toList := by unfold offS; rw [if_neg h36]
    refine part s false hb ho.symm (by symm; simpa using h36) (.inr ⟨rfl, rfl, fun c r hcr => ?_⟩)
    rw [hcr] at h36
    simpa using h36
def upS : ByteArray := ⟨#[65, 66, 67, 68, 69, 70, 71, 72, 73, 74, 75, 76, 77, 78, 79, 80, 81, 82, 83, 84, 85, 86, 87, 88, 89, 90]⟩
theorem up_fin : ∀ i : Fin 256, (upS.data.toList.contains (UInt8.ofNat i.val)) = (decide (65 ≤ i.val) && decide (i.val ≤ 90)) := by decide +kernel
theorem up_is (c : UInt8) : (upS.data.toList.contains c) = isUp c := by
  have h := up_fin ⟨c.toNat, UInt8.toNat_lt c⟩
  have e : UInt8.ofNat c.toNat = c := by simp
  simp only [e] at h
  exact h
theorem up_ascii : (upS.data.toList.all fun b => decide (b.toNat < 128)) = true := by decide +kernel
theorem ev_TrimLeft (s : ByteArray) : Ev (F_strings_TrimLeft · s ⟨#[65, 66, 67, 68, 69, 70, 71, 72, 73, 74, 75, 76, 77, 78, 79, 80, 81, 82, 83, 84, 85, 86, 87, 88, 89, 90]⟩) ⟨(behindS s.toList).toArray⟩ := by
  refine ⟨1, fun n hn => ?_⟩
  obtain ⟨m, rfl, hm⟩ := up1 hn
  show L_strings_TrimLeft s upS = _
  unfold L_strings_TrimLeft
  rw [if_pos ⟨by decide, up_ascii⟩]
  unfold Lib.trimLeftS behindS
  rw [Go.Lib.toList_data]
  have : (fun c => upS.data.toList.contains c) = isUp := funext up_is
  rw [this]
theorem off_tail (l : List UInt8) : (if l.head? = some 36 then l.tail else l) = offS l := rfl
theorem ev_cut36 (s : ByteArray) : Ev (F_strings_CutPrefix · s ⟨#[36]⟩) (⟨(offS s.toList).toArray⟩, s.toList.head? == some 36) := by
  have h := ev_CutPrefix s 36
  have es : (⟨s.toList.toArray⟩ : ByteArray) = s := ba_eqL (toList_mk s.toList)
  by_cases e : s.toList.head? = some 36
  · rw [if_pos e] at h
    have : (s.toList.head? == some 36) = true := by simpa using e
    unfold offS
    rw [if_pos e, this]
    exact h
  · rw [if_neg e] at h
    have : (s.toList.head? == some 36) = false := by simpa using e
    unfold offS
    rw [if_neg e, this, es]
    exact h
theorem itoa_99 {r : Int} (h : 1 ≤ r ∧ r ≤ 99) : l1I (Lib.itoa r) 2 = (r, true) := by
  have e : Lib.itoa r = Lib.decDigits r.toNat := by unfold Lib.itoa; rw [if_neg (by omega)]
  obtain ⟨h1, h2, h3, _, _⟩ := dec_props r.toNat
  have hl : (Lib.decDigits r.toNat).length ≤ 2 := by
    rw [Lib.decDigits_length]
    exact nd_le 2 r.toNat (by omega) (by have : (10 : Nat) ^ 2 = 100 := by decide
                                         omega)
  rw [e]
  unfold l1I
  rw [if_pos ⟨by omega, dec_canon _⟩, h2]
  congr 1
  omega
theorem l1I_2 {l : List UInt8} (h : (l1I l 2).2 = true) : (l1I l 2).1 = (dvalN 0 l : Int) ∧ Lib.decDigits (dvalN 0 l) = l := by
  unfold l1I at h ⊢
  split at h
  · rename_i hc
    rw [if_pos hc]
    exact ⟨rfl, canon_dec _ l rfl hc.2⟩
  · cases h
/-- what is read is the text's own place -/
theorem readP_eq (s : ByteArray) : readP s = if okRef (rcol ⟨(lettersS (offS s.toList)).toArray⟩) (parseN ⟨(offS (behindS (offS s.toList))).toArray⟩) = true ∧
    (placeS (rcol ⟨(lettersS (offS s.toList)).toArray⟩) (parseN ⟨(offS (behindS (offS s.toList))).toArray⟩) (s.toList.head? == some 36) ((behindS (offS s.toList)).head? == some 36)).toList = s.toList then
      (rcol ⟨(lettersS (offS s.toList)).toArray⟩, parseN ⟨(offS (behindS (offS s.toList))).toArray⟩, s.toList.head? == some 36, (behindS (offS s.toList)).head? == some 36, true) else (0, 0, false, false, false) := by
  have hoff : ∀ l : List UInt8, l = (if (l.head? == some 36) = true then [36] else []) ++ offS l := fun l => by
    unfold offS
    cases l with
    | nil => rfl
    | cons c r =>
      by_cases e : c = 36
      · subst e; simp
      · simp [e]
  have hsplit : offS s.toList = lettersS (offS s.toList) ++ behindS (offS s.toList) := (List.takeWhile_append_dropWhile (p := isUp) (l := offS s.toList)).symm
  have hs : s.toList = (if (s.toList.head? == some 36) = true then [36] else []) ++ lettersS (offS s.toList) ++ (if ((behindS (offS s.toList)).head? == some 36) = true then [36] else []) ++ offS (behindS (offS s.toList)) := by
    conv => lhs; rw [hoff s.toList, hsplit, hoff (behindS (offS s.toList))]
    simp only [List.append_assoc]
  unfold readP
  generalize hL : lettersS (offS s.toList) = L at *
  generalize hR : offS (behindS (offS s.toList)) = R at *
  generalize (s.toList.head? == some 36) = fc at *
  generalize ((behindS (offS s.toList)).head? == some 36) = fr at *
  have col : ∀ r, okRef (rcol ⟨L.toArray⟩) r = true → (colS (rcol ⟨L.toArray⟩)).data.toList = L := fun r h => by
    have := rcK_in (⟨L.toArray⟩ : ByteArray) 52 1 (okRef_in h).1.1
    rw [toList_mk L, Go.Lib.toList_data] at this
    exact this
  have pl : ∀ r, okRef (rcol ⟨L.toArray⟩) r = true → (placeS (rcol ⟨L.toArray⟩) r fc fr).toList = (if fc = true then [36] else []) ++ L ++ (if fr = true then [36] else []) ++ Lib.itoa r := fun r h => by
    rw [Go.Lib.toList_data]
    unfold placeS
    rw [if_pos h, col r h]
    simp [decS]
  have tR : (⟨R.toArray⟩ : ByteArray).toList = R := toList_mk R
  by_cases hA : (l1I R 2).2 = true ∧ okRef (rcol ⟨L.toArray⟩) (l1I R 2).1 = true
  · obtain ⟨a1, a2⟩ := l1I_2 hA.1
    have hr := (okRef_in hA.2).2
    have hi : R = Lib.itoa (l1I R 2).1 := by
      rw [a1]
      unfold Lib.itoa
      rw [if_neg (by omega), Int.toNat_natCast, a2]
    have hp : parseN ⟨R.toArray⟩ = (l1I R 2).1 := parseN_itoa (by rw [tR]; exact hi) (by omega)
    rw [if_pos hA, hp, if_pos ⟨hA.2, by rw [pl _ hA.2, ← hi]; exact hs.symm⟩]
  · rw [if_neg hA, if_neg]
    rintro ⟨h1, h2⟩
    rw [pl _ h1] at h2
    have h3 : R = Lib.itoa (parseN ⟨R.toArray⟩) := by
      rw [hs] at h2
      exact (List.append_cancel_left h2).symm
    have h4 := itoa_99 (okRef_in h1).2
    rw [← h3] at h4
    exact hA (by rw [h4]; exact ⟨rfl, h1⟩)
theorem ev_impl_ReadPlace (s : ByteArray) (hb : s.size ≤ 1048576) : Ev (F_impl_ReadPlace · s) (readP s) := by
  rw [readP_eq]
  have hlen := letters_len (offS s.toList)
  have lo : (offS s.toList).length ≤ s.size := by
    unfold offS
    rw [ba_len]
    split
    · rw [List.length_tail]; omega
    · exact Nat.le_refl _
  have l2 : (behindS (offS s.toList)).length + (lettersS (offS s.toList)).length = (offS s.toList).length := by
    have h := congrArg List.length (List.takeWhile_append_dropWhile (p := isUp) (l := offS s.toList))
    rw [List.length_append] at h
    unfold behindS lettersS
    omega
  have z1 : (⟨(offS s.toList).toArray⟩ : ByteArray).size = (offS s.toList).length := by rw [ba_len, toList_mk (offS s.toList)]
  have z2 : (⟨(behindS (offS s.toList)).toArray⟩ : ByteArray).size = (behindS (offS s.toList)).length := by rw [ba_len, toList_mk (behindS (offS s.toList))]
  have w1 : IntKind.i64.wrap (((offS s.toList).length : Int) - (behindS (offS s.toList)).length) = ((lettersS (offS s.toList)).length : Int) := by rw [wrap64 (by omega)]; omega
  have x1 : (⟨(offS s.toList).toArray⟩ : ByteArray).extract 0 (lettersS (offS s.toList)).length = ⟨(lettersS (offS s.toList)).toArray⟩ := ba_eqL (by rw [ext_take, toList_mk (offS s.toList), take_letters, toList_mk (lettersS (offS s.toList))])
  have x2 : (⟨(offS s.toList).toArray⟩ : ByteArray).extract (lettersS (offS s.toList)).length (offS s.toList).length = ⟨(behindS (offS s.toList)).toArray⟩ := ba_eqL (by rw [← z1, ext_drop, toList_mk (offS s.toList), drop_letters, toList_mk (behindS (offS s.toList))])
  have lr : (⟨(offS (behindS (offS s.toList))).toArray⟩ : ByteArray).size ≤ 281474976710656 := by
    rw [ba_len, toList_mk (offS (behindS (offS s.toList)))]
    have : (offS (behindS (offS s.toList))).length ≤ (behindS (offS s.toList)).length := by
      generalize behindS (offS s.toList) = q
      unfold offS
      split
      · rw [List.length_tail]; omega
      · exact Nat.le_refl _
    omega
  obtain ⟨n1, h1⟩ := ev_cut36 s
  obtain ⟨n2, h2⟩ := ev_TrimLeft ⟨(offS s.toList).toArray⟩
  rw [toList_mk (offS s.toList)] at h2
  obtain ⟨n3, h3⟩ := ev_impl_ReadCol ⟨(lettersS (offS s.toList)).toArray⟩
  obtain ⟨n4, h4⟩ := ev_cut36 ⟨(behindS (offS s.toList)).toArray⟩
  rw [toList_mk (behindS (offS s.toList))] at h4
  generalize offS s.toList = A at *
  generalize behindS A = Bq at *
  generalize lettersS A = L at *
  generalize offS Bq = R at *
  generalize (s.toList.head? == some 36) = fc at *
  generalize (Bq.head? == some 36) = fr at *
  obtain ⟨n5, h5⟩ := ev_impl_RefOk (rcol ⟨L.toArray⟩) (parseN ⟨R.toArray⟩)
  obtain ⟨n6, h6⟩ := ev_impl_PlaceText (rcol ⟨L.toArray⟩) (parseN ⟨R.toArray⟩) fc fr
  have e0 : (0 : Int).toNat = 0 := rfl
  have c1 : L.length ≤ A.length := by omega
  rcases ev_ParseInt ⟨R.toArray⟩ lr with ⟨n7, h7⟩ | ⟨n7, h7⟩
  all_goals
    refine ⟨n1 + n2 + n3 + n4 + n5 + n6 + n7 + 1, fun n hn => ?_⟩
    obtain ⟨m, rfl, hm⟩ := up1 hn
    have h1 := h1 m (by omega)
    have h2 := h2 m (by omega)
    have h3 := h3 m (by omega)
    have h4 := h4 m (by omega)
    have h5 := h5 m (by omega)
    have h6 := h6 m (by omega)
    have h7 := h7 m (by omega)
    dsimp only at h1 h2 h3 h4 h5 h6 h7
    simp only [F_impl_ReadPlace, T_impl_ReadPlace, run_done, run_fail, run_ask, run_opt, run_inl, run_inr, Option.bind_some, apart_b, apart_i, apart_s, h1, h2, z1, z2, w1, Int.toNat_natCast, e0, x1, x2, h3, h4, h5, h6, h7]
    cases hk : okRef (rcol ⟨L.toArray⟩) (parseN ⟨R.toArray⟩) with
    | false => simp [c1]
    | true => by_cases e : (placeS (rcol ⟨L.toArray⟩) (parseN ⟨R.toArray⟩) fc fr).toList = s.toList <;> simp [c1, e]
theorem dr_below1 {l : List (List PV)} {p : Int} (k : Int) (hk : 1 ≤ k ∧ k ≤ 256) (hl : RdOk l) (hp : 0 ≤ p ∧ p ≤ l.length) : ∃ (a p' : Int), (0 ≤ p' ∧ p' ≤ l.length) ∧ (0 ≤ a ∧ a < k) ∧ ∀ n, 2 ≤ n → F_spec_l1Rd_below n k l p = some (a, l, p') := by
  by_cases h : k = 1
  · subst h
    refine ⟨0, p, hp, by decide, fun n hn => ?_⟩
    obtain ⟨m, rfl, hm⟩ := up1 hn
    simp [F_spec_l1Rd_below, T_spec_l1Rd_below, run_done, run_fail, run_ask, run_opt, run_inl, run_inr, Option.bind_some, apart_b, apart_i, apart_s]
  · exact dr_below k (by omega) hl hp
theorem bytes_app : ∀ {rows : List (List PV)} {bl : List UInt8} (a : Int), bytesOf rows = some bl → ∃ c, bytesOf (rows ++ [[.i .u8 a]]) = some (bl ++ [c])
  | [], bl, a, h => by
    simp only [bytesOf, Option.some.injEq] at h
    subst h
    exact ⟨_, rfl⟩
  | r :: rows, bl, a, h => by
    unfold bytesOf at h
    split at h
    · rename_i heq
      cases heq
    · rename_i x rs heq
      cases heq
      obtain ⟨q, hq, rfl⟩ := Option.map_eq_some_iff.1 h
      obtain ⟨c, hc⟩ := bytes_app a hq
      refine ⟨c, ?_⟩
      simp only [List.cons_append, bytesOf, hc, Option.map_some]
    · cases h
theorem bytes_len : ∀ {rows : List (List PV)} {bl : List UInt8}, bytesOf rows = some bl → bl.length = rows.length
  | [], bl, h => by
    simp only [bytesOf, Option.some.injEq] at h
    subst h
    rfl
  | r :: rows, bl, h => by
    unfold bytesOf at h
    split at h
    · rename_i heq
      cases heq
    · rename_i x rs heq
      cases heq
      obtain ⟨q, hq, rfl⟩ := Option.map_eq_some_iff.1 h
      simp [bytes_len hq]
    · cases h
theorem bytes_loop {l : List (List PV)} (hl : RdOk l) : ∀ (m : Nat) (rows : List (List PV)) (bl : List UInt8) (p : Int), bytesOf rows = some bl → rows.length + m ≤ 1000 → (0 ≤ p ∧ p ≤ l.length) → ∃ (rows' : List (List PV)) (bl' : List UInt8) (p' : Int), (0 ≤ p' ∧ p' ≤ l.length) ∧ bytesOf rows' = some bl' ∧ rows'.length = rows.length + m ∧ ∀ n M, 2 ≤ n → m + 1 ≤ M → loopF (B_spec_l1Rd_bytes_29 n) M (rows.length, (m : Int), rows, l, p) = some (rows'.length, rows', l, p')
  | 0, rows, bl, p, hb, hr, hp => by
    refine ⟨rows, bl, p, hp, hb, rfl, fun n M hn hM => ?_⟩
    obtain ⟨M, rfl⟩ : ∃ q, M = q + 1 := ⟨M - 1, by omega⟩
    rw [loopF_inr (r := (rows.length, rows, l, p)) (by simp [B_spec_l1Rd_bytes_29, run_done, run_fail, run_ask, run_opt, run_inl, run_inr, Option.bind_some, apart_b, apart_i, apart_s])]
  | m + 1, rows, bl, p, hb, hr, hp => by
    obtain ⟨a, p1, h1, h2, h3⟩ := dr_below 256 (by decide) hl hp
    obtain ⟨c, hc⟩ := bytes_app (IntKind.u8.wrap a) hb
    obtain ⟨rows', bl', p2, h4, h5, h6, h7⟩ := bytes_loop hl m (rows ++ [[.i .u8 (IntKind.u8.wrap a)]]) _ p1 hc (by simp; omega) h1
    refine ⟨rows', bl', p2, h4, h5, by rw [h6]; simp; omega, fun n M hn hM => ?_⟩
    obtain ⟨M, rfl⟩ : ∃ q, M = q + 1 := ⟨M - 1, by omega⟩
    have h3 := h3 n hn
    have w1 : IntKind.i64.wrap (((m + 1 : Nat) : Int) - 1) = (m : Int) := by rw [wrap64 (by omega)]; omega
    have h8 := h7 n M hn (by omega)
    have e : (rows ++ [[PV.i .u8 (IntKind.u8.wrap a)]]).length = rows.length + 1 := by simp
    rw [e] at h8
    rw [loopF_inl (v' := (rows.length + 1, (m : Int), rows ++ [[PV.i .u8 (IntKind.u8.wrap a)]], l, p1)) (by
      have g1 : ((m + 1 : Nat) : Int) > 0 := by omega
      have g2 : rows.length + 1 ≤ 140737488355328 := by omega
      simp only [B_spec_l1Rd_bytes_29, run_done, run_fail, run_ask, run_opt, run_inl, run_inr, Option.bind_some, apart_b, apart_i, apart_s, h3, w1]
      simp [g1, g2])]
    exact h8
theorem dr_bytes {l : List (List PV)} {p : Int} (k : Nat) (hk : 1 ≤ k ∧ k ≤ 200) (hl : RdOk l) (hp : 0 ≤ p ∧ p ≤ l.length) : ∃ (t : ByteArray) (p' : Int), (0 ≤ p' ∧ p' ≤ l.length) ∧ t.size ≤ k ∧ ∀ n, k + 5 ≤ n → F_spec_l1Rd_bytes n (k : Int) l p = some (t, l, p') := by
  obtain ⟨a, p1, h1, h2, h3⟩ := dr_below ((k : Int) + 1) (by omega) hl hp
  obtain ⟨rows, bl, p2, h4, h5, h6, h7⟩ := bytes_loop hl a.toNat [] [] p1 rfl (by simp; omega) h1
  refine ⟨⟨bl.toArray⟩, p2, h4, ?_, fun n hn => ?_⟩
  · have := bytes_len h5
    show bl.toArray.size ≤ k
    simp at h6
    simp
    omega
  · obtain ⟨m, rfl, hm⟩ := up1 (n0 := k + 4) hn
    have h3 := h3 m (by omega)
    have h7 := h7 m m (by omega) (by omega)
    have w1 : IntKind.i64.wrap ((k : Int) + 1) = (k : Int) + 1 := wrap64 (by omega)
    have e : ((a.toNat : Nat) : Int) = a := by omega
    rw [e] at h7
    simp only [List.length_nil] at h7
    simp [F_spec_l1Rd_bytes, T_spec_l1Rd_bytes, run_done, run_fail, run_ask, run_opt, run_inl, run_inr, Option.bind_some, apart_b, apart_i, apart_s, h3, h7, w1, h5]
theorem dr_hurt {l : List (List PV)} {p : Int} (s : ByteArray) (hs : s.size ≤ 200) (hl : RdOk l) (hp : 0 ≤ p ∧ p ≤ l.length) : ∃ (t : ByteArray) (p' : Int), (0 ≤ p' ∧ p' ≤ l.length) ∧ t.size ≤ s.size + 10 ∧ ∀ n, 10 ≤ n → F_spec_l1Rd_hurt n s l p = some (t, l, p') := by
  have ex : ∀ a b : Nat, a ≤ b → b ≤ s.size → (s.extract a b).size = b - a := fun a b h1 h2 => by
    rw [ByteArray.size_extract]; omega
  obtain ⟨a, p1, h1, h2, h3⟩ := dr_below 6 (by decide) hl hp
  have c : a = 0 ∨ a = 1 ∨ a = 2 ∨ (a = 3 ∨ a = 4 ∨ a = 5) := by omega
  rcases c with rfl | rfl | rfl | c
  · obtain ⟨t, p2, h4, h5, h6⟩ := dr_bytes 2 (by decide) hl h1
    refine ⟨s ++ t, p2, h4, by rw [ByteArray.size_append]; omega, fun n hn => ?_⟩
    obtain ⟨m, rfl, hm⟩ := up1 hn
    have h3 := h3 m (by omega)
    have h6 := h6 m (by omega)
    have z : s.size + t.size ≤ 9223372036854775807 := by omega
    have h6 : F_spec_l1Rd_bytes m 2 l p1 = some (t, l, p2) := h6
    simp [F_spec_l1Rd_hurt, T_spec_l1Rd_hurt, run_done, run_fail, run_ask, run_opt, run_inl, run_inr, Option.bind_some, apart_b, apart_i, apart_s, h3, h6, z]
  · obtain ⟨b, p2, h4, h5, h6⟩ := dr_below1 ((s.size : Int) + 1) (by omega) hl h1
    refine ⟨s.extract 0 b.toNat, p2, h4, by rw [ex _ _ (by omega) (by omega)]; omega, fun n hn => ?_⟩
    obtain ⟨m, rfl, hm⟩ := up1 hn
    have h3 := h3 m (by omega)
    have h6 := h6 m (by omega)
    have w1 : IntKind.i64.wrap ((s.size : Int) + 1) = (s.size : Int) + 1 := wrap64 (by omega)
    have z : b ≤ s.size := by omega
    simp [F_spec_l1Rd_hurt, T_spec_l1Rd_hurt, run_done, run_fail, run_ask, run_opt, run_inl, run_inr, Option.bind_some, apart_b, apart_i, apart_s, h3, h6, w1, z, h5.1]
  · by_cases h0 : (s.size : Int) > 0
    · obtain ⟨b, p2, h4, h5, h6⟩ := dr_below1 (s.size : Int) (by omega) hl h1
      obtain ⟨d, p3, h7, h8, h9⟩ := dr_below 6 (by decide) hl h4
      have c : d = 0 ∨ d = 1 ∨ d = 2 ∨ d = 3 ∨ d = 4 ∨ d = 5 := by omega
      have key : ∀ u : ByteArray, u.size = 1 → (([[(.s (⟨#[65]⟩ : ByteArray))], [(.s (⟨#[49]⟩ : ByteArray))], [(.s (⟨#[40]⟩ : ByteArray))], [(.s (⟨#[44]⟩ : ByteArray))], [(.s (⟨#[34]⟩ : ByteArray))], [(.s (⟨#[32]⟩ : ByteArray))]] : List (List PV))[d.toNat]? = some [.s u]) → ∃ (t : ByteArray) (p' : Int), (0 ≤ p' ∧ p' ≤ l.length) ∧ t.size ≤ s.size + 10 ∧ ∀ n, 10 ≤ n → F_spec_l1Rd_hurt n s l p = some (t, l, p') := fun u hu hg => by
        have z1 := ex 0 b.toNat (by omega) (by omega)
        have z2 := ex (b + 1).toNat s.size (by omega) (by omega)
        refine ⟨(s.extract 0 b.toNat ++ u) ++ s.extract (b + 1).toNat s.size, p3, h7, by rw [ByteArray.size_append, ByteArray.size_append]; omega, fun n hn => ?_⟩
        obtain ⟨m, rfl, hm⟩ := up1 hn
        have h3 := h3 m (by omega)
        have h6 := h6 m (by omega)
        have h9 := h9 m (by omega)
        have w1 : IntKind.i64.wrap (b + 1) = b + 1 := wrap64 (by omega)
        have y1 : (0 : Int) ≤ (0 : Int) ∧ (0 : Int) ≤ b ∧ b ≤ s.size := by omega
        have y2 : 0 ≤ b + 1 ∧ b + 1 ≤ (s.size : Int) ∧ (s.size : Int) ≤ s.size := by omega
        have y3 : 0 ≤ d ∧ d < 6 := h8
        have y4 : (s.extract 0 b.toNat).size + u.size ≤ 9223372036854775807 := by omega
        have y5 : (s.extract 0 b.toNat ++ u).size + (s.extract (b + 1).toNat s.size).size ≤ 9223372036854775807 := by rw [ByteArray.size_append]; omega
        have e0 : ((0 : Int)).toNat = 0 := rfl
        have e1 : ((s.size : Int)).toNat = s.size := Int.toNat_natCast _
        simp only [F_spec_l1Rd_hurt, T_spec_l1Rd_hurt, run_done, run_fail, run_ask, run_opt, run_inl, run_inr, Option.bind_some, apart_b, apart_i, apart_s, h3, h6, h9, w1, hg, e0, e1, decide_eq_true h0, decide_eq_true y1, decide_eq_true y2, cellS, List.getElem?_cons_zero, decide_eq_true y4, decide_eq_true y5]
        simp [y3]
      rcases c with rfl | rfl | rfl | rfl | rfl | rfl
      · exact key _ (by decide) rfl
      · exact key _ (by decide) rfl
      · exact key _ (by decide) rfl
      · exact key _ (by decide) rfl
      · exact key _ (by decide) rfl
      · exact key _ (by decide) rfl
    · refine ⟨s, p1, h1, by omega, fun n hn => ?_⟩
      obtain ⟨m, rfl, hm⟩ := up1 hn
      have h3 := h3 m (by omega)
      have h0' : s.size = 0 := by omega
      simp [F_spec_l1Rd_hurt, T_spec_l1Rd_hurt, run_done, run_fail, run_ask, run_opt, run_inl, run_inr, Option.bind_some, apart_b, apart_i, apart_s, h3, h0']
  · refine ⟨s, p1, h1, by omega, fun n hn => ?_⟩
    obtain ⟨m, rfl, hm⟩ := up1 hn
    have h3 := h3 m (by omega)
    rcases c with rfl | rfl | rfl <;> simp [F_spec_l1Rd_hurt, T_spec_l1Rd_hurt, run_done, run_fail, run_ask, run_opt, run_inl, run_inr, Option.bind_some, apart_b, apart_i, apart_s, h3]
theorem dr_place {l : List (List PV)} {p : Int} (hl : RdOk l) (hp : 0 ≤ p ∧ p ≤ l.length) : ∃ (c r : Int) (fc fr : Bool) (p' : Int), (0 ≤ p' ∧ p' ≤ l.length) ∧ ∀ n, 14 ≤ n → F_spec_l1Rd_place n l p = some (c, r, fc, fr, l, p') := by
  obtain ⟨a, b, p1, h1, h2⟩ := dr_ref hl hp
  obtain ⟨fc, p2, h3, h4⟩ := dr_once 4 (by decide) hl h1
  obtain ⟨fr, p3, h5, h6⟩ := dr_once 4 (by decide) hl h3
  obtain ⟨o, p4, h7, h8⟩ := dr_once 20 (by decide) hl h5
  cases o with
  | true =>
    obtain ⟨c, p5, h9, _, h10⟩ := dr_off 1 52 (by decide) hl h7
    obtain ⟨d, p6, h11, _, h12⟩ := dr_off 1 99 (by decide) hl h9
    refine ⟨c, d, fc, fr, p6, h11, fun n hn => ?_⟩
    obtain ⟨m, rfl, hm⟩ := up1 hn
    simp [F_spec_l1Rd_place, T_spec_l1Rd_place, run_done, run_fail, run_ask, run_opt, run_inl, run_inr, Option.bind_some, apart_b, apart_i, apart_s, h2 m (by omega), h4 m (by omega), h6 m (by omega), h8 m (by omega), h10 m (by omega), h12 m (by omega)]
  | false =>
    refine ⟨a, b, fc, fr, p4, h7, fun n hn => ?_⟩
    obtain ⟨m, rfl, hm⟩ := up1 hn
    simp [F_spec_l1Rd_place, T_spec_l1Rd_place, run_done, run_fail, run_ask, run_opt, run_inl, run_inr, Option.bind_some, apart_b, apart_i, apart_s, h2 m (by omega), h4 m (by omega), h6 m (by omega), h8 m (by omega)]
theorem placeS_size (c r : Int) (fc fr : Bool) : (placeS c r fc fr).size ≤ 30 := by
  unfold placeS
  split
  · rename_i h
    have h1 := colS_size c
    have h2 := decS_size' (okRef_in h).2
    rw [ba_size]
    cases fc <;> cases fr <;> simp <;> omega
  · decide
theorem dr_DrawReadPlace {l : List (List PV)} (hl : RdOk l) : ∃ t : ByteArray, t.size ≤ 100 ∧ Ev (F_spec_DrawReadPlace · l) t := by
  have h0 := dr_open l
  obtain ⟨c, r, fc, fr, p1, h1, h2⟩ := dr_place hl (p := 0) (by omega)
  obtain ⟨n1, hv⟩ := ev_spec_PlaceText c r fc fr
  have hz := placeS_size c r fc fr
  generalize placeS c r fc fr = t at *
  obtain ⟨b, p2, h3, h4⟩ := dr_once 4 (by decide) hl h1
  cases b with
  | true =>
    obtain ⟨u, p3, h5, h6, h7⟩ := dr_hurt t (by omega) hl h3
    refine ⟨u, by omega, n1 + 20, fun n hn => ?_⟩
    obtain ⟨m, rfl, hm⟩ := up1 hn
    have hv := hv m (by omega)
    dsimp only at hv
    simp [F_spec_DrawReadPlace, T_spec_DrawReadPlace, run_done, run_fail, run_ask, run_opt, run_inl, run_inr, Option.bind_some, apart_b, apart_i, apart_s, h0 m (by omega), h2 m (by omega), h4 m (by omega), h7 m (by omega), hv]
  | false =>
    obtain ⟨b, p3, h5, h6⟩ := dr_once 8 (by decide) hl h3
    cases b with
    | false =>
      refine ⟨t, by omega, n1 + 20, fun n hn => ?_⟩
      obtain ⟨m, rfl, hm⟩ := up1 hn
      have hv := hv m (by omega)
      dsimp only at hv
      simp [F_spec_DrawReadPlace, T_spec_DrawReadPlace, run_done, run_fail, run_ask, run_opt, run_inl, run_inr, Option.bind_some, apart_b, apart_i, apart_s, h0 m (by omega), h2 m (by omega), h4 m (by omega), h6 m (by omega), hv]
    | true =>
      obtain ⟨a, p4, h7, h8, h9⟩ := dr_below 9 (by decide) hl h5
      have key : ∀ u : ByteArray, u.size ≤ 10 → (([[(.s (⟨#[65, 48]⟩ : ByteArray))], [(.s (⟨#[65, 48, 49]⟩ : ByteArray))], [(.s (⟨#[65, 49, 48, 48]⟩ : ByteArray))], [(.s (⟨#[66, 65, 49]⟩ : ByteArray))], [(.s (⟨#[36, 65, 36]⟩ : ByteArray))], [(.s (⟨#[65, 36, 49]⟩ : ByteArray))], [(.s (⟨#[49, 65]⟩ : ByteArray))], [(.s (⟨#[65, 49, 36]⟩ : ByteArray))], [(.s (⟨#[36, 36, 65, 49]⟩ : ByteArray))]] : List (List PV))[a.toNat]? = some [.s u]) → ∃ t : ByteArray, t.size ≤ 100 ∧ Ev (F_spec_DrawReadPlace · l) t := fun u hu hg => by
        refine ⟨u, by omega, n1 + 20, fun n hn => ?_⟩
        obtain ⟨m, rfl, hm⟩ := up1 hn
        have hv := hv m (by omega)
        dsimp only at hv
        have h0 := h0 m (by omega)
        have h2 := h2 m (by omega)
        have h4 := h4 m (by omega)
        have h6 := h6 m (by omega)
        have h9 := h9 m (by omega)
        have x9 : 0 ≤ a ∧ a < 9 := h8
        simp only [F_spec_DrawReadPlace, T_spec_DrawReadPlace, run_done, run_fail, run_ask, run_opt, run_inl, run_inr, Option.bind_some, apart_b, apart_i, apart_s, h0, h2, h4, h6, h9, hv, hg]
        simp [cellS, x9]
      have c : a = 0 ∨ a = 1 ∨ a = 2 ∨ a = 3 ∨ a = 4 ∨ a = 5 ∨ a = 6 ∨ a = 7 ∨ a = 8 := by omega
      rcases c with rfl | rfl | rfl | rfl | rfl | rfl | rfl | rfl | rfl
      · exact key _ (by decide) rfl
      · exact key _ (by decide) rfl
      · exact key _ (by decide) rfl
      · exact key _ (by decide) rfl
      · exact key _ (by decide) rfl
      · exact key _ (by decide) rfl
      · exact key _ (by decide) rfl
      · exact key _ (by decide) rfl
      · exact key _ (by decide) rfl
theorem dr_DrawReadCol {l : List (List PV)} (hl : RdOk l) : ∃ t : ByteArray, Ev (F_spec_DrawReadCol · l) t := by
  have h0 := dr_open l
  obtain ⟨a, p1, h1, h2, h3⟩ := dr_below 10 (by decide) hl (p := 0) (by omega)
  have key : ∀ u : ByteArray, (([[(.s (⟨#[65]⟩ : ByteArray))], [(.s (⟨#[90]⟩ : ByteArray))], [(.s (⟨#[65, 65]⟩ : ByteArray))], [(.s (⟨#[65, 90]⟩ : ByteArray))], [(.s (⟨#[66, 65]⟩ : ByteArray))], [(.s (⟨#[]⟩ : ByteArray))], [(.s (⟨#[97]⟩ : ByteArray))], [(.s (⟨#[49]⟩ : ByteArray))], [(.s (⟨#[65, 66, 67]⟩ : ByteArray))], [(.s (⟨#[66]⟩ : ByteArray))]] : List (List PV))[a.toNat]? = some [.s u]) → ∃ t : ByteArray, Ev (F_spec_DrawReadCol · l) t := fun u hg => by
    refine ⟨u, 20, fun n hn => ?_⟩
    obtain ⟨m, rfl, hm⟩ := up1 hn
    have h0 := h0 m (by omega)
    have h3 := h3 m (by omega)
    have x10 : 0 ≤ a ∧ a < 10 := h2
    simp only [F_spec_DrawReadCol, T_spec_DrawReadCol, run_done, run_fail, run_ask, run_opt, run_inl, run_inr, Option.bind_some, apart_b, apart_i, apart_s, h0, h3, hg]
    simp [cellS, x10]
  have c : a = 0 ∨ a = 1 ∨ a = 2 ∨ a = 3 ∨ a = 4 ∨ a = 5 ∨ a = 6 ∨ a = 7 ∨ a = 8 ∨ a = 9 := by omega
  rcases c with rfl | rfl | rfl | rfl | rfl | rfl | rfl | rfl | rfl | rfl <;> exact key _ rfl
theorem rcol_fin : ∀ i : Fin 52, rcol (colS ((i.val : Int) + 1)) = (i.val : Int) + 1 := by decide +kernel
theorem rcol_back {c : Int} (h : 1 ≤ c ∧ c ≤ 52) : rcol (colS c) = c := by
  have := rcol_fin ⟨(c - 1).toNat, by omega⟩
  have e : (((c - 1).toNat : Nat) : Int) + 1 = c := by omega
  simpa only [e] using this
theorem colS_fin : ∀ i : Fin 52, (colS ((i.val : Int) + 1)).data.toList.all isUp = true ∧ (colS ((i.val : Int) + 1)).data.toList.head? ≠ some 36 ∧ (colS ((i.val : Int) + 1)).data.toList ≠ [] := by decide +kernel
theorem colS_up {c : Int} (h : 1 ≤ c ∧ c ≤ 52) : (colS c).data.toList.all isUp = true ∧ (colS c).data.toList.head? ≠ some 36 ∧ (colS c).data.toList ≠ [] := by
  have := colS_fin ⟨(c - 1).toNat, by omega⟩
  have e : (((c - 1).toNat : Nat) : Int) + 1 = c := by omega
  simpa only [e] using this
theorem letters_app {l r : List UInt8} (h : l.all isUp = true) (h2 : ∀ c, r.head? = some c → isUp c = false) : lettersS (l ++ r) = l ∧ behindS (l ++ r) = r := by
  unfold lettersS behindS
  rw [List.all_eq_true] at h
  rw [List.takeWhile_append_of_pos h, List.dropWhile_append_of_pos h]
  cases r with
  | nil => simp
  | cons c r => simp [h2 c rfl]
theorem off_cons (l : List UInt8) : offS (36 :: l) = l := rfl
theorem off_no {l : List UInt8} (h : l.head? ≠ some 36) : offS l = l := by unfold offS; rw [if_neg h]
/-- a right place comes back from its text -/
theorem readP_back {c r : Int} {fc fr : Bool} (h : okRef c r = true) : readP (placeS c r fc fr) = (c, r, fc, fr, true) := by
  obtain ⟨hc, hr⟩ := okRef_in h
  obtain ⟨u1, u2, u3⟩ := colS_up hc
  have ht : (placeS c r fc fr).toList = (if fc = true then [36] else []) ++ ((colS c).data.toList ++ ((if fr = true then [36] else []) ++ Lib.itoa r)) := by
    rw [Go.Lib.toList_data]
    simp [placeS, h, decS]
  have hi : ∃ d w, Lib.itoa r = d :: w ∧ isDig d = true := by
    unfold Lib.itoa
    rw [if_neg (by omega)]
    exact dec_cons _
  obtain ⟨d, w, hdw, hd⟩ := hi
  have hd1 : isUp d = false := by
    simp only [isDig, Bool.and_eq_true, decide_eq_true_eq] at hd
    simp [isUp]; omega
  have hd2 : d ≠ 36 := fun e => by rw [e] at hd; cases hd
  have e1 : offS (placeS c r fc fr).toList = (colS c).data.toList ++ ((if fr = true then [36] else []) ++ Lib.itoa r) := by
    rw [ht]
    cases fc with
    | true => exact off_cons _
    | false =>
      refine off_no ?_
      cases hq : (colS c).data.toList with
      | nil => exact absurd hq u3
      | cons a b => rw [hq] at u2; simpa using u2
  have e2 := letters_app (l := (colS c).data.toList) (r := (if fr = true then [36] else []) ++ Lib.itoa r) u1 (fun q hq => by
    cases fr with
    | true => simp at hq; rw [← hq]; decide
    | false => simp [hdw] at hq; rw [← hq]; exact hd1)
  have e3 : offS ((if fr = true then [36] else []) ++ Lib.itoa r) = Lib.itoa r := by
    cases fr with
    | true => exact off_cons _
    | false => exact off_no (by simp [hdw, hd2])
  unfold readP
  rw [e1, e2.1, e2.2, e3, itoa_99 hr]
  have hm : (⟨((colS c).data.toList).toArray⟩ : ByteArray) = colS c := by simp
  rw [hm, rcol_back hc, if_pos ⟨rfl, h⟩]
  have q1 : ((placeS c r fc fr).toList.head? == some 36) = fc := by
    rw [ht]
    cases fc with
    | true => rfl
    | false =>
      cases hq : (colS c).data.toList with
      | nil => exact absurd hq u3
      | cons a b => rw [hq] at u2; simpa using u2
  have q2 : (((if fr = true then [36] else []) ++ Lib.itoa r).head? == some (36 : UInt8)) = fr := by
    cases fr with
    | true => rfl
    | false => simp [hdw, hd2]
  rw [q1, q2]
theorem readP_empty : readP ⟨#[]⟩ = (0, 0, false, false, false) := by
  unfold readP
  rw [if_neg]
  rw [toList_nil]
  decide
theorem readP_text {s : ByteArray} (h : (readP s).2.2.2.2 = true) : okRef (readP s).1 (readP s).2.1 = true ∧ (placeS (readP s).1 (readP s).2.1 (readP s).2.2.1 (readP s).2.2.2.1).toList = s.toList := by
  rw [readP_eq] at h ⊢
  split at h
  · rename_i hc
    rw [if_pos hc]
    exact hc
  · cases h
theorem law (rows : List (List PV)) (w : rows.length * 1 ≤ 140737488351232 ∧ ∀ r ∈ rows, okR [.i .u8] r) : Ev (F_laws_FnPlaces · rows) true := by
  by_cases hb : (rows.length : Int) > 1048576
  · obtain ⟨n1, h1⟩ := ev_laws_big rows
    refine ⟨n1 + 1, fun n hn => ?_⟩
    obtain ⟨m, rfl, hm⟩ := up1 hn
    have h1 := h1 m (by omega)
    dsimp only at h1
    simp only [F_laws_FnPlaces, T_laws_FnPlaces, run_done, run_fail, run_ask, run_opt, run_inl, run_inr, Option.bind_some, apart_b, apart_i, apart_s, h1]
    simp [hb]
  · have hl := rdOk_of w.2 hb
    have h0 := dr_open rows
    obtain ⟨x, d1⟩ : ∃ x, Ev (F_spec_DrawColText · rows) x := by
      obtain ⟨x, p1, h1, _, h3⟩ := dr_off 1 52 (by decide) hl (p := 0) (by omega)
      refine ⟨x, 20, fun n hn => ?_⟩
      obtain ⟨m, rfl, hm⟩ := up1 hn
      simp [F_spec_DrawColText, T_spec_DrawColText, run_done, run_fail, run_ask, run_opt, run_inl, run_inr, Option.bind_some, apart_b, apart_i, apart_s, h0 m (by omega), h3 m (by omega)]
    obtain ⟨s, d2⟩ := dr_DrawReadCol hl
    obtain ⟨c, r, fc, fr, d3⟩ : ∃ c r fc fr, Ev (F_spec_DrawPlaceText · rows) (c, r, fc, fr) := by
      obtain ⟨c, r, fc, fr, p1, h1, h2⟩ := dr_place hl (p := 0) (by omega)
      refine ⟨c, r, fc, fr, 20, fun n hn => ?_⟩
      obtain ⟨m, rfl, hm⟩ := up1 hn
      simp [F_spec_DrawPlaceText, T_spec_DrawPlaceText, run_done, run_fail, run_ask, run_opt, run_inl, run_inr, Option.bind_some, apart_b, apart_i, apart_s, h0 m (by omega), h2 m (by omega)]
    obtain ⟨u, hu, d4⟩ := dr_DrawReadPlace hl
    have hz := placeS_size c r fc fr
    obtain ⟨n1, h1⟩ := ev_laws_big rows
    obtain ⟨n2, h2⟩ := d1
    obtain ⟨n3, h3⟩ := ev_impl_ColText x
    obtain ⟨n4, h4⟩ := d2
    obtain ⟨n5, h5⟩ := ev_spec_ColText x
    obtain ⟨n6, h6⟩ := ev_impl_ReadCol s
    obtain ⟨n7, h7⟩ := ev_spec_ReadCol s
    obtain ⟨n8, h8⟩ := ev_impl_ReadCol (colS x)
    obtain ⟨n9, h9⟩ := d3
    obtain ⟨n10, h10⟩ := ev_impl_PlaceText c r fc fr
    obtain ⟨n11, h11⟩ := ev_impl_ReadPlace (placeS c r fc fr) (by omega)
    obtain ⟨n12, h12⟩ := ev_spec_PlaceText c r fc fr
    obtain ⟨n13, h13⟩ := ev_impl_RefOk c r
    obtain ⟨n14, h14⟩ := d4
    obtain ⟨n15, h15⟩ := ev_impl_ReadPlace u (by omega)
    obtain ⟨n16, h16⟩ := ev_spec_ReadPlace u (by omega)
    obtain ⟨n17, h17⟩ := ev_impl_PlaceText (readP u).1 (readP u).2.1 (readP u).2.2.1 (readP u).2.2.2.1
    refine ⟨n1 + n2 + n3 + n4 + n5 + n6 + n7 + n8 + n9 + n10 + n11 + n12 + n13 + n14 + n15 + n16 + n17 + 1, fun n hn => ?_⟩
    obtain ⟨m, rfl, hm⟩ := up1 hn
    have h1 := h1 m (by omega)
    dsimp only at h1
    have h2 := h2 m (by omega)
    dsimp only at h2
    have h3 := h3 m (by omega)
    dsimp only at h3
    have h4 := h4 m (by omega)
    dsimp only at h4
    have h5 := h5 m (by omega)
    dsimp only at h5
    have h6 := h6 m (by omega)
    dsimp only at h6
    have h7 := h7 m (by omega)
    dsimp only at h7
    have h8 := h8 m (by omega)
    dsimp only at h8
    have h9 := h9 m (by omega)
    dsimp only at h9
    have h10 := h10 m (by omega)
    dsimp only at h10
    have h11 := h11 m (by omega)
    dsimp only at h11
    have h12 := h12 m (by omega)
    dsimp only at h12
    have h13 := h13 m (by omega)
    dsimp only at h13
    have h14 := h14 m (by omega)
    dsimp only at h14
    have h15 := h15 m (by omega)
    dsimp only at h15
    have h16 := h16 m (by omega)
    dsimp only at h16
    have h17 := h17 m (by omega)
    dsimp only at h17
    simp only [F_laws_FnPlaces, T_laws_FnPlaces, run_done, run_fail, run_ask, run_opt, run_inl, run_inr, Option.bind_some, apart_b, apart_i, apart_s, h1, h2, h3, h4, h5, h6, h7, h8, h9, h10, h11, h12, h13, h14, h15, h16, h17]
    have fin : (if (!(readP u).2.2.2.2) = true then some true else some ((placeS (readP u).1 (readP u).2.1 (readP u).2.2.1 (readP u).2.2.2.1).toList == u.toList)) = some true := by
      cases hq : (readP u).2.2.2.2 with
      | false => rfl
      | true => simp [(readP_text hq).2]
    have hx : (colS x).toList = [] ∨ rcol (colS x) = x := by
      by_cases h : 1 ≤ x ∧ x ≤ 52
      · exact .inr (rcol_back h)
      · left
        unfold colS
        rw [if_pos (by omega)]
        exact toList_nil
    have hp : (readP (placeS c r fc fr)).2.2.2.2 = okRef c r ∧ (okRef c r = true → readP (placeS c r fc fr) = (c, r, fc, fr, true)) := by
      cases ho : okRef c r with
      | true => rw [readP_back ho]; exact ⟨rfl, fun _ => rfl⟩
      | false =>
        have : placeS c r fc fr = ⟨#[]⟩ := by unfold placeS; rw [ho]; rfl
        rw [this, readP_empty]
        exact ⟨rfl, fun h => by cases h⟩
    obtain ⟨hp1, hp2⟩ := hp
    simp only [toList_nil, decide_eq_false hb, beq_self_eq_true, bne_self_eq_false, Bool.not_true, Bool.false_eq_true, if_false, if_true, hp1, fin]
    rcases hx with hx | hx
    · cases ho : okRef c r with
      | true => simp [hx, hp2 ho]
      | false => simp [hx]
    · cases ho : okRef c r with
      | true => simp [hx, hp2 ho]
      | false => simp [hx]
end Go.Proofs.YtaannlnlddbgdabDoor.KFnPlaces
