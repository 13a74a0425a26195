/-
  What the functions that FnExactTurned calls answer, said of their trees. No condition beside those that stand in the statements.
-/
import Derived.Test.YtoodcplobkflfaaTFnExactTurned
import Derived.Test.YtoodcplobkflfaaE32
import Derived.Lib.Strings
namespace Go.Proofs.Ytoodcplobkflfaa.KFnExactTurned
open Go.Eng
set_option linter.unusedVariables false
set_option linter.unusedSimpArgs false
def Ev {R : Type} (F : Nat → Option R) (r : R) : Prop := ∃ n0, ∀ n, n0 ≤ n → F n = some r
theorem tl_len (s : ByteArray) : s.toList.length = s.size := by rw [Go.Lib.toList_data]; rfl
theorem toList_nil : (ByteArray.mk #[]).toList = [] := by decide +kernel
theorem wf64 {x : Int} (h : (Lit.int .i64 x).wf = true) : -9223372036854775808 ≤ x ∧ x ≤ 9223372036854775807 := by
  simp only [Lit.wf, Bool.and_eq_true, decide_eq_true_eq] at h
  have h1 : IntKind.i64.min = -9223372036854775808 := by decide
  have h2 : IntKind.i64.max = 9223372036854775807 := by decide
  omega
theorem wrap64 {x : Int} (h : -9223372036854775808 ≤ x ∧ x ≤ 9223372036854775807) : IntKind.i64.wrap x = x := by
  unfold IntKind.wrap
  have e1 : (2 : Int) ^ (64 - 1) = 9223372036854775808 := by decide
  have e2 : (2 : Int) ^ 64 = 18446744073709551616 := by decide
  simp only [IntKind.signed, IntKind.bits, Bool.true_and, decide_eq_true_eq, e1, e2]
  split <;> omega
theorem wrap64_in (x : Int) : -9223372036854775808 ≤ IntKind.i64.wrap x ∧ IntKind.i64.wrap x ≤ 9223372036854775807 := by
  unfold IntKind.wrap
  have e1 : (2 : Int) ^ (64 - 1) = 9223372036854775808 := by decide
  have e2 : (2 : Int) ^ 64 = 18446744073709551616 := by decide
  simp only [IntKind.signed, IntKind.bits, Bool.true_and, decide_eq_true_eq, e1, e2]
  split <;> omega
theorem get_of_lt {s : ByteArray} {i : Nat} (h : i < s.size) : ∃ c, s.toList[i]? = some c := ⟨_, List.getElem?_eq_getElem (by rw [tl_len]; exact h)⟩
theorem drop_cons {α : Type} {s : List α} {i : Nat} {c : α} (h : s[i]? = some c) : s.drop i = c :: s.drop (i + 1) := by
  obtain ⟨h1, rfl⟩ := List.getElem?_eq_some_iff.1 h
  exact List.drop_eq_getElem_cons h1
theorem loopF_inl {V R : Type} {B : V → Tr (V ⊕ R)} {m : Nat} {v v' : V} (h : (B v).run = some (.inl v')) : loopF B (m + 1) v = loopF B m v' := by simp only [loopF, h]
theorem loopF_inr {V R : Type} {B : V → Tr (V ⊕ R)} {m : Nat} {v : V} {r : R} (h : (B v).run = some (.inr r)) : loopF B (m + 1) v = some r := by simp only [loopF, h]
theorem up1 {n n0 : Nat} (h : n0 + 1 ≤ n) : ∃ m, n = m + 1 ∧ n0 ≤ m := ⟨n - 1, by omega, by omega⟩
theorem run_done {α : Type} (x : α) : (Tr.done x).run = some x := rfl
theorem run_fail {α : Type} : (Tr.fail : Tr α).run = none := rfl
theorem run_ask {α : Type} (b : Bool) (t f : Tr α) : (Tr.ask b t f).run = if b = true then t.run else f.run := by cases b <;> rfl
theorem run_opt {α β : Type} (o : Option β) (k : β → Tr α) : (Tr.opt o k).run = o.bind fun x => (k x).run := by cases o <;> rfl
theorem run_inl {α β γ : Type} (x : β) (k : β → Tr α) (l : γ → Tr α) : (Tr.alt (.inl x) k l).run = (k x).run := rfl
theorem run_inr {α β γ : Type} (x : γ) (k : β → Tr α) (l : γ → Tr α) : (Tr.alt (.inr x) k l).run = (l x).run := rfl
theorem ev_list {α R : Type} {F : α → Nat → Option R} {f : α → R} : ∀ (l : List α), (∀ c ∈ l, Ev (F c) (f c)) → ∃ n0, ∀ n, n0 ≤ n → ∀ c ∈ l, F c n = some (f c)
  | [], _ => ⟨0, fun n _ c hc => by cases hc⟩
  | a :: l, h => by
    obtain ⟨n1, h1⟩ := h a (List.mem_cons_self ..)
    obtain ⟨n2, h2⟩ := ev_list l fun c hc => h c (List.mem_cons_of_mem _ hc)
    exact ⟨n1 + n2, fun n hn c hc => by
      rcases List.mem_cons.1 hc with rfl | hc
      · exact h1 n (by omega)
      · exact h2 n (by omega) c hc⟩
/-- a list that is written anew, place by place -/
theorem conv_loop {R : Type} {B : List (List PV) × Nat × Int × List (List PV) → Tr ((List (List PV) × Nat × Int × List (List PV)) ⊕ R)} {rows : List (List PV)} {z : List PV} {r : List (List PV) → R}
    (hs : ∀ (i : Nat) (acc : List (List PV)) (e : List PV), rows[i]? = some e → acc.length = rows.length → acc[i]? = some z → (B (rows, rows.length, (i : Int), acc)).run = some (.inl (rows, rows.length, ((i + 1 : Nat) : Int), acc.set i e)))
    (he : ∀ acc : List (List PV), acc.length = rows.length → (B (rows, rows.length, (rows.length : Int), acc)).run = some (.inr (r acc))) :
    ∀ (m i M : Nat), rows.length = i + m → m + 1 ≤ M → loopF B M (rows, rows.length, (i : Int), rows.take i ++ zrows z m) = some (r rows)
  | m, i, 0, h1, h2 => by omega
  | 0, i, M + 1, h1, h2 => by
    have hi : i = rows.length := by omega
    subst hi
    have e : rows.take rows.length ++ zrows z 0 = rows := by simp [zrows]
    rw [e, loopF_inr (he rows rfl)]
  | m + 1, i, M + 1, h1, h2 => by
    have hl : i < rows.length := by omega
    have hg := List.getElem?_eq_getElem hl
    have hlen : (rows.take i ++ zrows z (m + 1)).length = rows.length := by simp [zrows]; omega
    have hz : (rows.take i ++ zrows z (m + 1))[i]? = some z := by
      rw [List.getElem?_append_right (by simp; omega)]
      simp [zrows, Nat.min_eq_left (Nat.le_of_lt hl)]
    rw [loopF_inl (hs i _ _ hg hlen hz)]
    have e : (rows.take i ++ zrows z (m + 1)).set i rows[i] = rows.take (i + 1) ++ zrows z m := by
      have hx : zrows z (m + 1) = z :: zrows z m := by simp [zrows, List.replicate_succ]
      rw [hx, List.set_append_right (h := by simp; omega)]
      have : i - (rows.take i).length = 0 := by simp; omega
      rw [this, List.set_cons_zero, show rows.take (i + 1) = rows.take i ++ [rows[i]] from by rw [List.take_add_one, hg]; rfl, List.append_assoc]
      rfl
    rw [e]
    exact conv_loop hs he m (i + 1) M (by omega) (by omega)
theorem conv_all {R : Type} {B : List (List PV) × Nat × Int × List (List PV) → Tr ((List (List PV) × Nat × Int × List (List PV)) ⊕ R)} {rows : List (List PV)} {z : List PV} {r : List (List PV) → R} {M : Nat}
    (hs : ∀ (i : Nat) (acc : List (List PV)) (e : List PV), rows[i]? = some e → acc.length = rows.length → acc[i]? = some z → (B (rows, rows.length, (i : Int), acc)).run = some (.inl (rows, rows.length, ((i + 1 : Nat) : Int), acc.set i e)))
    (he : ∀ acc : List (List PV), acc.length = rows.length → (B (rows, rows.length, (rows.length : Int), acc)).run = some (.inr (r acc))) (hM : rows.length + 1 ≤ M) :
    loopF B M (rows, rows.length, 0, zrows z rows.length) = some (r rows) := by
  have := conv_loop (B := B) hs he rows.length 0 M (by omega) hM
  simpa using this
/-- a list held against itself -/
theorem eq_loop {R : Type} {B : List (List PV) × List (List PV) × Int → Tr ((List (List PV) × List (List PV) × Int) ⊕ R)} {rows : List (List PV)} {r : R}
    (hs : ∀ (i : Nat) (e : List PV), rows[i]? = some e → (B (rows, rows, (i : Int))).run = some (.inl (rows, rows, ((i + 1 : Nat) : Int)))) (he : (B (rows, rows, (rows.length : Int))).run = some (.inr r)) :
    ∀ (m i M : Nat), rows.length = i + m → m + 1 ≤ M → loopF B M (rows, rows, (i : Int)) = some r
  | m, i, 0, h1, h2 => by omega
  | 0, i, M + 1, h1, h2 => by
    have hi : i = rows.length := by omega
    subst hi
    rw [loopF_inr he]
  | m + 1, i, M + 1, h1, h2 => by
    have hg := List.getElem?_eq_getElem (l := rows) (i := i) (by omega)
    rw [loopF_inl (hs i _ hg)]
    exact eq_loop hs he m (i + 1) M (by omega) (by omega)
/-- a list's size, as far as it is not too great -/
theorem sz_loop {R : Type} {B : List (List PV) × Int × Int → Tr ((List (List PV) × Int × Int) ⊕ R)} {rows : List (List PV)}
    (hs : ∀ (i : Nat) (e : List PV) (x : Int), rows[i]? = some e → (∃ y, (B (rows, x, (i : Int))).run = some (.inl (rows, y, ((i + 1 : Nat) : Int)))) ∨ ∃ r, (B (rows, x, (i : Int))).run = some (.inr r)) (he : ∀ x, ∃ r, (B (rows, x, (rows.length : Int))).run = some (.inr r)) :
    ∀ (m i M : Nat) (x : Int), rows.length = i + m → m + 1 ≤ M → ∃ r, loopF B M (rows, x, (i : Int)) = some r
  | m, i, 0, x, h1, h2 => by omega
  | 0, i, M + 1, x, h1, h2 => by
    have hi : i = rows.length := by omega
    subst hi
    obtain ⟨r, hr⟩ := he x
    exact ⟨r, loopF_inr hr⟩
  | m + 1, i, M + 1, x, h1, h2 => by
    have hg := List.getElem?_eq_getElem (l := rows) (i := i) (by omega)
    rcases hs i _ x hg with ⟨y, hy⟩ | ⟨r, hr⟩
    · rw [loopF_inl hy]
      exact sz_loop hs he m (i + 1) M y (by omega) (by omega)
    · exact ⟨r, loopF_inr hr⟩
/-- rows of a shape, as a list of what stands in them -/
theorem rows_map {α : Type} {enc : α → List PV} {P : α → Prop} {sh : List Sh} (hd : ∀ e, okR sh e → ∃ a, e = enc a ∧ P a) : ∀ {rows : List (List PV)}, (∀ e ∈ rows, okR sh e) → ∃ l : List α, rows = l.map enc ∧ ∀ a ∈ l, P a
  | [], _ => ⟨[], rfl, fun a h => by cases h⟩
  | e :: rows, h => by
    obtain ⟨a, rfl, ha⟩ := hd e (h e (List.mem_cons_self ..))
    obtain ⟨l, rfl, hl⟩ := rows_map hd fun e he => h e (List.mem_cons_of_mem _ he)
    exact ⟨a :: l, rfl, fun b hb => by
      rcases List.mem_cons.1 hb with rfl | hb
      · exact ha
      · exact hl b hb⟩
theorem opt_eq {α β : Type} {o : Option β} {x : β} {k : β → Tr α} {y : Option α} (h : o = some x) (h2 : (k x).run = y) : (Tr.opt o k).run = y := by rw [h]; exact h2
theorem ask_t {α : Type} {b : Bool} {t f : Tr α} {y : Option α} (h : b = true) (h2 : t.run = y) : (Tr.ask b t f).run = y := by rw [h]; exact h2
theorem ask_f {α : Type} {b : Bool} {t f : Tr α} {y : Option α} (h : b = false) (h2 : f.run = y) : (Tr.ask b t f).run = y := by rw [h]; exact h2
/-- the bytes from 32 to 126 -/
def okc (c : UInt8) : Bool := decide (32 ≤ c.toNat ∧ c.toNat ≤ 126)
def plainN (s : ByteArray) (most : Int) : Bool := s.toList.all okc && decide ((s.size : Int) ≤ most)
def okV (k n : Int) (s : ByteArray) : Bool :=
  if k = 2 then decide (n = 0) && plainN s 200 else (s.toList == []) && (if k = 0 then decide (n = 0) else if k = 1 then decide (-1000000000000000 ≤ n ∧ n ≤ 1000000000000000) else if k = 3 then decide (0 ≤ n ∧ n ≤ 1) else if k = 4 then decide (1 ≤ n ∧ n ≤ 5) else false)
abbrev V3 := Int × Int × ByteArray
def em : ByteArray := ⟨#[]⟩
/-- a value as a number; else what is answered -/
def num (k x : Int) (s : ByteArray) : Int ⊕ V3 := if okV k x s = true then (if k = 0 ∨ k = 1 then .inl x else if k = 4 then .inr (k, x, s) else .inr (4, 2, em)) else .inr (4, 2, em)
def fin64 (z : Int) : V3 := if -1000000000000000 ≤ z ∧ z ≤ 1000000000000000 then (1, z, em) else (4, 4, em)
def arith (op : Int → Int → V3) (k x : Int) (s : ByteArray) (k' x' : Int) (s' : ByteArray) : V3 := match num k x s with
  | .inr e => e
  | .inl a => match num k' x' s' with
    | .inr e => e
    | .inl b => op a b
theorem num_inr {k x : Int} {s : ByteArray} {e : V3} (h : num k x s = .inr e) : e.1 = 4 := by
  unfold num at h
  split at h
  · split at h
    · cases h
    · split at h
      · cases h; assumption
      · cases h; rfl
  · cases h; rfl
theorem num_ne {k x : Int} {s : ByteArray} {e : V3} (h : num k x s = .inr e) : ¬ e.1 = 0 := by rw [num_inr h]; decide
theorem num_inl {k x : Int} {s : ByteArray} {a : Int} (h : num k x s = .inl a) : -1000000000000000 ≤ a ∧ a ≤ 1000000000000000 := by
  unfold num at h
  split at h
  · rename_i ho
    split at h
    · rename_i hk
      cases h
      unfold okV at ho
      rcases hk with rfl | rfl
      · simp at ho; omega
      · simp at ho; exact ho.2
    · split at h <;> cases h
  · cases h
def absI (x : Int) : Int := if x < 0 then -x else x
def timesV (a b : Int) : V3 := if a = 0 ∨ b = 0 then fin64 0 else if absI a > Int.tdiv 1000000000000000 (absI b) then (4, 4, em) else fin64 (IntKind.i64.wrap (a * b))
theorem tdiv_in {b : Int} (h : 1 ≤ b) : 0 ≤ Int.tdiv 1000000000000000 b ∧ Int.tdiv 1000000000000000 b ≤ 1000000000000000 := by
  rw [Int.tdiv_eq_ediv_of_nonneg (by decide)]
  exact ⟨Int.ediv_nonneg (by decide) (by omega), Int.ediv_le_self _ (by decide)⟩
theorem ev_laws_toRef (x y : Int) : Ev (F_laws_toRef · x y) (x, y) := by
  refine ⟨1, fun n hn => ?_⟩
  obtain ⟨m, rfl, hm⟩ := up1 hn
  simp only [F_laws_toRef, T_laws_toRef, run_done, run_fail, run_ask, run_opt, run_inl, run_inr, Option.bind_some]
theorem ev_laws_eqRef (x y z w : Int) : Ev (F_laws_eqRef · x y z w) (decide (x = z ∧ y = w)) := by
  refine ⟨1, fun n hn => ?_⟩
  obtain ⟨m, rfl, hm⟩ := up1 hn
  simp only [F_laws_eqRef, T_laws_eqRef, run_done, run_fail, run_ask, run_opt, run_inl, run_inr, Option.bind_some]
  by_cases h : x = z <;> by_cases h' : y = w <;> simp [h, h']
def okRef (c r : Int) : Bool := decide (1 ≤ c ∧ c ≤ 52) && decide (1 ≤ r ∧ r ≤ 99)
def okArea (a b c d : Int) : Bool := okRef a b && okRef c d && decide (a ≤ c) && decide (b ≤ d)
abbrev A5 := Int × Int × Int × Int × Bool
def common (x0 x1 x2 x3 x4 x5 x6 x7 : Int) : A5 :=
  if okArea x0 x1 x2 x3 = true ∧ okArea x4 x5 x6 x7 = true ∧ okArea (if x4 > x0 then x4 else x0) (if x5 > x1 then x5 else x1) (if x6 < x2 then x6 else x2) (if x7 < x3 then x7 else x3) = true then
    ((if x4 > x0 then x4 else x0), (if x5 > x1 then x5 else x1), (if x6 < x2 then x6 else x2), (if x7 < x3 then x7 else x3), true) else (0, 0, 0, 0, false)
def cmpI (x y : Int) : Int := if x < y then -1 else if x > y then 1 else 0
def cmpS (x y : ByteArray) : Int := if Op.bytesLess x.toList y.toList = true then -1 else if x.toList = y.toList then 0 else 1
def firstNZ : List Int → Int
  | [] => 0
  | x :: r => if x ≠ 0 then x else firstNZ r
def ordV (k x : Int) (s : ByteArray) (k' x' : Int) (s' : ByteArray) : Int := firstNZ [cmpI k k', cmpI x x', cmpS s s']
def heldB (op o : Int) : Bool := if op = 6 then o == 0 else if op = 7 then o != 0 else if op = 8 then decide (o < 0) else if op = 9 then decide (o ≤ 0) else if op = 10 then decide (o > 0) else decide (o ≥ 0)
def held (op k x : Int) (s : ByteArray) (k' x' : Int) (s' : ByteArray) : Int × Int × ByteArray :=
  if okV k x s = true ∧ okV k' x' s' = true ∧ 6 ≤ op ∧ op ≤ 11 then
    (if k = 4 then (k, x, s) else if k' = 4 then (k', x', s') else (3, if heldB op (ordV (if k = 0 then k' else k) x s (if k' = 0 then k else k') x' s') = true then 1 else 0, em))
  else (4, 2, em)
abbrev CVt := Int × Int × Int × Int × ByteArray
def encCV (c : CVt) : List PV := [.i .i64 c.1, .i .i64 c.2.1, .i .i64 c.2.2.1, .i .i64 c.2.2.2.1, .s c.2.2.2.2]
theorem rows_cv {rows : List (List PV)} (h : ∀ e ∈ rows, okR [.i .i64, .i .i64, .i .i64, .i .i64, .s] e) : ∃ l : List CVt, rows = l.map encCV ∧ ∀ c ∈ l, c.2.2.2.2.size ≤ 140737488351232 := by
  refine rows_map (fun e h => ?_) h
  obtain ⟨c0, t0, rfl, p0, h⟩ := okR_cons h
  obtain ⟨c1, t1, rfl, p1, h1⟩ := okR_cons h
  obtain ⟨c2, t2, rfl, p2, h2⟩ := okR_cons h1
  obtain ⟨c3, t3, rfl, p3, h3⟩ := okR_cons h2
  obtain ⟨c4, t4, rfl, p4, h4⟩ := okR_cons h3
  obtain rfl := okR_nil h4
  obtain ⟨x0, rfl, _⟩ := okP_i p0
  obtain ⟨x1, rfl, _⟩ := okP_i p1
  obtain ⟨x2, rfl, _⟩ := okP_i p2
  obtain ⟨x3, rfl, _⟩ := okP_i p3
  obtain ⟨x4, rfl, w⟩ := okP_s p4
  exact ⟨(x0, x1, x2, x3, x4), rfl, w⟩
theorem cv_get {l : List CVt} {i : Nat} {e : List PV} (h : (l.map encCV)[i]? = some e) : ∃ c, l[i]? = some c ∧ e = encCV c := by
  rw [List.getElem?_map] at h
  obtain ⟨c, h1, h2⟩ := Option.map_eq_some_iff.1 h
  exact ⟨c, h1, h2.symm⟩
def ahead (a b c d : Int) : Bool := decide (b < d ∨ (b = d ∧ a < c))
/-- a value at its place -/
def cvOk (l : List CVt) (i : Nat) (c : CVt) : Bool := okRef c.1 c.2.1 && okV c.2.2.1 c.2.2.2.1 c.2.2.2.2 && (match i with | 0 => true | j + 1 => match l[j]? with | some p => ahead p.1 p.2.1 c.1 c.2.1 | none => true)
def cvFrom (l : List CVt) : Nat → List CVt → Bool
  | _, [] => true
  | i, c :: r => cvOk l i c && cvFrom l (i + 1) r
def cvsOk (l : List CVt) : Bool := cvFrom l 0 l && decide ((l.length : Int) ≤ 120)
theorem ahead_cmp (a b c d : Int) : decide (firstNZ [cmpI b d, cmpI a c] ≥ 0) = !(ahead a b c d) := by
  unfold firstNZ firstNZ firstNZ cmpI ahead
  by_cases h1 : b < d
  · simp [h1]
  · by_cases h2 : b > d
    · have : ¬ b = d := by omega
      simp [h1, h2, this]
    · have : b = d := by omega
      subst this
      by_cases h3 : a < c
      · simp [h3]
      · by_cases h4 : a > c <;> simp [h3, h4]
/-- what stands at a place -/
def cvAt (c r : Int) : List CVt → V3
  | [] => (0, 0, em)
  | p :: l => if p.1 = c ∧ p.2.1 = r then (p.2.2.1, p.2.2.2.1, p.2.2.2.2) else cvAt c r l
def cvIn (c r : Int) : List CVt → Bool
  | [] => false
  | p :: l => decide (p.1 = c ∧ p.2.1 = r) || cvIn c r l
theorem cvAt_out (c r : Int) : ∀ {l : List CVt}, cvIn c r l = false → cvAt c r l = (0, 0, em)
  | [], _ => rfl
  | p :: l, h => by
    simp only [cvIn, Bool.or_eq_false_iff, decide_eq_false_iff_not] at h
    simp only [cvAt, if_neg h.1, cvAt_out c r h.2]
abbrev Ch := Int × Int × ByteArray × ByteArray
def encCh (c : Ch) : List PV := [.i .i64 c.1, .i .i64 c.2.1, .s c.2.2.1, .s c.2.2.2]
theorem rows_ch {rows : List (List PV)} (h : ∀ e ∈ rows, okR [.i .i64, .i .i64, .s, .s] e) : ∃ l : List Ch, rows = l.map encCh ∧ ∀ c ∈ l, True := by
  refine rows_map (fun e h => ?_) h
  obtain ⟨c0, t0, rfl, p0, h⟩ := okR_cons h
  obtain ⟨c1, t1, rfl, p1, h1⟩ := okR_cons h
  obtain ⟨c2, t2, rfl, p2, h2⟩ := okR_cons h1
  obtain ⟨c3, t3, rfl, p3, h3⟩ := okR_cons h2
  obtain rfl := okR_nil h3
  obtain ⟨x0, rfl, _⟩ := okP_i p0
  obtain ⟨x1, rfl, _⟩ := okP_i p1
  obtain ⟨x2, rfl, _⟩ := okP_s p2
  obtain ⟨x3, rfl, _⟩ := okP_s p3
  exact ⟨(x0, x1, x2, x3), rfl, trivial⟩
theorem ch_get {l : List Ch} {i : Nat} {e : List PV} (h : (l.map encCh)[i]? = some e) : ∃ c, l[i]? = some c ∧ e = encCh c := by
  rw [List.getElem?_map] at h
  obtain ⟨c, h1, h2⟩ := Option.map_eq_some_iff.1 h
  exact ⟨c, h1, h2.symm⟩
theorem apart_ch (m sz ty : Nat) (l : List Ch) : apartR (⟨(.c (.own 0 0 0 m)), [], [⟨0, sz, ty, (.row (l.map encCh))⟩]⟩ : Res) = true := by
  simp [apartR, AV.cvs, flatO, flatB, encCh, CV.flat]
theorem apart_b (b : Bool) : apartR (⟨(.c (.p (.b b))), [], []⟩ : Res) = true := rfl
theorem apart_i (x : Int) : apartR (⟨(.c (.p (.i .i64 x))), [], []⟩ : Res) = true := rfl
theorem un_laws_szChange (n : Nat) (a b : Int) (s t : ByteArray) (left : Int) : ∃ r, F_laws_szChange (n + 1) a b s t left = some r := by
  simp only [F_laws_szChange, T_laws_szChange, run_done, run_fail, run_ask, run_opt, run_inl, run_inr, Option.bind_some]
  by_cases h : IntKind.i64.wrap (left - s.size) < 0
  · exact ⟨-1, by simp [h]⟩
  · by_cases h' : IntKind.i64.wrap (IntKind.i64.wrap (left - s.size) - t.size) < 0
    · exact ⟨-1, by simp [h, h']⟩
    · exact ⟨_, by simp [h, h']; rfl⟩
theorem ev_laws_szChangeS (l : List Ch) (hb : l.length ≤ 140737488351232) (left : Int) : ∀ n, l.length + 5 ≤ n → ∃ r, F_laws_szChangeS n (l.map encCh) left = some r := by
  intro n hn
  obtain ⟨m, rfl, hm⟩ := up1 hn
  obtain ⟨q, rfl⟩ : ∃ q, m = q + 1 := ⟨m - 1, by omega⟩
  simp only [F_laws_szChangeS, T_laws_szChangeS, run_done, run_fail, run_ask, run_opt, run_inl, run_inr, Option.bind_some]
  obtain ⟨r, h⟩ := sz_loop (B := B_laws_szChangeS_61 (q + 1)) (rows := l.map encCh)
    (fun i e x he => by
      obtain ⟨c, hc, rfl⟩ := ch_get he
      have hi : i < l.length := (List.getElem?_eq_some_iff.1 hc).1
      have hi' : (i : Int) < l.length := by omega
      have hw : IntKind.i64.wrap ((i : Int) + 1) = (i : Int) + 1 := wrap64 (by omega)
      obtain ⟨r, hr⟩ := un_laws_szChange q c.1 c.2.1 c.2.2.1 c.2.2.2 x
      by_cases h0 : r < 0
      · exact .inr ⟨.inl (-1), by simp [B_laws_szChangeS_61, run_done, run_fail, run_ask, run_opt, run_inl, run_inr, Option.bind_some, hi', hc, encCh, cellI, cellS, hr, h0]⟩
      · exact .inl ⟨r, by simp [B_laws_szChangeS_61, run_done, run_fail, run_ask, run_opt, run_inl, run_inr, Option.bind_some, hi', hc, encCh, cellI, cellS, hr, h0, hw]⟩)
    (fun x => ⟨.inr x, by simp [B_laws_szChangeS_61, run_done, run_fail, run_ask, run_opt, run_inl, run_inr, Option.bind_some]⟩) l.length 0 (q + 1) (IntKind.i64.wrap (left - l.length)) (by simp) (by omega)
  simp only [Int.natCast_zero] at h
  by_cases h0 : IntKind.i64.wrap (left - l.length) < 0
  · exact ⟨-1, by simp [h0]⟩
  · rcases r with r | r
    · exact ⟨r, by simp [h0, h, run_done, run_fail, run_ask, run_opt, run_inl, run_inr, Option.bind_some]⟩
    · exact ⟨r, by simp [h0, h, run_done, run_fail, run_ask, run_opt, run_inl, run_inr, Option.bind_some]⟩
theorem un_laws_toChange (n : Nat) (a b : Int) (s t : ByteArray) : F_laws_toChange (n + 2) a b s t = some (a, b, s, t) := by
  simp only [F_laws_toChange, T_laws_toChange, F_laws_toRef, T_laws_toRef, run_done, run_fail, run_ask, run_opt, run_inl, run_inr, Option.bind_some]
theorem ev_laws_toChangeS (l : List Ch) (hb : l.length * 48 ≤ 140737488351232) : Ev (F_laws_toChangeS · (l.map encCh)) (l.length, l.map encCh) := by
  refine ⟨l.length + 5, fun n hn => ?_⟩
  obtain ⟨m, rfl, hm⟩ := up1 hn
  simp only [F_laws_toChangeS, T_laws_toChangeS, run_done, run_fail, run_ask, run_opt, run_inl, run_inr, Option.bind_some]
  have h := conv_all (B := B_laws_toChangeS_29 m) (rows := l.map encCh) (z := [.i .i64 0, .i .i64 0, .s ⟨#[]⟩, .s ⟨#[]⟩]) (r := fun acc => ((l.map encCh).length, acc)) (M := m)
    (fun i acc e he ha hz => by
      obtain ⟨c, hc, rfl⟩ := ch_get he
      have hi : i < l.length := (List.getElem?_eq_some_iff.1 hc).1
      have hi' : (i : Int) < l.length := by omega
      obtain ⟨q, rfl⟩ : ∃ q, m = q + 2 := ⟨m - 2, by omega⟩
      have hw : IntKind.i64.wrap ((i : Int) + 1) = (i : Int) + 1 := wrap64 (by omega)
      have ha' : acc.length = l.length := by simpa using ha
      simp [B_laws_toChangeS_29, run_done, run_fail, run_ask, run_opt, run_inl, run_inr, Option.bind_some, hi', hc, encCh, cellI, cellS, un_laws_toChange, hz, ha', hw, setAt])
    (fun acc ha => by
      have ha' : acc.length = l.length := by simpa using ha
      simp [B_laws_toChangeS_29, run_done, run_fail, run_ask, run_opt, run_inl, run_inr, Option.bind_some])
    (by simp; omega)
  simp only [List.length_map, Int.toNat_natCast] at h ⊢
  rw [h]
  have h1 : (48 : Int) * (l.length : Int) ≤ 140737488355328 := by omega
  have h2 : (l.length : Int) ≤ 9223372036854775807 := by omega
  simp [run_done, run_fail, run_ask, run_opt, run_inl, run_inr, Option.bind_some, h1, h2]
def swp (c : Ch) : Ch := (c.1, c.2.1, c.2.2.2, c.2.2.1)
def turnedL (l : List Ch) : List Ch := (l.map swp).reverse
theorem spec_turned_loop (n : Nat) (l : List Ch) (hb : l.length * 48 ≤ 140737488351232) : ∀ (k M : Nat), k ≤ l.length → k + 1 ≤ M →
    loopF (B_spec_Turned_29 n) M (l.map encCh, (l.length - k), ((k : Int) - 1), (turnedL (l.drop k)).map encCh) = some (l.length, (turnedL l).map encCh)
  | k, 0, h1, h2 => by omega
  | 0, M + 1, h1, h2 => by
    rw [loopF_inr (r := (l.length, (turnedL l).map encCh)) (by simp [B_spec_Turned_29, run_done, run_fail, run_ask, run_opt, run_inl, run_inr, Option.bind_some])]
  | k + 1, M + 1, h1, h2 => by
    have hk : k < l.length := by omega
    have hg := List.getElem?_eq_getElem hk
    have hd := drop_cons hg
    generalize l[k] = c at hg hd
    have e1 : (((k + 1 : Nat) : Int) - 1) = (k : Int) := by omega
    have hk' : (k : Int) < l.length := by omega
    have hw : IntKind.i64.wrap ((k : Int) - 1) = (k : Int) - 1 := wrap64 (by omega)
    have hl : (turnedL (l.drop (k + 1))).length = l.length - (k + 1) := by simp [turnedL]
    have e2 : (l.length - (k + 1) + 1) * 48 ≤ 140737488355328 := by omega
    have e3 : l.length - (k + 1) + 1 = l.length - k := by omega
    have e4 : (turnedL (l.drop k)).map encCh = (turnedL (l.drop (k + 1))).map encCh ++ [encCh (swp c)] := by rw [hd]; simp [turnedL]
    rw [e1, loopF_inl (v' := (l.map encCh, l.length - k, (k : Int) - 1, (turnedL (l.drop k)).map encCh)) (by
      rw [e4]
      simp [B_spec_Turned_29, run_done, run_fail, run_ask, run_opt, run_inl, run_inr, Option.bind_some, hk', hg, encCh, cellI, cellS, hw, hl, e3, swp]
      omega)]
    exact spec_turned_loop n l hb k M (by omega) (by omega)
theorem ev_spec_Turned (l : List Ch) (hb : l.length * 48 ≤ 140737488351232) : Ev (F_spec_Turned · (l.map encCh)) (l.length, (turnedL l).map encCh) := by
  refine ⟨l.length + 3, fun n hn => ?_⟩
  obtain ⟨m, rfl, hm⟩ := up1 hn
  have h := spec_turned_loop m l hb l.length m (by omega) (by omega)
  have e : turnedL (l.drop l.length) = [] := by simp [turnedL]
  rw [e, Nat.sub_self] at h
  have hw : IntKind.i64.wrap ((l.length : Int) - 1) = (l.length : Int) - 1 := wrap64 (by omega)
  simp only [F_spec_Turned, T_spec_Turned, run_done, run_fail, run_ask, run_opt, run_inl, run_inr, Option.bind_some, List.length_map, hw]
  simp only [List.map_nil] at h
  rw [h]
  simp [run_done, run_fail, run_ask, run_opt, run_inl, run_inr, Option.bind_some]
theorem impl_turned_loop (n : Nat) (l : List Ch) (hb : l.length * 48 ≤ 140737488351232) : ∀ (k M : Nat), k ≤ l.length → k + 1 ≤ M →
    loopF (B_impl_Turned_29 n) M (l.map encCh, (l.length - k), ((k : Int) - 1), (turnedL (l.drop k)).map encCh) = some (l.length, (turnedL l).map encCh)
  | k, 0, h1, h2 => by omega
  | 0, M + 1, h1, h2 => by
    rw [loopF_inr (r := (l.length, (turnedL l).map encCh)) (by simp [B_impl_Turned_29, run_done, run_fail, run_ask, run_opt, run_inl, run_inr, Option.bind_some])]
  | k + 1, M + 1, h1, h2 => by
    have hk : k < l.length := by omega
    have hg := List.getElem?_eq_getElem hk
    have hd := drop_cons hg
    generalize l[k] = c at hg hd
    have e1 : (((k + 1 : Nat) : Int) - 1) = (k : Int) := by omega
    have hk' : (k : Int) < l.length := by omega
    have hw : IntKind.i64.wrap ((k : Int) - 1) = (k : Int) - 1 := wrap64 (by omega)
    have hl : (turnedL (l.drop (k + 1))).length = l.length - (k + 1) := by simp [turnedL]
    have e2 : (l.length - (k + 1) + 1) * 48 ≤ 140737488355328 := by omega
    have e3 : l.length - (k + 1) + 1 = l.length - k := by omega
    have e4 : (turnedL (l.drop k)).map encCh = (turnedL (l.drop (k + 1))).map encCh ++ [encCh (swp c)] := by rw [hd]; simp [turnedL]
    rw [e1, loopF_inl (v' := (l.map encCh, l.length - k, (k : Int) - 1, (turnedL (l.drop k)).map encCh)) (by
      rw [e4]
      simp [B_impl_Turned_29, run_done, run_fail, run_ask, run_opt, run_inl, run_inr, Option.bind_some, hk', hg, encCh, cellI, cellS, hw, hl, e3, swp]
      omega)]
    exact impl_turned_loop n l hb k M (by omega) (by omega)
theorem ev_impl_Turned (l : List Ch) (hb : l.length * 48 ≤ 140737488351232) : Ev (F_impl_Turned · (l.map encCh)) (l.length, (turnedL l).map encCh) := by
  refine ⟨l.length + 3, fun n hn => ?_⟩
  obtain ⟨m, rfl, hm⟩ := up1 hn
  have h := impl_turned_loop m l hb l.length m (by omega) (by omega)
  have e : turnedL (l.drop l.length) = [] := by simp [turnedL]
  rw [e, Nat.sub_self] at h
  have hw : IntKind.i64.wrap ((l.length : Int) - 1) = (l.length : Int) - 1 := wrap64 (by omega)
  simp only [F_impl_Turned, T_impl_Turned, run_done, run_fail, run_ask, run_opt, run_inl, run_inr, Option.bind_some, List.length_map, hw]
  simp only [List.map_nil] at h
  rw [h]
  simp [run_done, run_fail, run_ask, run_opt, run_inl, run_inr, Option.bind_some]
theorem un_laws_eqChange (n : Nat) (a b : Int) (s t : ByteArray) : F_laws_eqChange (n + 2) a b s t a b s t = some true := by
  simp only [F_laws_eqChange, T_laws_eqChange, F_laws_eqRef, T_laws_eqRef, run_done, run_fail, run_ask, run_opt, run_inl, run_inr, Option.bind_some]
  simp
theorem ev_laws_eqChangeS (l : List Ch) (hb : l.length ≤ 140737488351232) : Ev (F_laws_eqChangeS · (l.map encCh) (l.map encCh)) true := by
  refine ⟨l.length + 5, fun n hn => ?_⟩
  obtain ⟨m, rfl, hm⟩ := up1 hn
  simp only [F_laws_eqChangeS, T_laws_eqChangeS, run_done, run_fail, run_ask, run_opt, run_inl, run_inr, Option.bind_some]
  have h := eq_loop (B := B_laws_eqChangeS_29 m) (rows := l.map encCh) (r := .inr ())
    (fun i e he => by
      obtain ⟨c, hc, rfl⟩ := ch_get he
      have hi : i < l.length := (List.getElem?_eq_some_iff.1 hc).1
      have hi' : (i : Int) < l.length := by omega
      obtain ⟨q, rfl⟩ : ∃ q, m = q + 2 := ⟨m - 2, by omega⟩
      have hw : IntKind.i64.wrap ((i : Int) + 1) = (i : Int) + 1 := wrap64 (by omega)
      simp [B_laws_eqChangeS_29, run_done, run_fail, run_ask, run_opt, run_inl, run_inr, Option.bind_some, hi', hc, encCh, cellI, cellS, un_laws_eqChange, hw])
    (by simp [B_laws_eqChangeS_29, run_done, run_fail, run_ask, run_opt, run_inl, run_inr, Option.bind_some]) l.length 0 m (by simp) (by omega)
  simp only [Int.natCast_zero] at h
  simp [h, run_done, run_fail, run_ask, run_opt, run_inl, run_inr, Option.bind_some]
theorem markText_loop (n : Nat) : ∀ (f : Nat) (v : Int × ByteArray), v.1 < 10 ^ f → v.1 ≤ 9223372036854775807 → v.2.size + f ≤ 1000 → ∃ t : ByteArray, t.size ≤ v.2.size + f ∧ ∀ M, f + 1 ≤ M → loopF (B_laws_markText_30 n) M v = some t
  | f, v, h1, h1', h2 => by
    by_cases h0 : v.1 > 0
    · cases f with
      | zero => simp at h1; omega
      | succ f =>
        have e1 : Int.tdiv v.1 10 = v.1 / 10 := Int.tdiv_eq_ediv_of_nonneg (by omega)
        have hw : IntKind.i64.wrap (Int.tdiv v.1 10) = v.1 / 10 := by rw [e1]; exact wrap64 (by omega)
        have h3 : v.1 / 10 < 10 ^ f := by
          have : (10 : Int) ^ (f + 1) = 10 ^ f * 10 := Int.pow_succ 10 f
          omega
        let d : ByteArray := ⟨#[UInt8.ofNat (IntKind.u8.wrap (IntKind.i64.wrap ((48 : Int) + (Int.tmod v.1 (10 : Int))))).toNat]⟩
        have hs : (d ++ v.2).size = v.2.size + 1 := by rw [ByteArray.size_append]; show 1 + v.2.size = _; omega
        obtain ⟨t, h4, h5⟩ := markText_loop n f (v.1 / 10, d ++ v.2) h3 (by show v.1 / 10 ≤ _; omega) (by show (d ++ v.2).size + f ≤ 1000; omega)
        refine ⟨t, by have : t.size ≤ (d ++ v.2).size + f := h4; omega, fun M hM => ?_⟩
        obtain ⟨M, rfl⟩ : ∃ q, M = q + 1 := ⟨M - 1, by omega⟩
        rw [loopF_inl (v' := (v.1 / 10, d ++ v.2)) (by
          have hd : d.size = 1 := rfl
          have hc : d.size + v.2.size ≤ 9223372036854775807 := by omega
          simp only [B_laws_markText_30, run_done, run_fail, run_ask, run_opt, run_inl, run_inr, Option.bind_some, bytesOf, Option.map_some, hw]
          rw [if_pos (by simpa using h0), if_pos (by simp), if_pos (by simpa using hc)])]
        exact h5 M (by omega)
    · refine ⟨v.2, by omega, fun M hM => ?_⟩
      obtain ⟨M, rfl⟩ : ∃ q, M = q + 1 := ⟨M - 1, by omega⟩
      rw [loopF_inr (r := v.2) (by
        simp only [B_laws_markText_30, run_done, run_fail, run_ask, run_opt, run_inl, run_inr, Option.bind_some]
        rw [if_neg (by simpa using h0)])]
theorem ev_markText (k : Int) (h : 1 ≤ k ∧ k ≤ 9223372036854775807) : ∃ t : ByteArray, ∀ n, 25 ≤ n → F_laws_markText n k = some t := by
  have p19 : (10 : Int) ^ 19 = 10000000000000000000 := by decide
  obtain ⟨t, h1, h2⟩ := markText_loop 0 19 (k, ⟨#[]⟩) (by show k < 10 ^ 19; omega) h.2 (by show (0 : Nat) + 19 ≤ 1000; decide)
  refine ⟨⟨#[109]⟩ ++ t, fun n hn => ?_⟩
  obtain ⟨m, rfl, hm⟩ := up1 hn
  have h3 : loopF (B_laws_markText_30 m) m (k, ⟨#[]⟩) = some t := h2 m (by omega)
  simp only [F_laws_markText, T_laws_markText, run_done, run_fail, run_ask, run_opt, run_inl, run_inr, Option.bind_some, h3]
  have h1 : t.size ≤ 19 := h1
  have hd : (⟨#[109]⟩ : ByteArray).size = 1 := rfl
  rw [if_neg (by simp; omega), if_pos (by simp only [decide_eq_true_eq, hd]; omega)]
noncomputable def mtx (k : Int) : ByteArray := if h : 1 ≤ k ∧ k ≤ 9223372036854775807 then Classical.choose (ev_markText k h) else ⟨#[]⟩
theorem mtx_ok {k : Int} (h : 1 ≤ k ∧ k ≤ 9223372036854775807) {n : Nat} (hn : 25 ≤ n) : F_laws_markText n k = some (mtx k) := by
  unfold mtx
  rw [dif_pos h]
  exact Classical.choose_spec (ev_markText k h) n hn
noncomputable def mkCh (k : Int) : Ch := (k, k + 1, mtx (k + 2), mtx (k + 3))
noncomputable def mkL : Int → List Ch → List Ch
  | _, [] => []
  | k, _ :: r => mkCh k :: mkL (k + 4) r
theorem mkL_len : ∀ (k : Int) (l : List Ch), (mkL k l).length = l.length
  | _, [] => rfl
  | k, _ :: r => by simp [mkL, mkL_len (k + 4) r]
theorem mark_loop (n : Nat) (hn : 25 ≤ n) (len : Nat) (hb : len ≤ 140737488351232) : ∀ (r pre : List Ch) (k : Int) (M : Nat), pre.length + r.length = len → 1 ≤ k → k + 4 * r.length ≤ 1000000000000000 → r.length + 1 ≤ M →
    loopF (B_laws_markChangeS_13 n) M (len, k, (pre.length : Int), (pre ++ r).map encCh) = some (k + 4 * r.length, (pre ++ mkL k r).map encCh)
  | [], pre, k, M, h1, h2, h3, h4 => by
    obtain ⟨M, rfl⟩ : ∃ q, M = q + 1 := ⟨M - 1, by simp at h4; omega⟩
    have hp : pre.length = len := by simpa using h1
    rw [loopF_inr (r := (k, pre.map encCh)) (by simp [B_laws_markChangeS_13, run_done, run_fail, run_ask, run_opt, run_inl, run_inr, Option.bind_some, hp])]
    simp [mkL]
  | c :: r, pre, k, M, h1, h2, h3, h4 => by
    obtain ⟨M, rfl⟩ : ∃ q, M = q + 1 := ⟨M - 1, by simp at h4; omega⟩
    simp only [List.length_cons] at h1 h3 h4
    have hi : (pre.length : Int) < len := by omega
    have hl : ((pre ++ c :: r).map encCh).length = len := by simp; omega
    have hg : ((pre ++ c :: r).map encCh)[pre.length]? = some (encCh c) := by simp
    have hlt : pre.length < ((pre ++ c :: r).map encCh).length := by rw [hl]; omega
    have w1 : IntKind.i64.wrap (k + 1) = k + 1 := wrap64 (by omega)
    have w2 : IntKind.i64.wrap (k + 1 + 1) = k + 2 := by rw [wrap64 (by omega)]; omega
    have w3 : IntKind.i64.wrap (k + 2 + 1) = k + 3 := by rw [wrap64 (by omega)]; omega
    have w4 : IntKind.i64.wrap (k + 3 + 1) = k + 4 := by rw [wrap64 (by omega)]; omega
    have wi : IntKind.i64.wrap ((pre.length : Int) + 1) = (pre.length : Int) + 1 := wrap64 (by omega)
    have m2 := mtx_ok (k := k + 2) (by omega) hn
    have m3 := mtx_ok (k := k + 3) (by omega) hn
    have e1 : ((pre ++ c :: r).map encCh).set pre.length (encCh (mkCh k)) = ((pre ++ [mkCh k]) ++ r).map encCh := by
      rw [List.map_append, List.map_cons, List.set_append_right (h := by simp)]
      simp
    rw [loopF_inl (v' := (len, k + 4, ((pre ++ [mkCh k]).length : Int), ((pre ++ [mkCh k]) ++ r).map encCh)) (by
      rw [← e1]
      generalize ((pre ++ c :: r).map encCh) = acc at hl hg hlt
      have hset : ∀ x, (acc.set pre.length x)[pre.length]? = some x := fun x => List.getElem?_set_self hlt
      simp [B_laws_markChangeS_13, run_done, run_fail, run_ask, run_opt, run_inl, run_inr, Option.bind_some, hi, hl, hg, hset, encCh, setAt, w1, w2, w3, w4, wi, m2, m3, mkCh])]
    rw [mark_loop n hn len hb r (pre ++ [mkCh k]) (k + 4) M (by simp; omega) (by omega) (by omega) (by omega)]
    simp [mkL]
    omega
theorem ev_laws_markChangeS (l : List Ch) (hb : l.length ≤ 100000000000000) : Ev (F_laws_markChangeS · l.length 1 (l.map encCh)) (1 + 4 * l.length, (mkL 1 l).map encCh) := by
  refine ⟨l.length + 30, fun n hn => ?_⟩
  obtain ⟨m, rfl, hm⟩ := up1 hn
  have h := mark_loop m (by omega) l.length (by omega) l [] 1 m (by simp) (by decide) (by omega) (by omega)
  simp only [F_laws_markChangeS, T_laws_markChangeS, run_done, run_fail, run_ask, run_opt, run_inl, run_inr, Option.bind_some]
  simp only [List.length_nil, Int.natCast_zero, List.nil_append] at h
  rw [h]
  simp [run_done, run_fail, run_ask, run_opt, run_inl, run_inr, Option.bind_some]
theorem held_loop (n : Nat) (hn : 25 ≤ n) : ∀ (r pre all : List Ch) (k : Int) (M : Nat), all = pre ++ mkL k r → all.length ≤ 140737488351232 → 1 ≤ k → k + 4 * r.length ≤ 1000000000000000 → r.length + 1 ≤ M →
    loopF (B_laws_heldChangeS_13 n) M (all.map encCh, k, (pre.length : Int)) = some (.inr (k + 4 * r.length))
  | [], pre, all, k, M, h1, hb, h2, h3, h4 => by
    obtain ⟨M, rfl⟩ : ∃ q, M = q + 1 := ⟨M - 1, by simp at h4; omega⟩
    have hp : all.length = pre.length := by rw [h1]; simp [mkL]
    rw [loopF_inr (r := .inr k) (by simp [B_laws_heldChangeS_13, run_done, run_fail, run_ask, run_opt, run_inl, run_inr, Option.bind_some, hp])]
    simp
  | c :: r, pre, all, k, M, h1, hb, h2, h3, h4 => by
    obtain ⟨M, rfl⟩ : ∃ q, M = q + 1 := ⟨M - 1, by simp at h4; omega⟩
    simp only [List.length_cons] at h3 h4
    have hlen : all.length = pre.length + (r.length + 1) := by rw [h1]; simp [mkL, mkL_len]
    have hg : all[pre.length]? = some (mkCh k) := by rw [h1]; simp [mkL]
    have hi : (pre.length : Int) < all.length := by omega
    have w1 : IntKind.i64.wrap (k + 1) = k + 1 := wrap64 (by omega)
    have w2 : IntKind.i64.wrap (k + 1 + 1) = k + 2 := by rw [wrap64 (by omega)]; omega
    have w3 : IntKind.i64.wrap (k + 2 + 1) = k + 3 := by rw [wrap64 (by omega)]; omega
    have w4 : IntKind.i64.wrap (k + 3 + 1) = k + 4 := by rw [wrap64 (by omega)]; omega
    have wi : IntKind.i64.wrap ((pre.length : Int) + 1) = (pre.length : Int) + 1 := wrap64 (by omega)
    have m2 := mtx_ok (k := k + 2) (by omega) hn
    have m3 := mtx_ok (k := k + 3) (by omega) hn
    rw [loopF_inl (v' := (all.map encCh, k + 4, ((pre ++ [mkCh k]).length : Int))) (by
      simp [B_laws_heldChangeS_13, run_done, run_fail, run_ask, run_opt, run_inl, run_inr, Option.bind_some, hi, hg, encCh, cellI, cellS, w1, w2, w3, w4, wi, m2, m3, mkCh])]
    rw [held_loop n hn r (pre ++ [mkCh k]) all (k + 4) M (by rw [h1]; simp [mkL]) hb (by omega) (by omega) (by omega)]
    have e2 : ((c :: r).length : Int) = (r.length : Int) + 1 := by simp
    rw [e2]
    congr 2
    omega
theorem ev_laws_heldChangeS (l : List Ch) (hb : l.length ≤ 100000000000000) : Ev (F_laws_heldChangeS · ((mkL 1 l).map encCh) 1) (1 + 4 * l.length) := by
  refine ⟨l.length + 30, fun n hn => ?_⟩
  obtain ⟨m, rfl, hm⟩ := up1 hn
  have h := held_loop m (by omega) l [] (mkL 1 l) 1 m (by simp) (by rw [mkL_len]; omega) (by decide) (by omega) (by omega)
  simp only [F_laws_heldChangeS, T_laws_heldChangeS, run_done, run_fail, run_ask, run_opt, run_inl, run_inr, Option.bind_some]
  simp only [List.length_nil, Int.natCast_zero] at h
  rw [h]
  simp [run_done, run_fail, run_ask, run_opt, run_inl, run_inr, Option.bind_some]
theorem law (rows : List (List PV)) (w : rows.length * 48 ≤ 140737488351232 ∧ ∀ r ∈ rows, okR [.i .i64, .i .i64, .s, .s] r) : Ev (F_laws_FnExactTurned · rows) true := by
  obtain ⟨l, rfl, _⟩ := rows_ch w.2
  have hl : l.length * 48 ≤ 140737488351232 := by simpa using w.1
  have ht : (turnedL l).length = l.length := by simp [turnedL]
  obtain ⟨n1, h1⟩ := ev_laws_toChangeS l hl
  obtain ⟨n2, h2⟩ := ev_spec_Turned l hl
  obtain ⟨n3, h3⟩ := ev_impl_Turned l hl
  obtain ⟨n4, h4⟩ := ev_laws_eqChangeS l (by omega)
  obtain ⟨n5, h5⟩ := ev_laws_eqChangeS (turnedL l) (by omega)
  obtain ⟨n6, h6⟩ := ev_laws_markChangeS l (by omega)
  obtain ⟨n7, h7⟩ := ev_laws_markChangeS (turnedL l) (by omega)
  obtain ⟨n8, h8⟩ := ev_laws_heldChangeS (turnedL l) (by omega)
  refine ⟨n1 + n2 + n3 + n4 + n5 + n6 + n7 + n8 + l.length + 8, fun n hn => ?_⟩
  obtain ⟨m, rfl, hm⟩ := up1 hn
  obtain ⟨r, hr⟩ := ev_laws_szChangeS l (by omega) 1048576 m (by omega)
  have h1 := h1 m (by omega)
  have h2 := h2 m (by omega)
  have h3 := h3 m (by omega)
  have h4 := h4 m (by omega)
  have h5 := h5 m (by omega)
  have h6 := h6 m (by omega)
  have h7 := h7 m (by omega)
  have h8 := h8 m (by omega)
  dsimp only at h1 h2 h3 h4 h5 h6 h7 h8
  rw [ht] at h7 h8
  have hk : ¬ (1 + 4 * (l.length : Int) < 0) := by omega
  show (T_laws_FnExactTurned m (l.map encCh)).run = some true
  unfold T_laws_FnExactTurned
  refine opt_eq hr ?_
  by_cases h0 : r < 0
  · exact ask_t (by simpa using h0) rfl
  refine ask_f (by simpa using h0) ?_
  repeat (first
    | exact rfl
    | (refine opt_eq h1 ?_) | (refine opt_eq h2 ?_) | (refine opt_eq h3 ?_) | (refine opt_eq h4 ?_) | (refine opt_eq h5 ?_) | (refine opt_eq h6 ?_) | (refine opt_eq h7 ?_) | (refine opt_eq h8 ?_)
    | (refine ask_t (apart_ch _ _ _ _) ?_)
    | (refine ask_t (apart_b _) ?_)
    | (refine ask_t (apart_i _) ?_)
    | (refine ask_t (decide_eq_true (show l.length = (l.map encCh).length by rw [List.length_map])) ?_)
    | (refine ask_t (decide_eq_true (show l.length = ((turnedL l).map encCh).length by rw [List.length_map, ht])) ?_)
    | (refine ask_t (decide_eq_true (show l.length = ((mkL 1 (turnedL l)).map encCh).length by rw [List.length_map, mkL_len, ht])) ?_)
    | (refine ask_f (decide_eq_false hk) ?_)
    | (refine ask_f (show (!true) = false from rfl) ?_)
    | (refine ask_f (bne_self_eq_false (1 + 4 * (l.length : Int))) ?_))
end Go.Proofs.Ytoodcplobkflfaa.KFnExactTurned
