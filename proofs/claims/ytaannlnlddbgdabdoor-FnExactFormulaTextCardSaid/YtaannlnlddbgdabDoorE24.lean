/-
  THE ENGINE, 24: regions that draw their order.
-/
import Derived.Test.YtaannlnlddbgdabDoorE23
set_option linter.unusedVariables false
set_option linter.unusedSimpArgs false
namespace Go.Eng
open Go.RowKit

/-- an oper and its text in the little language -/
structure Fits (P : Program) (h : Hints) (me : FuncId) (ops : Array Oper) (o : Oper) (ko : KOper) : Prop where
  dst : ko.dst = o.dst
  op : compileOp P h me o = some ko.op
  gd : (o.guard = none ∧ ko.guard = none) ∨ ∃ j want t, o.guard = some (j, want) ∧ (ops[j]?).bind (·.dst) = some t ∧ ko.guard = some (t, want)

section
variable {P : Program} {F : Nat → Prop} {G : Nat → Option Obj} {N0 : Base G} {T : Nat} {pl pl0 : Pl} {st st1 st' : St} {a : Act} {w w0 : World} {up0 : List Frame} {h : Hints} {self : FuncId} {ops : Array Oper} {o : Oper} {ko : KOper} {run : Runs}

theorem fits_of {ks : List KOper} (hc : compileOps P h self ops = some ks) : ks.length = ops.size ∧ ∀ (i : Nat) o ko, ops[i]? = some o → ks[i]? = some ko → Fits P h self ops o ko := by
  unfold compileOps at hc
  obtain ⟨h1, h2⟩ := mapM_len hc
  refine ⟨by simpa using h1, fun i o ko ho hk => ?_⟩
  have h3 := h2 i o ko (by simpa using ho) hk
  obtain ⟨k, hk', hg⟩ := Option.bind_eq_some_iff.1 h3
  cases hgd : o.guard with
  | none =>
    rw [hgd] at hg
    cases hg
    exact ⟨rfl, hk', .inl ⟨hgd, rfl⟩⟩
  | some jw =>
    obtain ⟨j, want⟩ := jw
    rw [hgd] at hg
    obtain ⟨t, ht, rfl⟩ := Option.map_eq_some_iff.1 hg
    exact ⟨rfl, hk', .inr ⟨j, want, t, hgd, ht, rfl⟩⟩

/-- what the guard says here and there -/
theorem guard_ok (hf : Fits P h self ops o ko) (hr : Rel F N0 T pl st a w) (he : evalOper run st ko = some st1) :
    (Region.wanted o (yielded ops a.tmps) = true ∧ ∃ v st2, evalOp run st (ko.dst.getD 0) ko.op = some (v, st2) ∧ st1 = { st2 with t := putT st2.t ko.dst v }) ∨
    (Region.wanted o (yielded ops a.tmps) = false ∧ st1 = { st with t := putT st.t ko.dst (.tup []) }) := by
  rcases hf.gd with ⟨hgd, hg⟩ | ⟨j, want, t, hgd, ht, hg⟩
  · simp only [evalOper, hg, Option.map_eq_some_iff] at he
    obtain ⟨⟨v, st2⟩, h1, rfl⟩ := he
    exact .inl ⟨by simp [Region.wanted, hgd], v, st2, h1, rfl⟩
  · simp only [evalOper, hg] at he
    split at he
    · rename_i x hx
      have hval := rep_b (hr.tmps t _ hx)
      have hy : yielded ops a.tmps j = some x := by
        unfold yielded
        rw [ht]
        have : a.tmps[t]? = some (.bool x) := by
          rw [Array.getD_eq_getD_getElem?] at hval
          cases hq : a.tmps[t]? with
          | none => rw [hq] at hval; simp [undef] at hval
          | some q => rw [hq] at hval; simpa using hval
        simp [this]
      split at he
      · rename_i hxw
        subst hxw
        obtain ⟨⟨v, st2⟩, h1, rfl⟩ := Option.map_eq_some_iff.1 he
        exact .inl ⟨by simp [Region.wanted, hgd, hy], v, st2, h1, rfl⟩
      · rename_i hxw
        cases he
        exact .inr ⟨by simp [Region.wanted, hgd, hy]; exact hxw, rfl⟩
    · rename_i hx
      have hy : yielded ops a.tmps j ≠ some want := by
        obtain ⟨us, hu, hl, _⟩ := hr.tmps t _ hx
        have hus : us = [] := List.eq_nil_of_length_eq_zero hl
        subst hus
        unfold yielded
        rw [ht]
        rw [Array.getD_eq_getD_getElem?] at hu
        cases hq : a.tmps[t]? with
        | none => simp [hq]
        | some q => rw [hq] at hu; simp at hu; subst hu; simp [hq]
      cases he
      exact .inr ⟨by simp [Region.wanted, hgd]; exact hy, rfl⟩
    · cases he

/-- a calm operation -/
theorem step_calm (hf : Fits P h self ops o ko) (hcalm : calmK ko.op = true) (hr : Rel F N0 T pl st a w) (hT : ∀ d, ko.dst = some d → d < T) (he : evalOper run st ko = some st1) :
    ∃ u, YieldsW P ops (readB a ko.op) o u a w ∧ (∃ pl1, Rel F N0 T pl1 st1 (a.put o.dst u) w ∧ Keep F (st.fr :: st.up) (st1.fr :: st1.up) pl pl1 w w) ∧ ∀ n, o.dst ≠ some n → look n st1.t = look n st.t := by
  rcases guard_ok hf hr he with ⟨hw, v, st2, hev, rfl⟩ | ⟨hw, rfl⟩
  · obtain ⟨u, hp, hrun⟩ := op_calm hcalm hf.op hr hev
    obtain ⟨pl1, h1, h2⟩ := put_rel hr hp hT
    rw [hf.dst] at h1
    refine ⟨u, .inl ⟨hw, hrun⟩, ⟨pl1, by rw [hf.dst]; exact h1, h2⟩, fun n hn => ?_⟩
    simp only [look_putT, hf.dst, hn, if_false, hp.t]
  · obtain ⟨pl1, h1, h2⟩ := put_rel (v := .tup []) (u := undef) hr ⟨⟨pl, ⟨[], rfl, rfl, fun i u c hu => by simp at hu⟩, hr.mem, Keep.refl⟩, rfl⟩ hT
    rw [hf.dst] at h1
    refine ⟨undef, .inr ⟨hw, rfl⟩, ⟨pl1, by rw [hf.dst]; exact h1, h2⟩, fun n hn => ?_⟩
    simp only [look_putT, hf.dst, hn, if_false]


/-- any operation -/
theorem step_any (hS : Sound G P run) {i : Nat} (hi : ops[i]? = some o) (hf : Fits P h self ops o ko) (hr : Rel F N0 T pl st a w) (hT : ∀ d, ko.dst = some d → d < T) (he : evalOper run st ko = some st1) {K : Act → World → Prop}
    (hK : ∀ u w' pl1, KeepB (fun b => growK ko.op = true ∨ leaveB a ko.op b) w w' → Rel F N0 T pl1 st1 (a.put o.dst u) w' → Keep F (st.fr :: st.up) (st1.fr :: st1.up) pl pl1 w w' → (∀ n, o.dst ≠ some n → look n st1.t = look n st.t) → K (a.put o.dst u) w') :
    stepF P ops i K a w := by
  unfold stepF
  simp only [hi]
  rcases guard_ok hf hr he with ⟨hw, v, st2, hev, rfl⟩ | ⟨hw, rfl⟩
  · rw [if_pos hw]
    have fin : ∀ u w', KeepB (fun b => growK ko.op = true ∨ leaveB a ko.op b) w w' → Post F N0 pl st w v st2 u w' → K (a.put o.dst u) w' := fun u w' hg hp => by
      obtain ⟨pl1, h1, h2⟩ := put_rel hr hp hT
      rw [hf.dst] at h1
      exact hK u w' pl1 hg (by rw [hf.dst]; exact h1) h2 fun n hn => by simp only [look_putT, hf.dst, hn, if_false, hp.t]
    by_cases hg : growK ko.op = true
    · exact op_grow hS hg hf.op hr hev _ fun u w' hp => fin u w' (hp.2.keepB _) hp.1
    · by_cases hs : ∃ m, storeS ko.op = some m
      · exact op_leave hS hs hf.op hr hev _ fun u w' hp => fin u w' (hp.2.sub fun b hb => hb.elim (fun e => absurd e hg) id) hp.1
      · exact op_ok hS hf.op hr hev _ fun u w' hp => fin u w' ⟨by obtain ⟨⟨_, _, _, h⟩, _⟩ := hp; exact h.step.size, fun k hk e => e.elim (fun e => absurd e hg) fun ⟨m, _, e, _⟩ => absurd ⟨m, e⟩ hs⟩ hp
  · rw [if_neg (by simp [hw])]
    obtain ⟨pl1, h1, h2⟩ := put_rel (v := .tup []) (u := undef) hr ⟨⟨pl, ⟨[], rfl, rfl, fun i u c hu => by simp at hu⟩, hr.mem, Keep.refl⟩, rfl⟩ hT
    rw [hf.dst] at h1
    exact hK undef w pl1 (KeepB.refl _ w) (by rw [hf.dst]; exact h1) h2 fun n hn => by simp only [look_putT, hf.dst, hn, if_false]

/-! ### blocks made early -/
def RunsTo (P : Program) (o : Oper) (cells : Array Value) (ty : TypeId) (val : Nat → Value) : Prop := ∀ (a : Act) (w : World), (execOp a.eval o).run P w = .ok (.value (val w.heap.size)) { w with heap := w.heap.push (.cells cells ty) }
/-- a block that has been made early is taken on -/
def Adopts (k : KOp) (cells : Array Value) (ty : TypeId) (val : Nat → Value) : Prop := ∀ {F : Nat → Prop} {G : Nat → Option Obj} {N0 : Base G} {T : Nat} {run : Runs} {pl : Pl} {st st2 : St} {a : Act} {w : World} {b dst : Nat} {v : AV},
  Rel (fun k => F k ∨ k = b) N0 T pl st a w → ¬ F b → N0.n ≤ b → w.heap[b]? = some (.cells cells ty (0, 0)) → evalOp run st dst k = some (v, st2) →
    ∃ pl', Rel F N0 T pl' st2 a w ∧ RepA F (st2.fr :: st2.up) pl' w (val b) v ∧ st2.up = st.up ∧ st2.t = st.t ∧ (∀ d n, d < st.up.length → pl' d n = pl d n) ∧ (∀ d n k s, pl' d n = some (k, s) → k = b ∨ ∃ d0 n0, pl d0 n0 = some (k, s))
theorem alloc_no {o : Oper} {k : KOp} (hal : allocO o = true) (hc : compileOp P h self o = some k) : calmK k = false ∧ o.guard = none := by
  unfold allocO at hal
  split at hal
  · rename_i e heq
    unfold compileOp at hc
    rw [heq] at hc
    simp only [Option.bind_eq_some_iff, Option.map_eq_some_iff] at hc
    obtain ⟨_, _, _, _, _, _, hc⟩ := hc
    rw [← hc]
    exact ⟨rfl, by simpa using hal⟩
  · rename_i t len parts heq
    simp only [Bool.and_eq_true] at hal
    unfold compileOp at hc
    rw [heq] at hc
    simp only at hc
    split at hc
    · split at hc
      · cases hc
      · split at hc
        · cases hc
        · simp only [Option.bind_eq_some_iff, Option.map_eq_some_iff] at hc
          obtain ⟨_, _, _, _, hc⟩ := hc
          rw [← hc]
          exact ⟨rfl, by simpa using hal.1⟩
    · cases hc
  · cases hal
theorem early_of (w0 : World) {o : Oper} {k : KOp} (hal : allocO o = true) (hc : compileOp P h self o = some k) :
    ∃ cells ty val, RunsTo P o cells ty val ∧ ∀ h' self' k', compileOp P h' self' o = some k' → Adopts k' cells ty val := by
  unfold allocO at hal
  split at hal
  · rename_i e heq
    unfold compileOp at hc
    rw [heq] at hc
    simp only [Option.bind_eq_some_iff, Option.map_eq_some_iff] at hc
    obtain ⟨ti, hti, z, hz, x, hx, hk⟩ := hc
    refine ⟨z.cells, e, fun b => .pointer (some ⟨b, 0, none⟩), fun a w => by simp only [execOp, heq, Sem.run_bind, run_alloc' hti hz, Result.andThen_ok]; rfl, fun h' self' k' hc' => ?_⟩
    unfold compileOp at hc'
    rw [heq] at hc'
    simp only [Option.bind_eq_some_iff, Option.map_eq_some_iff] at hc'
    obtain ⟨ti', hti', z', hz', x', hx', rfl⟩ := hc'
    rw [hti] at hti'
    cases hti'
    rw [hz] at hz'
    cases hz'
    rw [hx] at hx'
    cases hx'
    intro F G N0 T run pl st st2 a w b dst v hr hF hN hg hev
    simp only [evalOp, St.eval] at hev
    split at hev
    · cases hev
    · rename_i hnt
      split at hev
      · rename_i hcond
        simp only [Option.some.injEq, Prod.mk.injEq] at hev
        obtain ⟨rfl, rfl⟩ := hev
        obtain ⟨pl', h1, h2, h3, h4⟩ := rel_adopt (n := dst * 64) (sz := P.cellsOf e) hr hF hN hg (cs := x.cvs) (fun {fs pl} => rep_cells (rep_av hx) hnt (deps_known hcond.2)) (fun c hc => List.all_eq_true.1 hcond.2 c hc)
        exact ⟨pl', h1, h2, rfl, rfl, h3, h4⟩
      · cases hev
  · rename_i t len parts heq
    simp only [Bool.and_eq_true, bne_iff_ne, ne_eq] at hal
    obtain ⟨hgd, h0, hcst⟩ := hal
    unfold compileOp at hc
    rw [heq] at hc
    simp only at hc
    split at hc
    · rename_i e hu
      split at hc
      · cases hc
      · rename_i hcond
        simp only [not_or] at hcond
        split at hc
        · cases hc
        · rename_i hbad
          simp only [Option.bind_eq_some_iff, Option.map_eq_some_iff] at hc
          obtain ⟨z, hz, ks, hks, hk⟩ := hc
          obtain ⟨rows, cells, f1, f2, f3, f4, f5, f6, f7⟩ := bslice_early w0 heq hu (by simpa using hcond.1) hcond.2 (by simpa using hbad) h0 hcst hz hks
          refine ⟨cells, e, fun b => .slice (some ⟨b, 0, none⟩) len len, f7, fun h' self' k' hc' => ?_⟩
          unfold compileOp at hc'
          rw [heq] at hc'
          simp only [hu] at hc'
          rw [if_neg (by simpa using hcond), if_neg hbad] at hc'
          simp only [Option.bind_eq_some_iff, Option.map_eq_some_iff] at hc'
          obtain ⟨z', hz', ks', hks', rfl⟩ := hc'
          rw [hz] at hz'
          cases hz'
          rw [hks] at hks'
          cases hks'
          intro F G N0 T run pl st st2 a w b dst v hr hF hN hg hev
          simp only [evalOp, f1 st, Option.bind_some, freezeRows_plain f2, Option.some.injEq, Prod.mk.injEq] at hev
          obtain ⟨rfl, rfl⟩ := hev
          obtain ⟨pl', h1, h2, h3, h4⟩ := rel_adopt_row (n := dst * 64) (sz := P.cellsOf e) (rs := rows.map fun r => r.map wkC) (m := len) hr hF hN hg (by rw [List.length_map]; exact f4) f5 (fun r hr => by
            obtain ⟨q, hq, rfl⟩ := List.mem_map.1 hr
            rw [List.length_map]; exact f3 q hq) (fun {pl} => rep_plain (fs := []) f2 f6)
          exact ⟨pl', h1, h2, rfl, rfl, h3, h4⟩
    · cases hc
  · cases hal
def SetA (F : Nat → Prop) (E : Nat → Option Nat) (k : Nat) : Prop := F k ∨ ∃ j, E j = some k
structure Pend (P : Program) (ops : Array Oper) (F : Nat → Prop) {G : Nat → Option Obj} (N0 : Base G) (w0 : World) (listed0 R : Array Bool) (E : Nat → Option Nat) (st : St) (a : Act) (w : World) : Prop where
  sz0 : listed0.size = ops.size
  szR : R.size = ops.size
  sub : ∀ j, listed0.getD j false = true → R.getD j false = true
  ext : ∀ j, R.getD j false = true → listed0.getD j false = true ∨ ∃ b, E j = some b
  mem : ∀ j b, E j = some b → listed0.getD j true = false ∧ R.getD j false = true ∧ N0.n ≤ b ∧ w0.heap.size ≤ b ∧ ¬ F b ∧
    ∃ o cells ty val, ops[j]? = some o ∧ allocO o = true ∧ (∀ h self k, compileOp P h self o = some k → Adopts k cells ty val) ∧ w.heap[b]? = some (.cells cells ty (0, 0)) ∧ ∀ d, o.dst = some d → a.tmps.getD d undef = val b
  inj : ∀ i j b, E i = some b → E j = some b → i = j
  closed : ∀ j o, ops[j]? = some o → R.getD j false = true → ∀ e ∈ o.after, Region.binds .any e = true → R.getD e.on false = true
  und : ∀ j o d, ops[j]? = some o → allocO o = true → listed0.getD j true = false → o.dst = some d → look d st.t = some (.c .u)

theorem set_self {l : Array Bool} {i : Nat} (hi : i < l.size) (d : Bool) : (l.setIfInBounds i true).getD i d = true := by
  simp [hi]
theorem getD_dflt {l : Array Bool} {i : Nat} (hi : i < l.size) (d d' : Bool) : l.getD i d = l.getD i d' := by simp [hi]
theorem getD_lt {l : Array Bool} {i : Nat} {d : Bool} (h : l.getD i d = !d) : i < l.size := by
  rcases Nat.lt_or_ge i l.size with h' | h'
  · exact h'
  · rw [Array.getD_eq_getD_getElem?, Array.getElem?_eq_none h'] at h
    cases d <;> simp at h
theorem set_cases {l : Array Bool} {i j : Nat} {d : Bool} (h : (l.setIfInBounds i true).getD j d = true) : j = i ∨ l.getD j d = true := by
  by_cases hij : j = i
  · exact .inl hij
  · rw [getD_set_ne d (Ne.symm hij)] at h; exact .inr h
theorem set_false {l : Array Bool} {i j : Nat} (h : (l.setIfInBounds i true).getD j true = false) : j ≠ i ∧ l.getD j true = false := by
  have hlt : j < (l.setIfInBounds i true).size := getD_lt h
  by_cases hij : j = i
  · subst hij
    rw [set_self (by simpa using hlt)] at h
    cases h
  · rw [getD_set_ne true (Ne.symm hij)] at h; exact ⟨hij, h⟩
theorem count_set : ∀ (l : List Bool) (i : Nat), l[i]? = some false → (l.set i true).count false + 1 = l.count false
  | [], i, h => by simp at h
  | x :: l, 0, h => by simp at h; subst h; simp
  | x :: l, i + 1, h => by
    have := count_set l i (by simpa using h)
    cases x <;> simp <;> omega
theorem count_arr {l : Array Bool} {i : Nat} (h : l.getD i true = false) : (l.setIfInBounds i true).toList.count false + 1 = l.toList.count false := by
  have hlt : i < l.size := getD_lt h
  rw [Array.toList_setIfInBounds]
  refine count_set _ _ ?_
  rw [Array.getElem?_toList]
  simpa [hlt] using h

variable {listed0 R : Array Bool} {E : Nat → Option Nat}

/-- an operation that is no early block has been taken, in its turn -/
theorem Pend.step (hp : Pend P ops F N0 w0 listed0 R E st a w) {i : Nat} (hi : ops[i]? = some o) (hR : R.getD i true = false) (hall : ∀ e ∈ o.after, Region.binds .any e = true → R.getD e.on false = true) (hdist : ∀ (j : Nat) o' d, ops[j]? = some o' → o.dst = some d → o'.dst = some d → j = i)
    {u : Value} {w' : World} {pl pl1 : Pl} (hr : Rel (SetA F E) N0 T pl st a w) (hk : Keep (SetA F E) (st.fr :: st.up) (st1.fr :: st1.up) pl pl1 w w') (ht : ∀ n, o.dst ≠ some n → look n st1.t = look n st.t) :
    Pend P ops F N0 w0 (listed0.setIfInBounds i true) (R.setIfInBounds i true) E st1 (a.put o.dst u) w' := by
  have hil : i < R.size := getD_lt hR
  refine ⟨by simp [hp.sz0], by simp [hp.szR], fun j hj => ?_, fun j hj => ?_, fun j b hb => ?_, hp.inj, fun j oj hoj hj e he hbd => ?_, fun j oj d hoj hal hj hd => ?_⟩
  · rcases set_cases hj with rfl | hj
    · exact set_self hil _
    · exact getD_set_true (hp.sub j hj)
  · rcases set_cases hj with rfl | hj
    · exact .inl (set_self (by rw [hp.sz0, ← hp.szR]; exact hil) _)
    · exact (hp.ext j hj).imp getD_set_true id
  · obtain ⟨h1, h2, h3, h4, h5, o', cs, ty, val, g1, g2, g3, g6, g7⟩ := hp.mem j b hb
    have hji : j ≠ i := fun e => by
      subst e
      rw [getD_dflt hil false true, hR] at h2
      cases h2
    refine ⟨by rw [getD_set_ne true (Ne.symm hji)]; exact h1, getD_set_true h2, h3, h4, h5, o', cs, ty, val, g1, g2, g3, ?_, fun d hd => ?_⟩
    · rw [← g6]
      exact hk.step.block b (Array.getElem?_eq_some_iff.1 g6).1 fun d n s hh => (hr.mem.live d n b s hh).2.2.1 (.inr ⟨j, hb⟩)
    · have hne : o.dst ≠ some d := fun e => hji (hdist j o' d g1 e hd)
      rw [← g7 d hd]
      cases hod : o.dst with
      | none => rfl
      | some d' =>
        have : d' ≠ d := fun e => hne (by rw [hod, e])
        simp [Act.put, Array.getElem?_setIfInBounds, this]
  · rcases set_cases hj with rfl | hj
    · rw [hi] at hoj
      cases hoj
      exact getD_set_true (hall e he hbd)
    · exact getD_set_true (hp.closed j oj hoj hj e he hbd)
  · obtain ⟨hji, hj⟩ := set_false hj
    rw [ht d fun e => hji (hdist j oj d hoj e hd)]
    exact hp.und j oj d hoj hal hj hd

theorem set_add {E : Nat → Option Nat} {i b : Nat} (hE : E i = none) : (fun k => SetA F E k ∨ k = b) = SetA F (fun j => if j = i then some b else E j) := by
  funext k
  apply propext
  constructor
  · rintro ((h | ⟨j, h⟩) | rfl)
    · exact .inl h
    · exact .inr ⟨j, by dsimp only; rw [if_neg (fun e => by subst e; rw [hE] at h; cases h)]; exact h⟩
    · exact .inr ⟨i, by simp⟩
  · rintro (h | ⟨j, h⟩)
    · exact .inl (.inl h)
    · dsimp only at h
      split at h
      · exact .inr (Option.some.inj h).symm
      · exact .inl (.inr ⟨j, h⟩)
theorem set_drop {E : Nat → Option Nat} {i b : Nat} (hE : E i = some b) (hinj : ∀ i j b, E i = some b → E j = some b → i = j) :
    SetA F E = (fun k => SetA F (fun j => if j = i then none else E j) k ∨ k = b) ∧ (¬ F b → ¬ SetA F (fun j => if j = i then none else E j) b) := by
  refine ⟨?_, ?_⟩
  · funext k
    apply propext
    constructor
    · rintro (h | ⟨j, h⟩)
      · exact .inl (.inl h)
      · by_cases e : j = i
        · subst e; rw [hE] at h; cases h; exact .inr rfl
        · exact .inl (.inr ⟨j, by dsimp only; rw [if_neg e]; exact h⟩)
    · rintro ((h | ⟨j, h⟩) | rfl)
      · exact .inl h
      · dsimp only at h
        split at h
        · cases h
        · exact .inr ⟨j, h⟩
      · exact .inr ⟨i, hE⟩
  · rintro hF (h | ⟨j, h⟩)
    · exact hF h
    · dsimp only at h
      split at h
      · cases h
      · rename_i hne
        exact hne (hinj j i b h hE)

/-- an early block is made -/
theorem Pend.early (hp : Pend P ops F N0 w0 listed0 R E st a w) {j : Nat} (hi : ops[j]? = some o) (hal : allocO o = true) (hk : Fits P h self ops o ko) (hR : R.getD j true = false) (hall : ∀ e ∈ o.after, Region.binds .any e = true → R.getD e.on false = true)
    (hdist : ∀ (i k : Nat) o' o'' d, ops[i]? = some o' → ops[k]? = some o'' → o'.dst = some d → o''.dst = some d → i = k) (hT : ∀ d, o.dst = some d → d < T)
    (hw0 : w0.heap.size ≤ w.heap.size) (hr : Rel (SetA F E) N0 T pl st a w) {K : Act → World → Prop}
    (hK : ∀ u w', Grow w w' → Step noPl w w' → Pend P ops F N0 w0 listed0 (R.setIfInBounds j true) (fun i => if i = j then some w.heap.size else E i) st (a.put o.dst u) w' →
      Rel (SetA F (fun i => if i = j then some w.heap.size else E i)) N0 T pl st (a.put o.dst u) w' → K (a.put o.dst u) w') : stepF P ops j K a w := by
  · have hgd : o.guard = none := (alloc_no hal hk.op).2
    obtain ⟨cells, ty, val, hrn, had⟩ := early_of w hal hk.op
    have hjl : j < R.size := getD_lt hR
    have hj0 : listed0.getD j true = false := by
      have hjl0 : j < listed0.size := by rw [hp.sz0, ← hp.szR]; exact hjl
      cases hq : listed0.getD j true with
      | false => rfl
      | true =>
        rw [getD_dflt hjl0 true false] at hq
        have := hp.sub j hq
        rw [getD_dflt hjl false true, hR] at this
        cases this
    have hE : E j = none := by
      cases hq : E j with
      | none => rfl
      | some b =>
        have := (hp.mem j b hq).2.1
        rw [getD_dflt hjl false true, hR] at this
        cases this
    unfold stepF
    simp only [hi]
    rw [if_pos (by simp [Region.wanted, hgd])]
    have hrun := hrn a w
    unfold Oper.wp
    rw [hrun]
    simp only [Oper.upon]
    let w' : World := { w with heap := w.heap.push (.cells cells ty) }
    have hst : Step noPl w w' := ⟨rfl, rfl, rfl, by simp [w'], fun k hk _ => by simp [w', Array.getElem?_push, Nat.ne_of_lt hk]⟩
    have hFb : ¬ SetA F E w.heap.size := fun h => by have := hr.mem.fsz _ h; omega
    have hrel := rel_aside hr hst (b := w.heap.size) (Nat.le_refl _) (by simp [w'])
    rw [set_add hE] at hrel
    refine hK _ w' (grow_push _ _) hst ⟨hp.sz0, by simp [hp.szR], fun i h => getD_set_true (hp.sub i h), fun i h => ?_, fun i b hb => ?_, fun i k b h1 h2 => ?_, fun i oi hoi h e' he' hb' => ?_, hp.und⟩ ⟨hrel.mem, fun n v hv => ?_, ?_, ?_, hrel.low⟩
    · rcases set_cases h with rfl | h
      · exact .inr ⟨w.heap.size, by simp⟩
      · rcases hp.ext i h with h | ⟨b, hEi⟩
        · exact .inl h
        · have hij : i ≠ j := fun e => by rw [e, hE] at hEi; cases hEi
          exact .inr ⟨b, by rw [if_neg hij]; exact hEi⟩
    · split at hb
      · rename_i hij
        subst hij
        cases hb
        refine ⟨hj0, set_self hjl _, hr.low, hw0, fun h => hFb (.inl h), o, cells, ty, val, hi, hal, had, by simp [w'], fun d hd => ?_⟩
        simp [hd, Act.put, hr.size, hT d hd]
      · rename_i hij
        obtain ⟨h1, h2, h3, h4, h5, o', cs', ty', val', g1, g2, g3, g6, g7⟩ := hp.mem i b hb
        refine ⟨h1, getD_set_true h2, h3, h4, h5, o', cs', ty', val', g1, g2, g3, ?_, fun d hd => ?_⟩
        · rw [← g6]
          exact hst.block b (Array.getElem?_eq_some_iff.1 g6).1 fun _ _ _ h => by cases h
        · rw [← g7 d hd]
          cases hod : o.dst with
          | none => rfl
          | some d' =>
            have : d' ≠ d := fun e => hij (hdist i j o' o d g1 hi hd (by rw [hod, e]))
            simp [Act.put, Array.getElem?_setIfInBounds, this]
    · split at h1 <;> split at h2
      · exact ‹i = j›.trans ‹k = j›.symm
      · cases h1
        exact absurd (.inr ⟨k, h2⟩) hFb
      · cases h2
        exact absurd (.inr ⟨i, h1⟩) hFb
      · exact hp.inj i k b h1 h2
    · rcases set_cases h with rfl | h
      · rw [hi] at hoi
        cases hoi
        exact getD_set_true (hall e' he' hb')
      · exact getD_set_true (hp.closed i oi hoi h e' he' hb')
    · by_cases hn : o.dst = some n
      · have hu := hp.und j o n hi hal hj0 hn
        rw [hu] at hv
        cases hv
        trivial
      · have : (a.put o.dst (val w.heap.size)).tmps.getD n undef = a.tmps.getD n undef := by
          cases hod : o.dst with
          | none => rfl
          | some d =>
            have hne : d ≠ n := fun h => hn (by rw [hod, h])
            simp [Act.put, Array.getElem?_setIfInBounds, hne]
        rw [this]
        exact hrel.tmps n v hv
    · cases o.dst <;> simp [Act.put, hr.size]
    · cases o.dst <;> simp [Act.put, hr.defers]

/-- and taken on, in its turn -/
theorem Pend.adopt (hp : Pend P ops F N0 w0 listed0 R E st a w) {i b : Nat} (hi : ops[i]? = some o) (hf : Fits P h self ops o ko) (hE : E i = some b) (hT : ∀ d, o.dst = some d → d < T)
    (hdist : ∀ (j : Nat) o' d, ops[j]? = some o' → o.dst = some d → o'.dst = some d → j = i)
    (hr : Rel (SetA F E) N0 T pl st a w) (hk : Keep F up0 st.up pl0 pl w0 w) (he : evalOper run st ko = some st1) :
    ∃ pl1, Pend P ops F N0 w0 (listed0.setIfInBounds i true) R (fun j => if j = i then none else E j) st1 a w ∧ Rel (SetA F (fun j => if j = i then none else E j)) N0 T pl1 st1 a w ∧ Keep F up0 st1.up pl0 pl1 w0 w := by
  obtain ⟨h1, h2, h3, h4, h5, o', cells, ty, val, g1, g2, g3, g6, g7⟩ := hp.mem i b hE
  rw [hi] at g1
  cases g1
  have hg : ko.guard = none := by
    rcases hf.gd with h | ⟨j, want, t, h, _⟩
    · exact h.2
    · rw [(alloc_no g2 hf.op).2] at h; cases h
  simp only [evalOper, hg, Option.map_eq_some_iff] at he
  obtain ⟨⟨v, st2⟩, hev, rfl⟩ := he
  obtain ⟨s1, s2⟩ := set_drop (F := F) hE hp.inj
  rw [s1] at hr
  obtain ⟨pl1, q1, q2, qu, qt, q3, q4⟩ := g3 h self ko.op hf.op hr (s2 h5) h3 g6 hev
  refine ⟨pl1, ⟨by simp [hp.sz0], hp.szR, fun j hj => ?_, fun j hj => ?_, fun j b' hb' => ?_, fun j k b' hj hk => ?_, hp.closed, fun j oj d hoj hal hj hd => ?_⟩, ⟨q1.mem, fun n v hv => ?_, q1.size, q1.defers, q1.low⟩, (show st2.up = st.up from qu) ▸ ⟨hk.step, hk.later.len, fun d n B hB => ?_, fun d n k s hh => ?_⟩⟩
  · rcases set_cases hj with rfl | hj
    · exact h2
    · exact hp.sub j hj
  · by_cases hji : j = i
    · subst hji
      exact .inl (set_self (getD_lt h1) _)
    · rcases hp.ext j hj with h | ⟨b', h⟩
      · exact .inl (getD_set_true h)
      · exact .inr ⟨b', by rw [if_neg hji]; exact h⟩
  · split at hb'
    · cases hb'
    · rename_i hji
      obtain ⟨u1, u2⟩ := hp.mem j b' hb'
      exact ⟨by rw [getD_set_ne true (Ne.symm hji)]; exact u1, u2⟩
  · split at hj
    · cases hj
    · split at hk
      · cases hk
      · exact hp.inj j k b' hj hk
  · obtain ⟨hji, hj⟩ := set_false hj
    show look d (putT st2.t ko.dst v) = _
    rw [look_putT, if_neg (fun e => hji (hdist j oj d hoj (hf.dst ▸ e) hd)), qt]
    exact hp.und j oj d hoj hal hj hd
  · simp only [look_putT] at hv
    split at hv
    · rename_i hd
      cases hv
      rw [g7 n (hf.dst ▸ hd)]
      exact q2
    · exact q1.tmps n v hv
  · obtain ⟨B', u1, u2, u3⟩ := hk.later.blk d n B hB
    refine ⟨B', u1, u2, fun e => ⟨?_, (u3 e).2⟩⟩
    rw [q3 d n (getUp_lt u1)]
    exact (u3 e).1
  · rcases q4 d n k s hh with rfl | ⟨d0, n0, u⟩
    · exact .inr h4
    · exact hk.later.new d0 n0 k s u

theorem late_unlisted {R : Array Bool} {i : Nat} (hcl : ∀ j o, ops[j]? = some o → R.getD j false = true → ∀ e ∈ o.after, Region.binds .any e = true → R.getD e.on false = true) (hi : R.getD i false = false) :
    ∀ n j, (lateL ops i n).getD j false = true → R.getD j false = false
  | 0, j, h => by
    simp only [lateL, List.getD_eq_getElem?_getD] at h
    rw [List.getElem?_replicate] at h
    split at h <;> simp at h
  | n + 1, j, h => by
    have hj : j < ops.size := by
      rcases Nat.lt_or_ge j ops.size with h' | h'
      · exact h'
      · simp [lateL, List.getD_eq_getElem?_getD, h'] at h
    have h1 : lateStep ops i (lateL ops i n) j = true := by
      simpa [lateL, List.getD_eq_getElem?_getD, hj] using h
    unfold lateStep at h1
    split at h1
    · rename_i o ho
      obtain ⟨e, he, hb⟩ := Array.any_eq_true'.1 h1
      simp only [Bool.and_eq_true, Bool.or_eq_true, beq_iff_eq] at hb
      cases hq : R.getD j false with
      | false => rfl
      | true =>
        have h2 := hcl j o ho hq e he hb.1
        rcases hb.2 with h3 | h3
        · rw [h3, hi] at h2; cases h2
        · rw [late_unlisted hcl hi n e.on h3] at h2; cases h2
    · cases h1

theorem wa_get {listed0 : Array Bool} {but : Option Nat} {j : Nat} (hj : j < ops.size) (d : Bool) : (withAllocs ops listed0 but).getD j d = (listed0.getD j true || (some j != but && ((ops[j]?).map allocO).getD false)) := by
  simp [withAllocs, hj]
theorem wa_true {listed0 : Array Bool} {but : Option Nat} {j : Nat} {d : Bool} (hs : listed0.size = ops.size) (h : listed0.getD j d = true) (hd : d = false) : (withAllocs ops listed0 but).getD j d = true := by
  have hj : j < ops.size := by subst hd; exact hs ▸ getD_lt h
  rw [wa_get hj, getD_dflt (hs ▸ hj) true d, h]
  rfl
theorem distinct_spec (h : distinctD ops = true) (i k : Nat) (o o' : Oper) (d : Nat) (hi : ops[i]? = some o) (hk : ops[k]? = some o') (h1 : o.dst = some d) (h2 : o'.dst = some d) : i = k := by
  have h3 := List.all_eq_true.1 (List.all_eq_true.1 h i (List.mem_range.2 (Array.getElem?_eq_some_iff.1 hi).1)) k (List.mem_range.2 (Array.getElem?_eq_some_iff.1 hk).1)
  simp only [hi, hk, Option.bind_some, h1, h2, Bool.or_eq_true, beq_iff_eq, bne_self_eq_false, Bool.false_eq_true, or_false] at h3
  exact h3
theorem count_pos {l : Array Bool} {i : Nat} (h : l.getD i true = false) (h0 : l.toList.count false ≤ 0) : False := by
  have := count_arr h
  omega
theorem un_of {l : Array Bool} {i : Nat} (hi : i < l.size) (h : ¬ l.getD i false = true) : l.getD i true = false := by
  rw [getD_dflt hi true false]
  simpa using h

/-! ### blocks of addresses -/
def Rel2 (st : St) (same : Bool) (x y : KX) : Prop := ∃ p q, st.blk (st.eval x) = some p ∧ st.blk (st.eval y) = some (some q) ∧ (p == some q) = same
theorem asks_ok : ∀ {l r : List KOper} {st : St}, (∀ o ∈ l, ∃ b x y, o = ⟨none, .rel b x y, none⟩) → evalOps run (l ++ r) st = some st' →
    evalOps run r st = some st' ∧ ∀ b x y, (⟨none, .rel b x y, none⟩ : KOper) ∈ l → Rel2 st b x y
  | [], r, st, _, h => ⟨h, fun _ _ _ h => by cases h⟩
  | o :: l, r, st, hl, h => by
    obtain ⟨b, x, y, rfl⟩ := hl _ (List.mem_cons_self ..)
    simp only [List.cons_append, evalOps, evalOper, evalOp, Option.bind_eq_some_iff, Option.map_eq_some_iff, Prod.exists] at h
    obtain ⟨s, ⟨u, s', h1, rfl⟩, h2⟩ := h
    split at h1
    · rename_i p q hp hq
      split at h1
      · rename_i hpq
        cases h1
        obtain ⟨h3, h4⟩ := asks_ok (fun o ho => hl o (List.mem_cons_of_mem _ ho)) h2
        refine ⟨h3, fun b' x' y' hm => ?_⟩
        rcases List.mem_cons.1 hm with e | hm
        · cases e; exact ⟨p, q, hp, hq, hpq⟩
        · exact h4 _ _ _ hm
      · cases h1
    · cases h1
theorem blk_some {v : AV} {d n : Nat} {u : Value} (hr : Rel F N0 T pl st a w) (h : st.blk v = some (some (d, n))) (hu : RepA F (st.fr :: st.up) pl w u v) : ∃ ad : Addr, u = .pointer (some ad) ∧ ∃ s, pl d n = some (ad.block, s) := by
  unfold St.blk at h
  split at h
  · rename_i d' n' g j o
    split at h
    · rename_i hg
      cases h
      obtain ⟨_, B, hB, _, hv⟩ := hu
      obtain ⟨B', h1, h2⟩ := Option.map_eq_some_iff.1 hg
      have h1' : getUp d n (st.fr :: st.up) = some B' := h1
      rw [hB] at h1'
      cases h1'
      obtain ⟨b, s, hp, rfl⟩ := hv h2.symm
      exact ⟨_, rfl, s, hp⟩
    · cases h
  · cases h
  · cases h
theorem blk_none {v : AV} {u : Value} (h : st.blk v = some none) (hu : RepA F (st.fr :: st.up) pl w u v) : ∃ ad : Addr, u = .pointer (some ad) ∧ ¬ Own F pl ad.block := by
  unfold St.blk at h
  split at h
  · split at h <;> cases h
  · obtain ⟨ad, rfl, h1, _⟩ := hu
    exact ⟨_, rfl, by rw [add_block]; exact (h1 (by simp)).1⟩
  · cases h
theorem rel_one (hr : Rel F N0 T pl st a w) {x y : Nat} (h : Rel2 st true (.t x) (.t y)) : ∃ ad ad' : Addr, a.tmps.getD x undef = .pointer (some ad) ∧ a.tmps.getD y undef = .pointer (some ad') ∧ ad.block = ad'.block := by
  obtain ⟨p, ⟨d, n⟩, h1, h2, h3⟩ := h
  have h3 : p = some (d, n) := by simpa using h3
  subst h3
  obtain ⟨ad, e1, s1, p1⟩ := blk_some hr h1 (eval_rep (x := .tmp x) hr rfl)
  obtain ⟨ad', e2, s2, p2⟩ := blk_some hr h2 (eval_rep (x := .tmp y) hr rfl)
  rw [p1] at p2
  exact ⟨ad, ad', e1, e2, (Prod.mk.inj (Option.some.inj p2)).1⟩
theorem rel_apart (hr : Rel F N0 T pl st a w) {x y : Nat} (h : Rel2 st false (.t x) (.t y)) : ∃ ad ad' : Addr, a.tmps.getD x undef = .pointer (some ad) ∧ a.tmps.getD y undef = .pointer (some ad') ∧ ad.block ≠ ad'.block := by
  obtain ⟨p, ⟨d, n⟩, h1, h2, h3⟩ := h
  obtain ⟨ad', e2, s2, p2⟩ := blk_some hr h2 (eval_rep (x := .tmp y) hr rfl)
  cases p with
  | none =>
    obtain ⟨ad, e1, hn⟩ := blk_none h1 (eval_rep (x := .tmp x) hr rfl)
    exact ⟨ad, ad', e1, e2, fun e => hn (.inr ⟨d, n, s2, by rw [p2, e]⟩)⟩
  | some q =>
    obtain ⟨d', n'⟩ := q
    obtain ⟨ad, e1, s1, p1⟩ := blk_some hr h1 (eval_rep (x := .tmp x) hr rfl)
    refine ⟨ad, ad', e1, e2, fun e => ?_⟩
    rw [e] at p1
    obtain ⟨rfl, rfl⟩ := hr.mem.inj _ _ _ _ _ _ _ p1 p2
    simp at h3
theorem base_free {ks : List KOper} : ∀ {m t s : Nat}, baseSl ks m t = some s → ∀ k ∈ ks, k.dst ≠ some s
  | 0, t, s, h => by cases h
  | m + 1, t, s, h => by
    unfold baseSl at h
    split at h
    · rename_i hf
      cases h
      intro k hk e
      have := List.find?_eq_none.1 hf k hk
      simp [e] at this
    · split at h
      · exact base_free h
      · exact base_free h
      · cases h
/-- the slots that a region does not write -/
def Unch (ks : List KOper) (a0 a : Act) : Prop := ∀ s, (∀ k ∈ ks, k.dst ≠ some s) → a.tmps.getD s undef = a0.tmps.getD s undef
theorem Unch.put {ks : List KOper} {a0 : Act} (h : Unch ks a0 a) (hk : ko ∈ ks) (hd : ko.dst = o.dst) {u : Value} : Unch ks a0 (a.put o.dst u) := fun s hs => by
  rw [← h s hs]
  have := hs ko hk
  rw [hd] at this
  cases e : o.dst with
  | none => rfl
  | some d =>
    rw [e] at this
    have hne : d ≠ s := fun h => this (by rw [h])
    simp [Act.put, Array.getElem?_setIfInBounds, hne]
/-- what an operation leaves as it is -/
def kpOf (ex : Bool) (ks : List KOper) (a0 : Act) (j b : Nat) : Prop := growK (kAt ks j) = true ∨ (ex = true ∧ ∃ s ad, baseOf ks j = some s ∧ a0.tmps.getD s undef = .pointer (some ad) ∧ b ≠ ad.block)
theorem base_slot {ks : List KOper} {j s : Nat} (h : baseOf ks j = some s) : (∀ k ∈ ks, k.dst ≠ some s) ∧ ∃ m, storeS (kAt ks j) = some m := by
  unfold baseOf at h
  split at h
  · cases h
  · obtain ⟨n, h1, h2⟩ := Option.bind_eq_some_iff.1 h
    exact ⟨base_free h2, n, h1⟩
def Claim (P : Program) (F : Nat → Prop) {G : Nat → Option Obj} (N0 : Base G) (T : Nat) (up0 : List Frame) (pl0 : Pl) (w0 : World) (ops : Array Oper) (ks : List KOper) (ex : Bool) (a0 : Act) (run : Runs) (st' : St) (fuel n : Nat) : Prop :=
  ∀ (listed0 R : Array Bool) (E : Nat → Option Nat) (l : List KOper) (pl : Pl) (st : St) (a : Act) (w : World), sched ops ks ex n listed0 = some l → evalOps run l st = some st' → Unch ks a0 a →
    Pend P ops F N0 w0 listed0 R E st a w → Rel (SetA F E) N0 T pl st a w → Keep F up0 st.up pl0 pl w0 w → R.toList.count false ≤ fuel → (∀ ko ∈ l, ∀ d, ko.dst = some d → d < T) →
    anyF P .any ops (kpOf ex ks a0) (fun a' w' => ∃ pl', Inv F N0 T up0 pl0 w0 pl' st' a' w') fuel R a w

theorem askL_rel (ops : Array Oper) (ks : List KOper) (ex : Bool) (listed : Array Bool) (i : Nat) : ∀ o ∈ askL ops ks ex listed i, ∃ b x y, o = ⟨none, .rel b x y, none⟩ := by
  intro o ho
  unfold askL at ho
  split at ho
  · cases ho
  · split at ho
    · cases ho
    · obtain ⟨j, _, h⟩ := List.mem_filterMap.1 ho
      obtain ⟨s, _, rfl⟩ := Option.map_eq_some_iff.1 h
      exact ⟨_, _, _, rfl⟩
theorem askS_rel (ks : List KOper) (ex : Bool) (i : Nat) : ∀ o ∈ askS ks ex i, ∃ b x y, o = ⟨none, .rel b x y, none⟩ := by
  intro o ho
  unfold askS at ho
  split at ho
  · cases ho
  · split at ho
    · rw [List.mem_singleton] at ho
      exact ⟨_, _, _, ho⟩
    · cases ho
theorem readB_slot {k : KOp} {q b : Nat} (h : loadS k = some q) (hS : readB a k b) : ∃ ad : Addr, a.tmps.getD q undef = .pointer (some ad) ∧ ad.block = b := by
  unfold loadS at h
  split at h
  · cases h
    exact hS
  · cases h
theorem scheds_some {ks l : List KOper} (h : scheds ops ks = some l) : ∃ ex, sched ops ks ex ops.size (Array.replicate ops.size false) = some l := by
  unfold scheds at h
  split at h
  · cases h; exact ⟨_, ‹_›⟩
  · exact ⟨_, h⟩
theorem sched_step (hS : Sound G P run) {ks : List KOper} {ex : Bool} {a0 : Act} (hks : compileOps P h self ops = some ks) (hns : Region.noSelect ops = true) (hdd : distinctD ops = true) (hal : ∀ (j : Nat) o d, ops[j]? = some o → allocO o = true → o.dst = some d → d < T)
    (fuel : Nat) (ihf : ∀ f, fuel = f + 1 → ∀ n, Claim P F N0 T up0 pl0 w0 ops ks ex a0 run st' f n) : ∀ n, Claim P F N0 T up0 pl0 w0 ops ks ex a0 run st' fuel n := by
  obtain ⟨hlen, hfit⟩ := fits_of hks
  have hdist := distinct_spec hdd
  have getk : ∀ {i : Nat} {o : Oper}, ops[i]? = some o → ∃ ko, ks[i]? = some ko ∧ Fits P h self ops o ko ∧ kAt ks i = ko.op := fun {i o} hi => by
    have hl : i < ks.length := by rw [hlen]; exact (Array.getElem?_eq_some_iff.1 hi).1
    exact ⟨ks[i], by simp [hl], hfit i o _ hi (by simp [hl]), by simp [kAt, hl]⟩
  intro n
  induction n with
  | zero =>
    intro listed0 R E l pl st a w hs he hU hp hr hk hc hb
    simp only [sched] at hs
    split at hs
    · rename_i hall
      cases hs
      simp only [evalOps, Option.some.injEq] at he
      subst he
      have h0 : ∀ j, listed0.getD j true = true := fun j => by
        cases hq : listed0.getD j true with
        | true => rfl
        | false =>
          have hj : j < listed0.size := getD_lt hq
          have := Array.all_eq_true_iff_forall_mem.1 hall listed0[j] (Array.getElem_mem hj)
          rw [Array.getD_eq_getD_getElem?, Array.getElem?_eq_getElem hj] at hq
          simp only [Option.getD_some] at hq
          rw [hq] at this
          cases this
      have hE : SetA F E = F := by
        funext k
        apply propext
        constructor
        · rintro (h | ⟨j, h⟩)
          · exact h
          · have := (hp.mem j k h).1
            rw [h0 j] at this
            cases this
        · exact .inl
      rw [hE] at hr
      have hrd : Region.ready .any ops R = [] := by
        apply List.eq_nil_iff_forall_not_mem.2
        intro j hj
        obtain ⟨h1, o, h2, h3⟩ := mem_ready.1 hj
        have hjl : j < R.size := getD_lt h1
        have h4 := h0 j
        rw [getD_dflt (by rw [hp.sz0, ← hp.szR]; exact hjl) true false] at h4
        have := hp.sub j h4
        rw [getD_dflt hjl false true, h1] at this
        cases this
      cases fuel with
      | zero => exact ⟨hrd, pl, ⟨hr, hk⟩⟩
      | succ f => exact ⟨fun _ => ⟨pl, ⟨hr, hk⟩⟩, fun j hj => by rw [hrd] at hj; cases hj⟩
    · cases hs
  | succ n ihn =>
    intro listed0 R E l pl st a w hs he hU hp hr hk hc hb
    have early : ∀ {f : Nat}, fuel = f + 1 → ∀ {j : Nat} {o : Oper}, ops[j]? = some o → allocO o = true → R.getD j true = false → (∀ e ∈ o.after, Region.binds .any e = true → R.getD e.on false = true) →
        stepF P ops j (fun a' w' => KeepB (kpOf ex ks a0 j) w w' ∧ anyF P .any ops (kpOf ex ks a0) (fun a' w' => ∃ pl', Inv F N0 T up0 pl0 w0 pl' st' a' w') f (R.setIfInBounds j true) a' w') a w := by
      intro f hf j o ho hao hR hall
      obtain ⟨ko, hko, hfo, _⟩ := getk ho
      refine hp.early ho hao hfo hR hall (fun i k o' o'' d => hdist i k o' o'' d) (fun d hd => hal j o d ho hao hd) hk.step.size hr fun u w' hg hst hp' hr' => ⟨hg.keepB _, ?_⟩
      refine ihf f hf (n + 1) listed0 _ _ l pl st _ w' hs he (hU.put (List.mem_of_getElem? hko) hfo.dst) hp' hr' ?_ ?_ hb
      · exact hk.trans ⟨⟨hst.os, hst.tape, hst.output, hst.size, fun k hk' _ => hst.block k hk' (fun _ _ _ h => by cases h)⟩, rfl, fun d n b hb => ⟨b, hb, Nat.le_refl _, fun _ => ⟨rfl, rfl⟩⟩, fun d n b s hh => .inl ⟨d, n, s, hh⟩⟩
      · have := count_arr hR
        omega
    have noE : ∀ {i : Nat} {o : Oper}, ops[i]? = some o → allocO o = false → E i = none := fun {i o} ho hno => by
      cases hq : E i with
      | none => rfl
      | some b =>
        obtain ⟨_, _, _, _, _, o', _, _, _, g1, g2, _⟩ := hp.mem i b hq
        rw [ho] at g1
        cases g1
        rw [g2] at hno
        cases hno
    have unR : ∀ {i : Nat} {o : Oper}, ops[i]? = some o → listed0.getD i true = false → E i = none → R.getD i true = false := fun {i o} ho h0 hE => by
      have hil : i < ops.size := (Array.getElem?_eq_some_iff.1 ho).1
      refine un_of (by rw [hp.szR]; exact hil) fun hR => ?_
      rcases hp.ext i hR with h1 | ⟨b, h1⟩
      · rw [getD_dflt (by rw [hp.sz0]; exact hil) false true, h0] at h1; cases h1
      · rw [hE] at h1; cases h1
    have un0 : ∀ {j : Nat}, R.getD j true = false → listed0.getD j true = false := fun {j} hj => by
      have hjl : j < R.size := getD_lt hj
      cases hq : listed0.getD j true with
      | false => rfl
      | true =>
        rw [getD_dflt (by rw [hp.sz0, ← hp.szR]; exact hjl) true false] at hq
        have := hp.sub j hq
        rw [getD_dflt hjl false true, hj] at this
        cases this
    -- what may be picked beside the blocks
    have others : ∀ {but : Option Nat} {j : Nat} {o : Oper}, ops[j]? = some o → allocO o = false → R.getD j true = false → (∀ e ∈ o.after, Region.binds .any e = true → R.getD e.on false = true) → (∀ i, but = some i → E i = none) →
        j ∈ Region.ready .any ops (withAllocs ops listed0 but) := by
      intro but j o ho hno hR hall hbut
      have hjl : j < ops.size := (Array.getElem?_eq_some_iff.1 ho).1
      refine mem_ready.2 ⟨?_, o, ho, fun e he' hbd => ?_⟩
      · rw [wa_get hjl, un0 hR, ho]
        simp [hno]
      · rcases hp.ext _ (hall e he' hbd) with h1 | ⟨b, h1⟩
        · exact wa_true hp.sz0 h1 rfl
        · obtain ⟨q0, _, _, _, _, o', _, _, _, g1, g2, _⟩ := hp.mem _ b h1
          rw [wa_get (Array.getElem?_eq_some_iff.1 g1).1, g1]
          have hne : some e.on ≠ but := fun h => by rw [hbut e.on h.symm] at h1; cases h1
          simp [g2, hne]
    simp only [sched] at hs
    split at hs
    · -- a calm one
      rename_i i hfi
      obtain ⟨l', hs', rfl⟩ := Option.map_eq_some_iff.1 hs
      have hcb := List.find?_some hfi
      have hir := List.mem_of_find?_eq_some hfi
      obtain ⟨hi0, o, ho, hall0⟩ := mem_ready.1 hir
      obtain ⟨ko, hko, hfo, hkat⟩ := getk ho
      simp only [calmB, Bool.and_eq_true, Bool.or_eq_true, Bool.not_eq_true', List.all_eq_true, List.mem_range, beq_iff_eq, hkat] at hcb
      obtain ⟨he, hask⟩ := asks_ok (askL_rel ops ks ex listed0 i) he
      obtain ⟨⟨⟨hcalm, hfree⟩, hlt⟩, hrd⟩ := hcb
      have hno : allocO o = false := by
        cases hq : allocO o with
        | false => rfl
        | true =>
          rw [(alloc_no hq hfo.op).1] at hcalm
          cases hcalm
      have hR := unR ho hi0 (noE ho hno)
      have hRf : R.getD i false = false := by rw [getD_dflt (getD_lt hR) false true]; exact hR
      have hall : ∀ e ∈ o.after, Region.binds .any e = true → R.getD e.on false = true := fun e he' hbd => hp.sub _ (hall0 e he' hbd)
      cases fuel with
      | zero => exact (count_pos hR hc).elim
      | succ f =>
        have hev := he
        simp only [kq, hko, List.cons_append, List.nil_append, evalOps, Option.bind_eq_some_iff] at hev
        obtain ⟨st1, he1, he2⟩ := hev
        obtain ⟨u, hy, ⟨pl1, hr1, hk1⟩, hlk⟩ := step_calm hfo hcalm hr (hb ko (by simp [kq, hko])) he1
        refine anyF_first (late := fun j => (lateL ops i ops.size).getD j false) ho (fun j o' cs b => Region.noSelect_spec hns j o' cs b) (fun j oj hoj hj => ?_) f R a w (fun j oj hoj hne hun hnot => Region.free_spec ho hfree j oj hoj hne (un0 hun) hnot)
          (fun j hj => late_unlisted hp.closed hRf ops.size j hj) (fun j hne hun hj b hS => ?_) (mem_ready.2 ⟨hR, o, ho, hall⟩) hy ?_
        · rcases hlt j (Array.getElem?_eq_some_iff.1 hoj).1 with h1 | h1
          · rw [h1] at hj; cases hj
          · have h2 := h1.1
            unfold lateStep at h2
            rw [hoj] at h2
            obtain ⟨e, he', hbd⟩ := Array.any_eq_true'.1 h2
            simp only [Bool.and_eq_true, Bool.or_eq_true, beq_iff_eq] at hbd
            exact ⟨e, he', hbd.1, hbd.2⟩
        · rcases hrd with h1 | h1
          · have hn : readB a ko.op = noB := by
              cases hk0 : ko.op <;> rw [hk0] at h1 <;> first | rfl | cases h1
            rw [hn] at hS
            exact hS.elim
          · have hjl : j < ops.size := by rw [← hp.szR]; exact getD_lt hun
            rcases h1 j hjl with (((h2 | h2) | h2) | h2) | h2
            · exact absurd h2 hne
            · rw [un0 hun] at h2; cases h2
            · rw [hj] at h2; cases h2
            · exact .inl h2
            · by_cases hgk : growK (kAt ks j) = true
              · exact .inl hgk
              · obtain ⟨⟨hex, hld⟩, hbs⟩ := h2
                obtain ⟨s, hbs⟩ := Option.isSome_iff_exists.1 hbs
                obtain ⟨q, hld⟩ := Option.isSome_iff_exists.1 hld
                obtain ⟨hfs, _⟩ := base_slot hbs
                have hrel := hask false (.t q) (.t s) (by
                  subst hex
                  simp only [askL, hkat, hld, Bool.true_eq_false, if_false]
                  refine List.mem_filterMap.2 ⟨j, List.mem_filter.2 ⟨List.mem_range.2 hjl, ?_⟩, by rw [hbs]; rfl⟩
                  simp [hne, un0 hun, hgk]
                  simpa using hj)
                obtain ⟨ad, ad', e1, e2, hdiff⟩ := rel_apart hr hrel
                rw [hU s hfs] at e2
                refine .inr ⟨hex, s, ad', hbs, e2, ?_⟩
                have hS' := readB_slot hld hS
                obtain ⟨ad2, e3, e4⟩ := hS'
                rw [e1] at e3
                cases e3
                rw [← e4]
                exact hdiff
        · refine ihf f rfl n _ _ E l' pl1 st1 _ w hs' he2 (hU.put (List.mem_of_getElem? hko) hfo.dst) (hp.step ho hR hall (fun j o' d hoj h1 h2 => hdist j i o' o d hoj ho h2 h1) hr hk1 hlk) hr1 ?_ ?_ (fun i' hi' => hb i' (by simp [hi']))
          · have := keep_tail hk1
            exact hk.trans ⟨this.step, this.later⟩
          · have := count_arr hR
            omega
    · split at hs
      · -- the one that may come
        rename_i i hfi
        split at hs
        · rename_i hone
          obtain ⟨l', hs', rfl⟩ := Option.map_eq_some_iff.1 hs
          have him : i ∈ (Region.ready .any ops (withAllocs ops listed0 none)).filter (Region.ready .any ops listed0).contains := by rw [hfi]; simp
          obtain ⟨hw1, hir⟩ := List.mem_filter.1 him
          have hir : i ∈ Region.ready .any ops listed0 := by simpa using hir
          obtain ⟨hi0, o, ho, hall0⟩ := mem_ready.1 hir
          obtain ⟨ko, hko, hfo, hkat⟩ := getk ho
          have hno : allocO o = false := by
            have h1 := (mem_ready.1 hw1).1
            rw [wa_get (Array.getElem?_eq_some_iff.1 ho).1, ho] at h1
            simpa using (Bool.or_eq_false_iff.1 h1).2
          have hR := unR ho hi0 (noE ho hno)
          have hall : ∀ e ∈ o.after, Region.binds .any e = true → R.getD e.on false = true := fun e he' hbd => hp.sub _ (hall0 e he' hbd)
          cases fuel with
          | zero => exact (count_pos hR hc).elim
          | succ f =>
            refine ⟨fun h0 => ?_, fun j hj => ?_⟩
            · have h1 : i ∈ Region.ready .any ops R := mem_ready.2 ⟨hR, o, ho, hall⟩
              rw [h0] at h1
              cases h1
            · obtain ⟨hRj, oj, hoj, hallj⟩ := mem_ready.1 hj
              cases haj : allocO oj with
              | true => exact early rfl hoj haj hRj hallj
              | false =>
                have h1 := others (but := none) hoj haj hRj hallj (fun _ h => by cases h)
                have h2 := List.all_eq_true.1 hone j h1
                have h2 : j = i := by simpa using h2
                subst h2
                rw [ho] at hoj
                cases hoj
                obtain ⟨hev, hask⟩ := asks_ok (askS_rel ks ex j) he
                simp only [kq, hko, List.cons_append, List.nil_append, evalOps, Option.bind_eq_some_iff] at hev
                obtain ⟨st1, he1, he2⟩ := hev
                refine step_any hS ho hfo hr (hb ko (by simp [kq, hko])) he1 fun u w' pl1 hg hr1 hk1 hlk => ⟨hg.sub fun k hkp => ?_, ?_⟩
                · rcases hkp with hkp | ⟨hex, s, ad, hbs, e2, hne⟩
                  · exact .inl (by rw [← hkat]; exact hkp)
                  · obtain ⟨hfs, m1, hst⟩ := base_slot hbs
                    subst hex
                    have hrel := hask true (.t m1) (.t s) (by simp [askS, hst, hbs])
                    obtain ⟨ad1, ad2, e3, e4, e5⟩ := rel_one hr hrel
                    rw [hU s hfs, e2] at e4
                    cases e4
                    rw [hkat] at hst
                    exact .inr ⟨m1, ad1, hst, e3, by rw [e5]; exact hne⟩
                refine ihf f rfl n _ _ E l' pl1 st1 _ w' hs' he2 (hU.put (List.mem_of_getElem? hko) hfo.dst) (hp.step ho hR hall (fun j' o' d hoj h1 h2 => hdist j' j o' o d hoj ho h2 h1) hr hk1 hlk) hr1 ?_ ?_ (fun i' hi' => hb i' (by simp [hi']))
                · have := keep_tail hk1
                  exact hk.trans ⟨this.step, this.later⟩
                · have := count_arr hR
                  omega
        · cases hs
      · -- a block
        split at hs
        · rename_i i hfi
          split at hs
          · rename_i hone
            obtain ⟨l', hs', rfl⟩ := Option.map_eq_some_iff.1 hs
            have hai := List.find?_some hfi
            have hir := List.mem_of_find?_eq_some hfi
            obtain ⟨hi0, o, ho, hall0⟩ := mem_ready.1 hir
            obtain ⟨ko, hko, hfo, hkat⟩ := getk ho
            have hai2 : allocO o = true := by simpa [ho] using hai
            have hall : ∀ e ∈ o.after, Region.binds .any e = true → R.getD e.on false = true := fun e he' hbd => hp.sub _ (hall0 e he' hbd)
            cases hE : E i with
            | some b =>
              have hev := he
              simp only [kq, hko, List.cons_append, List.nil_append, evalOps, Option.bind_eq_some_iff] at hev
              obtain ⟨st1, he1, he2⟩ := hev
              obtain ⟨pl1, hp1, hr1, hk1⟩ := hp.adopt ho hfo hE (fun d hd => hal i o d ho hai2 hd) (fun j o' d hoj h1 h2 => hdist j i o' o d hoj ho h2 h1) hr hk he1
              exact ihn _ R _ l' pl1 st1 a w hs' he2 hU hp1 hr1 hk1 hc (fun i' hi' => hb i' (by simp [hi']))
            | none =>
              have hR := unR ho hi0 hE
              cases fuel with
              | zero => exact (count_pos hR hc).elim
              | succ f =>
                refine ⟨fun h0 => ?_, fun j hj => ?_⟩
                · have h1 : i ∈ Region.ready .any ops R := mem_ready.2 ⟨hR, o, ho, hall⟩
                  rw [h0] at h1
                  cases h1
                · obtain ⟨hRj, oj, hoj, hallj⟩ := mem_ready.1 hj
                  cases haj : allocO oj with
                  | true => exact early rfl hoj haj hRj hallj
                  | false =>
                    have h1 := others (but := some i) hoj haj hRj hallj (fun i' h => by cases h; exact hE)
                    have h2 := List.all_eq_true.1 hone j h1
                    have h2 : j = i := by simpa using h2
                    subst h2
                    rw [ho] at hoj
                    cases hoj
                    rw [hai2] at haj
                    cases haj
          · cases hs
        · cases hs

theorem sched_ok (hS : Sound G P run) {ks : List KOper} {ex : Bool} {a0 : Act} (hks : compileOps P h self ops = some ks) (hns : Region.noSelect ops = true) (hdd : distinctD ops = true) (hal : ∀ (j : Nat) o d, ops[j]? = some o → allocO o = true → o.dst = some d → d < T) :
    ∀ fuel n, Claim P F N0 T up0 pl0 w0 ops ks ex a0 run st' fuel n
  | 0 => sched_step hS hks hns hdd hal 0 (fun f h => by cases h)
  | fuel + 1 => sched_step hS hks hns hdd hal (fuel + 1) (fun f h => by cases h; exact sched_ok hS hks hns hdd hal fuel)

theorem pre_ok {run : Runs} : ∀ (l : List Oper) {st st1 : St}, evalOps run (l.map fun o => (⟨o.dst, .mv (.k (.c .u)), none⟩ : KOper)) st = some st1 →
    st1.fr = st.fr ∧ st1.up = st.up ∧ (∀ n, look n st1.t = look n st.t ∨ look n st1.t = some (.c .u)) ∧ (∀ n, (look n st.t = some (.c .u) ∨ ∃ o ∈ l, o.dst = some n) → look n st1.t = some (.c .u))
  | [], st, st1, h => by
    cases h
    exact ⟨rfl, rfl, fun _ => .inl rfl, fun n h => h.elim id (fun ⟨_, h, _⟩ => by cases h)⟩
  | o :: l, st, st1, h => by
    simp only [List.map_cons, evalOps, evalOper, evalOp, St.eval, Option.map_some, Option.bind_some] at h
    obtain ⟨h1, h2, h3, h4⟩ := pre_ok l h
    refine ⟨h1, h2, fun n => ?_, fun n hn => h4 n ?_⟩
    · rcases h3 n with h5 | h5
      · rw [h5]
        simp only [look_putT]
        split
        · exact .inr rfl
        · exact .inl rfl
      · exact .inr h5
    · simp only [look_putT]
      rcases hn with hn | ⟨o', ho', hd⟩
      · left; split
        · rfl
        · exact hn
      · rcases List.mem_cons.1 ho' with rfl | ho'
        · left; rw [if_pos hd]
        · exact .inr ⟨o', ho', hd⟩
theorem evalOps_append {run : Runs} : ∀ (l r : List KOper) (st : St), evalOps run (l ++ r) st = (evalOps run l st).bind (evalOps run r)
  | [], r, st => rfl
  | o :: l, r, st => by
    simp only [List.cons_append, evalOps]
    cases evalOper run st o with
    | none => rfl
    | some s => exact evalOps_append l r s

theorem rel_drawn {pl : Pl} (hr : Rel F N0 T pl st a w) (n : Nat) : Rel F N0 T pl st a { w with drawn := n } ∧ Keep F (st.fr :: st.up) (st.fr :: st.up) pl pl w { w with drawn := n } := by
  have hK : Keep F (st.fr :: st.up) (st.fr :: st.up) pl pl w { w with drawn := n } := ⟨⟨rfl, rfl, rfl, Nat.le_refl _, fun _ _ _ => rfl⟩, Later.refl _ _ _⟩
  exact ⟨⟨⟨hr.mem.live, hr.mem.inj, fun d m B hB => blk_keep hK rfl (fun _ _ _ => rfl) (hr.mem.blk d m B hB), hr.mem.fsz, hr.mem.fix⟩, fun m v hv => hK.repA (hr.tmps m v hv), hr.size, hr.defers, hr.low⟩, hK⟩

/-- a region that draws its order -/
theorem region_draw_ok (hS : Sound G P run) {id : Nat} {ks l : List KOper} {Q : Exit → Act → World → Prop} (hm : P.follows .mixedOrders = true) (hks : compileOps P h self ops = some ks) (hns : Region.noSelect ops = true) (hdd : distinctD ops = true)
    (hl : scheds ops ks = some l) (hb : ∀ o ∈ allocPre ops ++ l, ∀ d, o.dst = some d → d < T) (he : evalOps run (allocPre ops ++ l) st = some st')
    (hi : Inv F N0 T up0 pl0 w0 pl st a w) (hQ : ∀ pl' a' w', Inv F N0 T up0 pl0 w0 pl' st' a' w' → Q .normal a' w') : (Code.region id ops true).wp P Q a w := by
  rw [evalOps_append] at he
  obtain ⟨st1, he1, he2⟩ := Option.bind_eq_some_iff.1 he
  obtain ⟨h1, h2, h3, h4⟩ := pre_ok _ he1
  obtain ⟨hr, hk⟩ := rel_drawn hi.rel (w.drawn + 1)
  have hr1 : Rel F N0 T pl st1 a { w with drawn := w.drawn + 1 } := by
    refine ⟨by rw [h1, h2]; exact hr.mem, fun n v hv => ?_, hr.size, hr.defers, hr.low⟩
    rcases h3 n with h5 | h5
    · rw [h1, h2]
      exact hr.tmps n v (h5 ▸ hv)
    · rw [h5] at hv
      cases hv
      trivial
  have hE : SetA F (fun _ => none) = F := by
    funext k
    exact propext ⟨fun h => h.elim (fun h => h) (fun ⟨_, h⟩ => by cases h), .inl⟩
  have rep : ∀ j, (Array.replicate ops.size false).getD j false = false := fun j => by
    simp only [Array.getD_eq_getD_getElem?, Array.getElem?_replicate]
    split <;> rfl
  obtain ⟨ex, hl⟩ := scheds_some hl
  refine wp_region_any hm (any_of_anyF (kp := kpOf ex ks a) (Q := fun a' w' => ∃ pl', Inv F N0 T up0 pl0 w0 pl' st' a' w') (fun a' w' ⟨pl', h⟩ => hQ pl' a' w' h) _ _ _ _ ?_)
  have hal : ∀ (j : Nat) o d, ops[j]? = some o → allocO o = true → o.dst = some d → d < T := fun j o d ho hao hd =>
    hb ⟨o.dst, .mv (.k (.c .u)), none⟩ (List.mem_append_left _ (List.mem_map.2 ⟨o, List.mem_filter.2 ⟨Array.mem_toList_iff.2 (Array.mem_of_getElem? ho), hao⟩, rfl⟩)) d hd
  refine sched_ok hS hks hns hdd hal ops.size ops.size _ _ (fun _ => none) l pl st1 a _ hl he2 (fun _ _ => rfl) ⟨by simp, by simp, fun j hj => ?_, fun j hj => ?_, fun j b hb => (by cases hb), fun i j b hb => (by cases hb), fun j o ho hj => ?_, fun j o d ho hao _ hd => ?_⟩ (by rw [hE]; exact hr1) ?_ (by simp) (fun ko hi' d hd => ?_)
  · rw [rep] at hj; cases hj
  · rw [rep] at hj; cases hj
  · rw [rep] at hj; cases hj
  · exact h4 d (.inr ⟨o, List.mem_filter.2 ⟨Array.mem_toList_iff.2 (Array.mem_of_getElem? ho), hao⟩, hd⟩)
  · rw [h2]
    have := keep_tail hk
    exact hi.keep.trans ⟨this.step, this.later⟩
  · exact hb ko (List.mem_append_right _ hi') d hd
end
end Go.Eng
