/-
  THE ENGINE, 16: a call as an operation.
-/
import Derived.Test.YtaannlnlddbgdabE15
set_option linter.unusedVariables false
set_option linter.unusedSimpArgs false
namespace Go.Eng
open Go.RowKit

def noPl : Pl := fun _ _ => none
section
variable {P : Program} {F F' : Nat → Prop} {N0 T : Nat} {pl pl' pl1 : Pl} {st st' : St} {a : Act} {w w' : World} {fs fs' : List Frame} {f' : Frame} {up : List Frame}

theorem flat_rep {own own' : Nat → Prop} {v : Value} {x : PV} (hf : (CV.p x).flat = true) (h : RepP own w v x) : RepP own' w v x := by
  cases h <;> first | (constructor; done) | simp [CV.flat] at hf

theorem push_ok {rows : List Blk} (hm : MemOK F N0 fs pl w) (hN : N0 ≤ w.heap.size) (hm' : MemOK F' w.heap.size (rowsF rows 0 :: []) pl1 w') (hk : Keep F' [] [] noPl pl1 w w')
    (hrows : ∀ B ∈ rows, B.g = 0 ∧ ∃ rs, B.k = .row rs) (hF : (∀ k, Own F pl k → F' k) ∨ rows = []) :
    ∃ pl2, MemOK F N0 (rowsF rows 0 :: fs) pl2 w' ∧ Keep F fs fs pl pl2 w w' ∧
      ∀ {u : Value} {v : AV}, (∀ c ∈ v.cvs, c.po = true) → ((∀ k, Own F pl k → F' k) ∨ ∀ c ∈ v.cvs, c.flat = true) → RepA F' (rowsF rows 0 :: []) pl1 w' u (v.map (lift1 0)) → RepA F (rowsF rows 0 :: fs) pl2 w' u (v.map (lift1 fs.length)) := by
  let pl2 : Pl := fun d n => if d = fs.length then pl1 0 n else pl d n
  have hbd : ∀ d n b s, pl d n = some (b, s) → d < fs.length ∧ b < w.heap.size := fun d n b s h => by
    obtain ⟨_, h2, _, B, hB⟩ := hm.live d n b s h
    exact ⟨getUp_lt hB, h2⟩
  have q1 : ∀ n, pl2 fs.length n = pl1 0 n := fun n => by simp [pl2]
  have q2 : ∀ d n, d ≠ fs.length → pl2 d n = pl d n := fun d n h => by simp [pl2, h]
  have hge : ∀ n b s, pl1 0 n = some (b, s) → w.heap.size ≤ b ∧ b < w'.heap.size ∧ ∃ B, look n (rowsF rows 0) = some B := fun n b s h => by
    obtain ⟨h1, h2, _, B, hB⟩ := hm'.live 0 n b s h
    exact ⟨h1, h2, B, by simpa [getUp] using hB⟩
  have hstep : Step pl w w' := ⟨hk.step.os, hk.step.tape, hk.step.output, hk.step.size, fun k hk' _ => hk.step.block k hk' (fun _ _ _ h => by cases h)⟩
  have hK : Keep F fs fs pl pl2 w w' := by
    refine ⟨hstep, rfl, fun d n b hb => ⟨b, hb, Nat.le_refl _, fun _ => ⟨q2 d n (Nat.ne_of_lt (getUp_lt hb)), rfl⟩⟩, fun d n b s h => ?_⟩
    by_cases hd : d = fs.length
    · subst hd; rw [q1] at h; exact .inr (hge n b s h).1
    · rw [q2 d n hd] at h; exact .inl ⟨d, n, s, h⟩
  have hup : ∀ d n, d < fs.length → getUp d n (rowsF rows 0 :: fs) = getUp d n fs := fun d n hd => by simp [getUp, Nat.ne_of_lt hd]
  have htop : ∀ n, getUp fs.length n (rowsF rows 0 :: fs) = look n (rowsF rows 0) := fun n => by simp [getUp]
  have htop' : ∀ n, getUp 0 n (rowsF rows 0 :: []) = look n (rowsF rows 0) := fun n => by simp [getUp]
  have hlow : Low fs.length fs pl2 (rowsF rows 0 :: fs) pl2 := ⟨fun d n hd => ⟨hup d n hd, rfl⟩, fun d n b s h => ⟨d, n, h⟩⟩
  have hP : (∀ k, Own F pl k → F' k) → ∀ {u x}, RepP (Own F' pl1) w' u x → RepP (Own F pl2) w' u x := fun hF {u x} h =>
    h.step (fun _ _ _ => rfl) (Nat.le_refl _) (fun k hk' => by
      rcases hk' with hk' | ⟨d, n, s, hk'⟩
      · exact .inl (.inl (hF k (.inl hk')))
      · by_cases hd : d = fs.length
        · subst hd; rw [q1] at hk'; exact .inl (.inr ⟨0, n, s, hk'⟩)
        · rw [q2 d n hd] at hk'; exact .inl (.inl (hF k (.inr ⟨d, n, s, hk'⟩))))
  refine ⟨pl2, ⟨fun d n b s h => ?_, fun d n d' n' b s s' h h' => ?_, fun d n B hB => ?_, fun k hF => Nat.lt_of_lt_of_le (hm.fsz k hF) hk.step.size⟩, hK, ?_⟩
  · by_cases hd : d = fs.length
    · subst hd
      rw [q1] at h
      obtain ⟨h1, h2, B, hB⟩ := hge n b s h
      exact ⟨by omega, h2, fun hF => by have := hm.fsz b hF; omega, B, by rw [htop]; exact hB⟩
    · rw [q2 d n hd] at h
      obtain ⟨h1, h2, h3, B, hB⟩ := hm.live d n b s h
      exact ⟨h1, Nat.lt_of_lt_of_le h2 hk.step.size, h3, B, by rw [hup d n (getUp_lt hB)]; exact hB⟩
  · by_cases hd : d = fs.length <;> by_cases hd' : d' = fs.length
    · subst hd; subst hd'
      rw [q1] at h h'
      exact ⟨rfl, (hm'.inj _ _ _ _ b s s' h h').2⟩
    · subst hd
      rw [q1] at h; rw [q2 d' n' hd'] at h'
      have h1 := (hge n b s h).1
      have h2 := (hbd d' n' b s' h').2
      omega
    · subst hd'
      rw [q1] at h'; rw [q2 d n hd] at h
      have h1 := (hge n' b s' h').1
      have h2 := (hbd d n b s h).2
      omega
    · rw [q2 d n hd] at h; rw [q2 d' n' hd'] at h'
      exact hm.inj _ _ _ _ b s s' h h'
  · by_cases hd : d < fs.length
    · rw [hup d n hd] at hB
      refine hlow.blk hd (blk_keep hK (q2 d n (Nat.ne_of_lt hd)) (fun b s h => hk.step.block b (hbd d n b s h).2 (fun _ _ _ h => by cases h)) (hm.blk d n B hB))
    · have hlt := getUp_lt hB
      simp only [List.length_cons] at hlt
      have hd2 : d = fs.length := by omega
      subst hd2
      rw [htop] at hB
      have hB' := hB
      rw [look_rowsF] at hB'
      simp only [Nat.zero_le, if_true, Nat.sub_zero] at hB'
      have hmem := List.mem_of_getElem? hB'
      rcases hF with hF | hF
      · obtain ⟨_, rs, hrs⟩ := hrows B hmem
        have hb := hm'.blk 0 n B (by rw [htop']; exact hB)
        unfold BlkOK at hb ⊢
        rw [hrs] at hb ⊢
        rcases hb with ⟨h1, h2⟩ | ⟨b, s, us, h1, h2, h3, h4, h5, h6⟩
        · exact .inl ⟨h1, (q1 n).trans h2⟩
        · exact .inr ⟨b, s, us, (q1 n).trans h1, h2, h3, h4, h5, fun j e o x he hx => by
            obtain ⟨v, hv, hr⟩ := h6 j e o x he hx
            exact ⟨v, hv, hP hF hr⟩⟩
      · subst hF; cases hmem
  · intro u v hpo hfl hr
    have : v.map (lift1 fs.length) = (v.map (lift1 0)).map (lift1 fs.length) := by
      rw [AV.map_map]
      exact AV.map_congr fun c => by cases c <;> rfl
    rw [this]
    refine repA_map (fun x c hc h => ?_) (fun c h => by subst h; rfl) hr
    obtain ⟨c0, h0, rfl⟩ := AV.mem_map hc
    have h9 := hpo c0 h0
    cases c0 with
    | p x =>
      rcases hfl with hfl | hfl
      · exact hP hfl h
      · exact flat_rep (hfl _ h0) h
    | own d i g m =>
      obtain ⟨h1, B, h2, h3, h4⟩ := h
      refine ⟨h1, B, by rw [htop]; rw [htop'] at h2; exact h2, h3, fun e => ?_⟩
      show _ ∨ ∃ b s cap, pl2 fs.length i = _ ∧ _
      rw [q1]
      exact h4 e
    | _ => simp [CV.po] at h9

theorem lend1_ok (hm : MemOK F N0 (st.fr :: st.up) pl w) {v : Value} {x y : CV} {lent : Bool} (h : lend1 st x = some (y, lent)) (hF : ∀ k, F' k → Own F pl k) (hl : lent = true → ∀ k, ¬ F' k) (hv : RepC F (st.fr :: st.up) pl w v x) :
    RepC F' [] noPl w v y ∧ (y = .u → x = .u) := by
  have own : ∀ k, Own F' noPl k → F' k := fun k h => h.elim id (fun ⟨_, _, _, h⟩ => by cases h)
  have hP : ∀ {u x}, RepP (Own F pl) w u x → RepP (Own F' noPl) w u x := fun {u x} h => h.step (fun _ _ _ => rfl) (Nat.le_refl _) (fun k hk => .inl (hF k (own k hk)))
  unfold lend1 at h
  split at h
  · rename_i d n g m
    split at h
    · rename_i g' sz ty rows hB
      split at h
      · rename_i hc
        obtain ⟨rfl, rfl⟩ := hc
        cases h
        exact ⟨row_plain hm hv hB rfl (fun b s _ hk => hl rfl b (own b hk)) (fun h => hP h), fun h => by cases h⟩
      · cases h
    · cases h
  · cases h
    have hv : RepP (Own F pl) w v _ := hv
    exact ⟨hP hv.weak, fun h => by cases h⟩
  · split at h
    · rename_i hp
      cases h
      refine ⟨?_, id⟩
      cases x with
      | p z => exact hP hv
      | nfn => exact hv
      | fn f caps =>
        obtain ⟨vals, h1, h2, h3⟩ := hv
        refine ⟨vals, h1, h2, fun i u c hu hc => ?_⟩
        have h4 := h3 i u c hu hc
        cases c with
        | p z => exact hP h4
        | ptr d n g =>
          simp only [CV.pure, List.all_eq_true] at hp
          have := hp _ (List.mem_of_getElem? hc)
          simp at this
      | _ => simp [CV.pure] at hp
    · cases h

theorem lends_ok (hm : MemOK F N0 (st.fr :: st.up) pl w) (hF : ∀ k, F' k → Own F pl k) : ∀ {us : List Value} {xs ys : List CV} {lent : Bool}, lends st xs = some (ys, lent) → (lent = true → ∀ k, ¬ F' k) → RepCs F (st.fr :: st.up) pl w us xs → RepCs F' [] noPl w us ys
  | us, [], ys, lent, h, hl, hr => by
    simp only [lends, Option.some.injEq, Prod.mk.injEq] at h
    obtain ⟨rfl, rfl⟩ := h
    exact ⟨hr.1, fun i u c hu hc => by simp at hc⟩
  | us, x :: xs, ys, lent, h, hl, hr => by
    simp only [lends, Option.bind_eq_some_iff] at h
    obtain ⟨⟨y, p⟩, h1, ⟨ys', q⟩, h2, h3⟩ := h
    simp only [Option.some.injEq, Prod.mk.injEq] at h3
    obtain ⟨rfl, rfl⟩ := h3
    match us, hr with
    | [], hr => exact absurd hr.1 (by simp)
    | u :: us, hr =>
      have h4 := hr.2 0 u x rfl rfl
      obtain ⟨h5, h6⟩ := lend1_ok hm h1 hF (fun e => hl (by simp [e])) h4.1
      have h7 := lends_ok hm hF h2 (fun e => hl (by simp [e])) (us := us) ⟨by simpa using hr.1, fun i u c hu hc => hr.2 (i + 1) u c (by simpa using hu) (by simpa using hc)⟩
      refine ⟨by simp [h7.1], fun i v c hv hc => ?_⟩
      cases i with
      | zero =>
        simp only [List.getElem?_cons_zero, Option.some.injEq] at hv hc
        subst hv; subst hc
        refine ⟨h5, ?_⟩
        rcases h4.2 with e | e
        · subst e
          simp [lend1, CV.pure] at h1
        · exact .inr e
      | succ i => exact h7.2 i v c (by simpa using hv) (by simpa using hc)

theorem lendA_ok (hm : MemOK F N0 (st.fr :: st.up) pl w) (hF : ∀ k, F' k → Own F pl k) {v : Value} {x y : AV} {lent : Bool} (h : lendA st x = some (y, lent)) (hl : lent = true → ∀ k, ¬ F' k) (hr : RepA F (st.fr :: st.up) pl w v x) : RepA F' [] noPl w v y := by
  cases x with
  | c x =>
    simp only [lendA, Option.map_eq_some_iff] at h
    obtain ⟨⟨z, p⟩, h1, h2⟩ := h
    simp only [Prod.mk.injEq] at h2
    obtain ⟨rfl, rfl⟩ := h2
    exact (lend1_ok hm h1 hF hl hr).1
  | agg cs =>
    simp only [lendA, Option.map_eq_some_iff] at h
    obtain ⟨⟨z, p⟩, h1, h2⟩ := h
    simp only [Prod.mk.injEq] at h2
    obtain ⟨rfl, rfl⟩ := h2
    obtain ⟨us, h3, h4⟩ := hr
    exact ⟨us, h3, lends_ok hm hF h1 hl h4⟩
  | tup vs => simp [lendA] at h

def RepAs (F : Nat → Prop) (fs : List Frame) (pl : Pl) (w : World) (us : List Value) (xs : List AV) : Prop := us.length = xs.length ∧ ∀ (i : Nat) u x, us[i]? = some u → xs[i]? = some x → RepA F fs pl w u x

theorem lendAs_ok (hm : MemOK F N0 (st.fr :: st.up) pl w) (hF : ∀ k, F' k → Own F pl k) : ∀ {us : List Value} {xs ys : List AV} {lent : Bool}, lendAs st xs = some (ys, lent) → (lent = true → ∀ k, ¬ F' k) → RepAs F (st.fr :: st.up) pl w us xs → RepAs F' [] noPl w us ys
  | us, [], ys, lent, h, hl, hr => by
    simp only [lendAs, Option.some.injEq, Prod.mk.injEq] at h
    obtain ⟨rfl, rfl⟩ := h
    exact ⟨hr.1, fun i u c hu hc => by simp at hc⟩
  | us, x :: xs, ys, lent, h, hl, hr => by
    simp only [lendAs, Option.bind_eq_some_iff] at h
    obtain ⟨⟨y, p⟩, h1, ⟨ys', q⟩, h2, h3⟩ := h
    simp only [Option.some.injEq, Prod.mk.injEq] at h3
    obtain ⟨rfl, rfl⟩ := h3
    match us, hr with
    | [], hr => exact absurd hr.1 (by simp)
    | u :: us, hr =>
      have h5 := lendA_ok hm hF h1 (fun e => hl (by simp [e])) (hr.2 0 u x rfl rfl)
      have h7 := lendAs_ok hm hF h2 (fun e => hl (by simp [e])) (us := us) ⟨by simpa using hr.1, fun i u c hu hc => hr.2 (i + 1) u c (by simpa using hu) (by simpa using hc)⟩
      refine ⟨by simp [h7.1], fun i v c hv hc => ?_⟩
      cases i with
      | zero =>
        simp only [List.getElem?_cons_zero, Option.some.injEq] at hv hc
        subst hv; subst hc
        exact h5
      | succ i => exact h7.2 i v c (by simpa using hv) (by simpa using hc)

/-- what is asked of the functions that may be called -/
def Sound (P : Program) (run : Runs) : Prop :=
  ∀ f args up r, run f args up = some r → ∀ F N0 pl w vals, MemOK F N0 up pl w → N0 ≤ w.heap.size → RepAs F up pl w vals args → Goes P f vals.toArray w (RetOK F N0 up pl w r)

theorem cap_av {v : Value} {c : Cap} (h : RepCap F fs pl w v c) : RepA F fs pl w v c.av := by
  cases c with
  | p x => exact h
  | ptr d n g =>
    obtain ⟨h0, B, h1, h2, h3⟩ := h
    exact ⟨h0, B, h1, h2, fun e => by
      obtain ⟨b, s, h4, h5⟩ := h3 e
      exact ⟨b, s, h4, by simpa using h5⟩⟩

theorem op_call {run : Runs} (hS : Sound P run) {o : Oper} {c : Call} {f : Operand} {g : KX} {ks : List KX} {borrow : Bool} {dst : Nat} {v : AV} (ho : o.op = .call c) (hc : c.callee = .value f) (hf : kx f = some g) (hx : c.args.toList.mapM kx = some ks) (hr : Rel F N0 T pl st a w)
    (h : evalOp run st dst (.call borrow g ks) = some (v, st')) : Runs1 P o a w (fun u w' => Post F N0 pl st w v st' u w' ∧ (borrow = true → Grow w w')) := by
  simp only [evalOp] at h
  split at h
  · rename_i fid caps hg
    have e1 := eval_rep hr hf
    rw [hg] at e1
    obtain ⟨vals, e1, hvl, hvc⟩ := e1
    obtain ⟨hl, hk⟩ := mapM_len hx
    have hargs : RepAs F (st.fr :: st.up) pl w (c.args.toList.map a.eval ++ vals) (ks.map st.eval ++ caps.map Cap.av) := by
      refine ⟨by simp [hl, hvl], fun i u x hu hx' => ?_⟩
      rw [List.getElem?_append] at hu hx'
      simp only [List.length_map] at hu hx'
      rw [hl] at hx'
      split at hu
      · rename_i hi
        rw [if_pos hi] at hx'
        simp only [List.getElem?_map, Option.map_eq_some_iff] at hu hx'
        obtain ⟨p, hp, rfl⟩ := hu
        obtain ⟨q, hq, rfl⟩ := hx'
        exact eval_rep hr (hk i p q hp hq)
      · rename_i hi
        rw [if_neg hi] at hx'
        simp only [List.getElem?_map, Option.map_eq_some_iff] at hx'
        obtain ⟨q, hq, rfl⟩ := hx'
        exact cap_av (hvc _ _ _ hu hq)
    have harr : c.args.map a.eval ++ vals.toArray = (c.args.toList.map a.eval ++ vals).toArray := by
      apply Array.toList_inj.1; simp
    refine wp_goes (R := fun u w' => Post F N0 pl st w v st' u w' ∧ (borrow = true → Grow w w')) ho hc e1 ?_
    rw [harr]
    unfold doCall at h
    split at h
    · obtain ⟨⟨args', lent⟩, h1, h⟩ := Option.bind_eq_some_iff.1 h
      obtain ⟨r, h2, h⟩ := Option.bind_eq_some_iff.1 h
      split at h
      · rename_i hcond
        simp only [Option.some.injEq, Prod.mk.injEq] at h
        obtain ⟨rfl, rfl⟩ := h
        let F' : Nat → Prop := fun k => lent = false ∧ Own F pl k
        have hl1 := lendAs_ok (F' := F') hr.mem (fun k hk => hk.2) h1 (fun e k hk => by have := hk.1; rw [e] at this; cases this) hargs
        have hm0 : MemOK F' w.heap.size [] noPl w := ⟨fun d n b s h => (by cases h), fun d n d' n' b s s' h => (by cases h), fun d n B h => (by cases h), fun k hk => by
          rcases hk.2 with h | ⟨d, n, s, h⟩
          · exact hr.mem.fsz k h
          · exact (hr.mem.live d n k s h).2.1⟩
        refine (hS fid args' [] r h2 F' w.heap.size noPl w _ hm0 (Nat.le_refl _) hl1).mono fun u w' hret => ?_
        obtain ⟨⟨pl1, r1, r2, r3⟩, r4, r5⟩ := hret
        have hup : r.up = [] := List.eq_nil_of_length_eq_zero r3.later.len
        rw [hup] at r1 r2 r3
        have hF1 : (∀ k, Own F pl k → F' k) ∨ r.rows = [] := by
          rcases hcond with h | h
          · exact .inl fun k hk => ⟨h, hk⟩
          · exact .inr (by simpa using h.2)
        have hF2 : (∀ k, Own F pl k → F' k) ∨ ∀ c ∈ r.v.cvs, c.flat = true := by
          rcases hcond with h | h
          · exact .inl fun k hk => ⟨h, hk⟩
          · exact .inr fun c hc => List.all_eq_true.1 h.1 c hc
        obtain ⟨pl2, p1, p2, p3⟩ := push_ok hr.mem hr.low r2 r3 r5 hF1
        obtain ⟨pl3, q1, q2, q3⟩ := adopt_ok (n := dst) p1 r5
        exact ⟨⟨⟨pl3, q3 r4 (p3 r4 hF2 r1), q1, p2.trans q2⟩, rfl⟩, fun _ => ⟨r3.step.size, fun k hk => r3.step.block k hk (fun _ _ _ h => by cases h)⟩⟩
      · cases h
    · obtain ⟨r, h2, h⟩ := Option.bind_eq_some_iff.1 h
      split at h
      · rename_i fr' up' hup
        simp only [Option.some.injEq, Prod.mk.injEq] at h
        obtain ⟨rfl, rfl⟩ := h
        refine (hS fid _ _ r h2 F N0 pl w _ hr.mem hr.low hargs).mono fun u w' hret => ?_
        obtain ⟨⟨pl1, r1, r2, r3⟩, r4, r5⟩ := hret
        rw [hup] at r1 r2 r3
        obtain ⟨pl3, q1, q2, q3⟩ := adopt_ok (n := dst) r2 r5
        have hlen : up'.length = st.up.length := by have := r3.later.len; simpa using this
        refine ⟨⟨⟨pl3, ?_, q1, r3.trans q2⟩, rfl⟩, fun e => absurd e ‹_›⟩
        have := q3 r4 r1
        rw [hlen] at this
        exact this
      · cases h
  · cases h
end
end Go.Eng
