/-
  THE ENGINE, 16: a call as an operation.
-/
import Derived.Test.YtaannlnlddbgdabDoorE15
set_option linter.unusedVariables false
set_option linter.unusedSimpArgs false
namespace Go.Eng
open Go.RowKit

def noPl : Pl := fun _ _ => none
section
variable {P : Program} {F F' : Nat → Prop} {G : Nat → Option Obj} {N0 : Base G} {T : Nat} {pl pl' pl1 : Pl} {st st' : St} {a : Act} {w w' : World} {fs fs' : List Frame} {f' : Frame} {up : List Frame}

theorem flat_rep {own own' : Nat → Prop} {v : Value} {x : PV} (hf : (CV.p x).flat = true) (h : RepP own w v x) : RepP own' w v x := by
  cases h <;> first | (constructor; done) | simp [CV.flat] at hf

theorem push_ok {rows : List Blk} (hm : MemOK F N0 fs pl w) (hN : N0.n ≤ w.heap.size) (hm' : MemOK F' (⟨w.heap.size⟩ : Base G) (rowsF rows 0 :: []) pl1 w') (hk : Keep F' [] [] noPl pl1 w w')
    (hrows : ∀ B ∈ rows, B.g = 0 ∧ B.k.okO = true) (hF : (∀ k, Own F pl k → F' k) ∨ ∀ B ∈ rows, flatB B = true) :
    ∃ pl2, MemOK F N0 (rowsF rows 0 :: fs) pl2 w' ∧ Keep F fs fs pl pl2 w w' ∧
      ∀ {u : Value} {v : AV}, (∀ c ∈ v.cvs, c.po = true) → ((∀ k, Own F pl k → F' k) ∨ ∀ c ∈ v.cvs, flatO c = true) → RepA F' (rowsF rows 0 :: []) pl1 w' u (v.map (lift1 0)) → RepA F (rowsF rows 0 :: fs) pl2 w' u (v.map (lift1 fs.length)) := by
  let pl2 : Pl := fun d n => if d = fs.length then pl1 0 n else pl d n
  have hbd : ∀ d n b s, pl d n = some (b, s) → d < fs.length ∧ b < w.heap.size := fun d n b s h => by
    obtain ⟨_, h2, _, B, hB⟩ := hm.live d n b s h
    exact ⟨getUp_lt hB, h2⟩
  have q1 : ∀ n, pl2 fs.length n = pl1 0 n := fun n => by simp [pl2]
  have q2 : ∀ d n, d ≠ fs.length → pl2 d n = pl d n := fun d n h => by simp [pl2, h]
  have hge : ∀ n b s, pl1 0 n = some (b, s) → w.heap.size ≤ b ∧ b < w'.heap.size ∧ ∃ B, look n (rowsF rows 0) = some B := fun n b s h => by
    obtain ⟨h1, h2, _, B, hB⟩ := hm'.live 0 n b s h
    exact ⟨h1, h2, B, by simpa [getUp] using hB⟩
  have hstep : Step pl w w' := ⟨hk.step.os, hk.step.tape, hk.step.output, hk.step.size, fun k hk' _ => hk.step.block k hk' (fun _ _ _ h => by cases h)⟩
  have hK : Keep F fs fs pl pl2 w w' := by
    refine ⟨hstep, rfl, fun d n b hb => ⟨b, hb, Nat.le_refl _, fun _ => ⟨q2 d n (Nat.ne_of_lt (getUp_lt hb)), rfl⟩⟩, fun d n b s h => ?_⟩
    by_cases hd : d = fs.length
    · subst hd; rw [q1] at h; exact .inr (hge n b s h).1
    · rw [q2 d n hd] at h; exact .inl ⟨d, n, s, h⟩
  have hup : ∀ d n, d < fs.length → getUp d n (rowsF rows 0 :: fs) = getUp d n fs := fun d n hd => by simp [getUp, Nat.ne_of_lt hd]
  have htop : ∀ n, getUp fs.length n (rowsF rows 0 :: fs) = look n (rowsF rows 0) := fun n => by simp [getUp]
  have htop' : ∀ n, getUp 0 n (rowsF rows 0 :: []) = look n (rowsF rows 0) := fun n => by simp [getUp]
  have hlow : Low fs.length fs pl2 (rowsF rows 0 :: fs) pl2 := ⟨fun d n hd => ⟨hup d n hd, rfl⟩, fun d n b s h => ⟨d, n, h⟩⟩
  have hP : (∀ k, Own F pl k → F' k) → ∀ {u x}, RepP (Own F' pl1) w' u x → RepP (Own F pl2) w' u x := fun hF {u x} h =>
    h.step (fun _ _ _ => rfl) (Nat.le_refl _) (fun k hk' => by
      rcases hk' with hk' | ⟨d, n, s, hk'⟩
      · exact .inl (.inl (hF k (.inl hk')))
      · by_cases hd : d = fs.length
        · subst hd; rw [q1] at hk'; exact .inl (.inr ⟨0, n, s, hk'⟩)
        · rw [q2 d n hd] at hk'; exact .inl (.inl (hF k (.inr ⟨d, n, s, hk'⟩))))
  refine ⟨pl2, ⟨fun d n b s h => ?_, fun d n d' n' b s s' h h' => ?_, fun d n B hB => ?_, fun k hF => Nat.lt_of_lt_of_le (hm.fsz k hF) hk.step.size, fix_step hm hstep.block⟩, hK, ?_⟩
  · by_cases hd : d = fs.length
    · subst hd
      rw [q1] at h
      obtain ⟨h1, h2, B, hB⟩ := hge n b s h
      exact ⟨by omega, h2, fun hF => by have := hm.fsz b hF; omega, B, by rw [htop]; exact hB⟩
    · rw [q2 d n hd] at h
      obtain ⟨h1, h2, h3, B, hB⟩ := hm.live d n b s h
      exact ⟨h1, Nat.lt_of_lt_of_le h2 hk.step.size, h3, B, by rw [hup d n (getUp_lt hB)]; exact hB⟩
  · by_cases hd : d = fs.length <;> by_cases hd' : d' = fs.length
    · subst hd; subst hd'
      rw [q1] at h h'
      exact ⟨rfl, (hm'.inj _ _ _ _ b s s' h h').2⟩
    · subst hd
      rw [q1] at h; rw [q2 d' n' hd'] at h'
      have h1 := (hge n b s h).1
      have h2 := (hbd d' n' b s' h').2
      omega
    · subst hd'
      rw [q1] at h'; rw [q2 d n hd] at h
      have h1 := (hge n' b s' h').1
      have h2 := (hbd d n b s h).2
      omega
    · rw [q2 d n hd] at h; rw [q2 d' n' hd'] at h'
      exact hm.inj _ _ _ _ b s s' h h'
  · by_cases hd : d < fs.length
    · rw [hup d n hd] at hB
      refine hlow.blk hd (blk_keep hK (q2 d n (Nat.ne_of_lt hd)) (fun b s h => hk.step.block b (hbd d n b s h).2 (fun _ _ _ h => by cases h)) (hm.blk d n B hB))
    · have hlt := getUp_lt hB
      simp only [List.length_cons] at hlt
      have hd2 : d = fs.length := by omega
      subst hd2
      rw [htop] at hB
      have hB' := hB
      rw [look_rowsF] at hB'
      simp only [Nat.zero_le, if_true, Nat.sub_zero] at hB'
      have hmem := List.mem_of_getElem? hB'
      rcases hF with hF | hF
      · have hok := (hrows B hmem).2
        have hb := hm'.blk 0 n B (by rw [htop']; exact hB)
        unfold BlkOK at hb ⊢
        cases hrs : B.k with
        | row rs =>
          rw [hrs] at hb
          rcases hb with ⟨h1, h2⟩ | ⟨b, s, us, h1, h2, h3, h4, h5, h6⟩
          · exact .inl ⟨h1, (q1 n).trans h2⟩
          · exact .inr ⟨b, s, us, (q1 n).trans h1, h2, h3, h4, h5, fun j e o x he hx => by
              obtain ⟨v, hv, hr⟩ := h6 j e o x he hx
              exact ⟨v, hv, hP hF hr⟩⟩
        | box cells =>
          rw [hrs] at hb hok
          obtain ⟨b, us, h1, h2, h3, h4⟩ := hb
          exact ⟨b, us, (q1 n).trans h1, h2, cells_moved (fun h => hP hF h) rfl rfl hok h3, plain_dep hok _⟩
        | dead => rw [hrs] at hok; cases hok
      · have hfl := hF B hmem
        have hb := hm'.blk 0 n B (by rw [htop']; exact hB)
        unfold flatB at hfl
        unfold BlkOK at hb ⊢
        cases hrs : B.k with
        | row rs =>
          rw [hrs] at hb hfl
          rcases hb with ⟨h1, h2⟩ | ⟨b, s, us, h1, h2, h3, h4, h5, h6⟩
          · exact .inl ⟨h1, (q1 n).trans h2⟩
          · exact .inr ⟨b, s, us, (q1 n).trans h1, h2, h3, h4, h5, fun j e o x he hx => by
              obtain ⟨v, hv, hr⟩ := h6 j e o x he hx
              exact ⟨v, hv, flat_rep (List.all_eq_true.1 (List.all_eq_true.1 hfl e (List.mem_of_getElem? he)) x (List.mem_of_getElem? hx)) hr⟩⟩
        | box cells => rw [hrs] at hfl; cases hfl
        | dead => rw [hrs] at hfl; cases hfl
  · intro u v hpo hfl hr
    have : v.map (lift1 fs.length) = (v.map (lift1 0)).map (lift1 fs.length) := by
      rw [AV.map_map]
      exact AV.map_congr fun c => by cases c <;> rfl
    rw [this]
    refine repA_map (fun x c hc h => ?_) (fun c h => by subst h; rfl) hr
    obtain ⟨c0, h0, rfl⟩ := AV.mem_map hc
    have h9 := hpo c0 h0
    cases c0 with
    | p x =>
      rcases hfl with hfl | hfl
      · exact hP hfl h
      · exact flat_rep (hfl _ h0) h
    | own d i g m =>
      obtain ⟨h1, B, h2, h3, h4⟩ := h
      refine ⟨h1, B, by rw [htop]; rw [htop'] at h2; exact h2, h3, fun e => ?_⟩
      show _ ∨ ∃ b s cap, pl2 fs.length i = _ ∧ _
      rw [q1]
      exact h4 e
    | ptr d i g j o =>
      obtain ⟨h1, B, h2, h3, h4⟩ := h
      refine ⟨h1, B, by rw [htop]; rw [htop'] at h2; exact h2, h3, fun e => ?_⟩
      show ∃ b s, pl2 fs.length i = _ ∧ _
      rw [q1]
      exact h4 e
    | _ => simp [CV.po] at h9

theorem lend1_ok (hm : MemOK F N0 (st.fr :: st.up) pl w) {v : Value} {x y : CV} {lent : Bool} (h : lend1 st x = some (y, lent)) (hF : ∀ k, F' k → Own F pl k) (hl : lent = true → ∀ k, ¬ F' k) (hv : RepC F (st.fr :: st.up) pl w v x) :
    RepC F' [] noPl w v y ∧ (y = .u → x = .u) := by
  have own : ∀ k, Own F' noPl k → F' k := fun k h => h.elim id (fun ⟨_, _, _, h⟩ => by cases h)
  have hP : ∀ {u x}, RepP (Own F pl) w u x → RepP (Own F' noPl) w u x := fun {u x} h => h.step (fun _ _ _ => rfl) (Nat.le_refl _) (fun k hk => .inl (hF k (own k hk)))
  unfold lend1 at h
  split at h
  · rename_i d n g m
    split at h
    · rename_i g' sz ty rows hB
      split at h
      · rename_i hc
        obtain ⟨rfl, rfl⟩ := hc
        cases h
        exact ⟨row_plain hm hv hB rfl (fun b s _ hk => hl rfl b (own b hk)) (fun h => hP h), fun h => by cases h⟩
      · cases h
    · cases h
  · cases h
    have hv : RepP (Own F pl) w v _ := hv
    exact ⟨hP hv.weak, fun h => by cases h⟩
  · split at h
    · rename_i hp
      cases h
      refine ⟨?_, id⟩
      cases x with
      | p z => exact hP hv
      | nfn => exact hv
      | fn f caps =>
        obtain ⟨vals, h1, h2, h3⟩ := hv
        refine ⟨vals, h1, h2, fun i u c hu hc => ?_⟩
        have h4 := h3 i u c hu hc
        cases c with
        | p z => exact hP h4
        | ptr d n g =>
          simp only [CV.pure, List.all_eq_true] at hp
          have := hp _ (List.mem_of_getElem? hc)
          simp at this
      | _ => simp [CV.pure] at hp
    · cases h

theorem lends_ok (hm : MemOK F N0 (st.fr :: st.up) pl w) (hF : ∀ k, F' k → Own F pl k) : ∀ {us : List Value} {xs ys : List CV} {lent : Bool}, lends st xs = some (ys, lent) → (lent = true → ∀ k, ¬ F' k) → RepCs F (st.fr :: st.up) pl w us xs → RepCs F' [] noPl w us ys
  | us, [], ys, lent, h, hl, hr => by
    simp only [lends, Option.some.injEq, Prod.mk.injEq] at h
    obtain ⟨rfl, rfl⟩ := h
    exact ⟨hr.1, fun i u c hu hc => by simp at hc⟩
  | us, x :: xs, ys, lent, h, hl, hr => by
    simp only [lends, Option.bind_eq_some_iff] at h
    obtain ⟨⟨y, p⟩, h1, ⟨ys', q⟩, h2, h3⟩ := h
    simp only [Option.some.injEq, Prod.mk.injEq] at h3
    obtain ⟨rfl, rfl⟩ := h3
    match us, hr with
    | [], hr => exact absurd hr.1 (by simp)
    | u :: us, hr =>
      have h4 := hr.2 0 u x rfl rfl
      obtain ⟨h5, h6⟩ := lend1_ok hm h1 hF (fun e => hl (by simp [e])) h4.1
      have h7 := lends_ok hm hF h2 (fun e => hl (by simp [e])) (us := us) ⟨by simpa using hr.1, fun i u c hu hc => hr.2 (i + 1) u c (by simpa using hu) (by simpa using hc)⟩
      refine ⟨by simp [h7.1], fun i v c hv hc => ?_⟩
      cases i with
      | zero =>
        simp only [List.getElem?_cons_zero, Option.some.injEq] at hv hc
        subst hv; subst hc
        refine ⟨h5, ?_⟩
        rcases h4.2 with e | e
        · subst e
          simp [lend1, CV.pure] at h1
        · exact .inr e
      | succ i => exact h7.2 i v c (by simpa using hv) (by simpa using hc)

theorem lendA_ok (hm : MemOK F N0 (st.fr :: st.up) pl w) (hF : ∀ k, F' k → Own F pl k) {v : Value} {x y : AV} {lent : Bool} (h : lendA st x = some (y, lent)) (hl : lent = true → ∀ k, ¬ F' k) (hr : RepA F (st.fr :: st.up) pl w v x) : RepA F' [] noPl w v y := by
  cases x with
  | c x =>
    simp only [lendA, Option.map_eq_some_iff] at h
    obtain ⟨⟨z, p⟩, h1, h2⟩ := h
    simp only [Prod.mk.injEq] at h2
    obtain ⟨rfl, rfl⟩ := h2
    exact (lend1_ok hm h1 hF hl hr).1
  | agg cs =>
    simp only [lendA, Option.map_eq_some_iff] at h
    obtain ⟨⟨z, p⟩, h1, h2⟩ := h
    simp only [Prod.mk.injEq] at h2
    obtain ⟨rfl, rfl⟩ := h2
    obtain ⟨us, h3, h4⟩ := hr
    exact ⟨us, h3, lends_ok hm hF h1 hl h4⟩
  | tup vs => simp [lendA] at h

def RepAs (F : Nat → Prop) (fs : List Frame) (pl : Pl) (w : World) (us : List Value) (xs : List AV) : Prop := us.length = xs.length ∧ ∀ (i : Nat) u x, us[i]? = some u → xs[i]? = some x → RepA F fs pl w u x

theorem lendAs_ok (hm : MemOK F N0 (st.fr :: st.up) pl w) (hF : ∀ k, F' k → Own F pl k) : ∀ {us : List Value} {xs ys : List AV} {lent : Bool}, lendAs st xs = some (ys, lent) → (lent = true → ∀ k, ¬ F' k) → RepAs F (st.fr :: st.up) pl w us xs → RepAs F' [] noPl w us ys
  | us, [], ys, lent, h, hl, hr => by
    simp only [lendAs, Option.some.injEq, Prod.mk.injEq] at h
    obtain ⟨rfl, rfl⟩ := h
    exact ⟨hr.1, fun i u c hu hc => by simp at hc⟩
  | us, x :: xs, ys, lent, h, hl, hr => by
    simp only [lendAs, Option.bind_eq_some_iff] at h
    obtain ⟨⟨y, p⟩, h1, ⟨ys', q⟩, h2, h3⟩ := h
    simp only [Option.some.injEq, Prod.mk.injEq] at h3
    obtain ⟨rfl, rfl⟩ := h3
    match us, hr with
    | [], hr => exact absurd hr.1 (by simp)
    | u :: us, hr =>
      have h5 := lendA_ok hm hF h1 (fun e => hl (by simp [e])) (hr.2 0 u x rfl rfl)
      have h7 := lendAs_ok hm hF h2 (fun e => hl (by simp [e])) (us := us) ⟨by simpa using hr.1, fun i u c hu hc => hr.2 (i + 1) u c (by simpa using hu) (by simpa using hc)⟩
      refine ⟨by simp [h7.1], fun i v c hv hc => ?_⟩
      cases i with
      | zero =>
        simp only [List.getElem?_cons_zero, Option.some.injEq] at hv hc
        subst hv; subst hc
        exact h5
      | succ i => exact h7.2 i v c (by simpa using hv) (by simpa using hc)

/-- what is asked of the functions that may be called -/
def Sound (G : Nat → Option Obj) (P : Program) (run : Runs) : Prop :=
  ∀ f args up r, run f args up = some r → ∀ F (N0 : Base G) pl w vals, MemOK F N0 up pl w → N0.n ≤ w.heap.size → RepAs F up pl w vals args → Goes P f vals.toArray w (RetOK F N0 up pl w r)

theorem cap_av {v : Value} {c : Cap} (h : RepCap F fs pl w v c) : RepA F fs pl w v c.av := by
  cases c with
  | p x => exact h
  | ptr d n g =>
    obtain ⟨h0, B, h1, h2, h3⟩ := h
    exact ⟨h0, B, h1, h2, fun e => by
      obtain ⟨b, s, h4, h5⟩ := h3 e
      exact ⟨b, s, h4, by simpa using h5⟩⟩

theorem getUp_set {st : St} {d n : Nat} {B : Blk} (hd : d < (st.fr :: st.up).length) (d' m : Nat) : getUp d' m ((st.set d n B).fr :: (st.set d n B).up) = if d' = d ∧ m = n then some B else getUp d' m (st.fr :: st.up) := by
  have : (st.set d n B).fr :: (st.set d n B).up = setUp d n B (st.fr :: st.up) := by
    unfold St.set
    split
    · rename_i e; simp [setUp, e]
    · rename_i e; simp [setUp, e]
  rw [this, getUp_setUp _ _ hd]
theorem set_up_len (st : St) (d n : Nat) (B : Blk) : (st.set d n B).up.length = st.up.length := by
  unfold St.set
  split
  · rfl
  · exact setUp_length _

theorem plainP_ok (hP : ∀ {u x}, RepP (Own F pl) w u x → RepP (Own F' pl1) w u x) : ∀ {cs ds : List CV} {us : List Value}, plainP cs = some ds → RepCs F fs pl w us cs → RepCs F' fs' pl1 w us ds
  | [], ds, us, h, hr => by cases h; exact ⟨hr.1, fun i u c hu hc => by simp at hc⟩
  | c :: cs, ds, us, h, hr => by
    cases c with
    | p x =>
      obtain ⟨ds', h1, rfl⟩ := Option.map_eq_some_iff.1 h
      cases us with
      | nil => have := hr.1; simp at this
      | cons u us =>
        have ih := plainP_ok hP h1 (us := us) ⟨by have := hr.1; simpa using this, fun i v d hv hd => hr.2 (i + 1) v d (by simpa using hv) (by simpa using hd)⟩
        obtain ⟨h2, h3⟩ := hr.2 0 u _ rfl rfl
        refine ⟨by have := ih.1; simp [this], fun i v d hv hd => ?_⟩
        cases i with
        | zero =>
          cases hv; cases hd
          have h2 : RepP (Own F pl) w u x := h2
          exact ⟨(hP h2).weak, .inr h2.one.1⟩
        | succ i => exact ih.2 i v d (by simpa using hv) (by simpa using hd)
    | _ => cases h
theorem plainA_ok (hP : ∀ {u x}, RepP (Own F pl) w u x → RepP (Own F' pl1) w u x) {v : Value} {x y : AV} (h : plainA x = some y) (hr : RepA F fs pl w v x) : RepA F' fs' pl1 w v y := by
  unfold plainA at h
  split at h
  · cases h
    have hr : RepP (Own F pl) w v _ := hr
    exact (hP hr).weak
  · obtain ⟨ds, h1, rfl⟩ := Option.map_eq_some_iff.1 h
    obtain ⟨us, rfl, h2⟩ := hr
    exact ⟨us, rfl, plainP_ok hP h1 h2⟩
  · cases h
theorem plainAs_ok (hP : ∀ {u x}, RepP (Own F pl) w u x → RepP (Own F' pl1) w u x) : ∀ {us : List Value} {xs ys : List AV}, plainAs xs = some ys → RepAs F fs pl w us xs → RepAs F' fs' pl1 w us ys
  | us, [], ys, h, hr => by cases h; exact ⟨hr.1, fun i u c hu hc => by simp at hc⟩
  | us, x :: xs, ys, h, hr => by
    simp only [plainAs, Option.bind_eq_some_iff, Option.map_eq_some_iff] at h
    obtain ⟨a, h1, r, h2, rfl⟩ := h
    cases us with
    | nil => have := hr.1; simp at this
    | cons u us =>
      have ih := plainAs_ok hP h2 (us := us) ⟨by have := hr.1; simpa using this, fun i v d hv hd => hr.2 (i + 1) v d (by simpa using hv) (by simpa using hd)⟩
      refine ⟨by have := ih.1; simp [this], fun i v d hv hd => ?_⟩
      cases i with
      | zero => cases hv; cases hd; exact plainA_ok hP h1 (hr.2 0 u x rfl rfl)
      | succ i => exact ih.2 i v d (by simpa using hv) (by simpa using hd)

theorem map_flat {φ : CV → CV} (hφ : ∀ x, φ (.p x) = .p x) {v : AV} (h : ∀ c ∈ v.cvs, c.flat = true) : v.map φ = v := by
  have key : ∀ cs : List CV, (∀ c ∈ cs, c.flat = true) → cs.map φ = cs := fun cs h => by
    conv => rhs; rw [← List.map_id cs]
    refine List.map_congr_left fun c hc => ?_
    have := h c hc
    cases c with
    | p x => exact hφ x
    | _ => simp [CV.flat] at this
  cases v with
  | c x =>
    have := key [x] (fun c hc => h c hc)
    simp only [List.map_cons, List.map_nil, List.cons.injEq, and_true] at this
    simp [AV.map, this]
  | agg cs => simp only [AV.map]; rw [key cs h]
  | tup vs =>
    simp only [AV.map]
    congr 1
    conv => rhs; rw [← List.map_id vs]
    refine List.map_congr_left fun p hp => ?_
    obtain ⟨b, cs⟩ := p
    simp only [id]
    rw [key cs fun c hc => h c (by simp only [AV.cvs, List.mem_flatMap]; exact ⟨_, hp, hc⟩)]
/-- what is lent: the block stands in the lender's frames; and how the argument reads there -/
structure LentB (st : St) (a a' : AV) (d n : Nat) (B : Blk) : Prop where
  blk : ∃ B0, st.get d n = some B0 ∧ B = { B0 with g := 0 } ∧ (match B0.k with | .row _ => True | .box cells => cells.all isP = true | .dead => False)
  arg : ∀ {F F' : Nat → Prop} {pl pl1 : Pl} {w : World} {v : Value}, pl1 0 0 = pl d n → RepA F (st.fr :: st.up) pl w v a → RepA F' [[(0, B)]] pl1 w v a'
theorem lendB_ok {x y : AV} {d n : Nat} {B : Blk} (h : lendB st x = some (y, d, n, B)) : LentB st x y d n B := by
  unfold lendB at h
  split at h
  · split at h
    · rename_i g' sz ty rows hB
      split at h
      · rename_i hc
        cases h
        refine ⟨⟨_, hB, rfl, trivial⟩, fun {F F' pl pl1 w v} hp hr => ?_⟩
        obtain ⟨h1, B1, h2, h3, h4⟩ := hr
        have h2 : some B1 = some _ := h2.symm.trans hB
        cases h2
        refine ⟨h1, ⟨0, sz, ty, .row rows⟩, by simp [getUp, look], Nat.le_refl _, fun _ => ?_⟩
        rw [hp]
        exact h4 hc.1
      · cases h
    · cases h
  · split at h
    · rename_i d' n' g g' sz ty cells hB
      split at h
      · rename_i hc
        cases h
        refine ⟨⟨_, hB, rfl, hc.2⟩, fun {F F' pl pl1 w v} hp hr => ?_⟩
        obtain ⟨h1, B1, h2, h3, h4⟩ := hr
        have h2 : some B1 = some _ := h2.symm.trans hB
        cases h2
        refine ⟨h1, ⟨0, sz, ty, .box cells⟩, by simp [getUp, look], Nat.le_refl _, fun _ => ?_⟩
        rw [hp]
        simpa using h4 hc.1
      · cases h
    · cases h
  · cases h
theorem lendM_ok : ∀ {xs ys : List AV} {d n : Nat} {B : Blk}, lendM st xs = some (ys, d, n, B) → (∃ a a', LentB st a a' d n B) ∧
    ∀ {F F' : Nat → Prop} {pl pl1 : Pl} {w : World} {us : List Value}, pl1 0 0 = pl d n → (∀ {u x}, RepP (Own F pl) w u x → RepP (Own F' pl1) w u x) → RepAs F (st.fr :: st.up) pl w us xs → RepAs F' [[(0, B)]] pl1 w us ys
  | [], ys, d, n, B, h => by cases h
  | x :: xs, ys, d, n, B, h => by
    simp only [lendM] at h
    split at h
    · rename_i a d' n' B' hx
      obtain ⟨r, h1, h2⟩ := Option.map_eq_some_iff.1 h
      cases h2
      have hl := lendB_ok hx
      refine ⟨⟨_, _, hl⟩, fun {F F' pl pl1 w us} hp hP hr => ?_⟩
      cases us with
      | nil => have := hr.1; simp at this
      | cons u us =>
        have ih := plainAs_ok hP (fs' := [[(0, B)]]) h1 (us := us) ⟨by have := hr.1; simpa using this, fun i v d hv hd => hr.2 (i + 1) v d (by simpa using hv) (by simpa using hd)⟩
        refine ⟨by have := ih.1; simp [this], fun i v e hv he => ?_⟩
        cases i with
        | zero => cases hv; cases he; exact hl.arg hp (hr.2 0 u x rfl rfl)
        | succ i => exact ih.2 i v e (by simpa using hv) (by simpa using he)
    · simp only [Option.bind_eq_some_iff, Option.map_eq_some_iff] at h
      obtain ⟨a, h1, ⟨r, q⟩, h2, h3⟩ := h
      cases h3
      obtain ⟨g1, g2⟩ := lendM_ok h2
      refine ⟨g1, fun {F F' pl pl1 w us} hp hP hr => ?_⟩
      cases us with
      | nil => have := hr.1; simp at this
      | cons u us =>
        have ih := g2 hp hP (us := us) ⟨by have := hr.1; simpa using this, fun i v d hv hd => hr.2 (i + 1) v d (by simpa using hv) (by simpa using hd)⟩
        refine ⟨by have := ih.1; simp [this], fun i v e hv he => ?_⟩
        cases i with
        | zero => cases hv; cases he; exact plainA_ok hP h1 (hr.2 0 u x rfl rfl)
        | succ i => exact ih.2 i v e (by simpa using hv) (by simpa using he)

/-- a call that is lent one own block, to be written -/
theorem callM_ok {run : Runs} (hS : Sound G P run) (hr : Rel F N0 T pl st a w) {f : FuncId} {args : List AV} {vals : List Value} {dst : Nat} {v : AV} (ha : RepAs F (st.fr :: st.up) pl w vals args) (h : ((lendM st args).bind fun (args', d, n, B) => (run f args' [[(0, B)]]).bind fun r => backM st dst d n B r) = some (v, st')) :
    Goes P f vals.toArray w fun u w' => Post F N0 pl st w v st' u w' ∧ ∀ args' d n B, lendM st args = some (args', d, n, B) → KeepB (fun k => ∀ s, pl d n ≠ some (k, s)) w w' := by
  obtain ⟨⟨args', d, n, B⟩, h1, h⟩ := Option.bind_eq_some_iff.1 h
  obtain ⟨r, h2, h⟩ := Option.bind_eq_some_iff.1 h
  obtain ⟨⟨_, _, hLB⟩, hLA⟩ := lendM_ok h1
  obtain ⟨B0, hB0, rfl, hkind⟩ := hLB.blk
  have hB0 : getUp d n (st.fr :: st.up) = some B0 := hB0
  let pl1 : Pl := fun d' n' => if d' = 0 ∧ n' = 0 then pl d n else none
  let F' : Nat → Prop := fun k => Own F pl k ∧ ∀ s, pl d n ≠ some (k, s)
  have p0 : pl1 0 0 = pl d n := by simp [pl1]
  have p1 : ∀ {d' n' x}, pl1 d' n' = some x → d' = 0 ∧ n' = 0 ∧ pl d n = some x := fun {d' n' x} h => by
    simp only [pl1] at h
    split at h
    · rename_i e; exact ⟨e.1, e.2, h⟩
    · cases h
  have own1 : ∀ k, Own F' pl1 k → Own F pl k := fun k h => by
    rcases h with h | ⟨d', n', s, h⟩
    · exact h.1
    · exact .inr ⟨d, n, s, (p1 h).2.2⟩
  have own2 : ∀ k, Own F pl k → Own F' pl1 k := fun k h => by
    by_cases e : ∃ s, pl d n = some (k, s)
    · obtain ⟨s, e⟩ := e
      exact .inr ⟨0, 0, s, p0.trans e⟩
    · exact .inl ⟨h, fun s hs => e ⟨s, hs⟩⟩
  have hP1 : ∀ {u x}, RepP (Own F pl) w u x → RepP (Own F' pl1) w u x := fun {u x} h => h.step (fun _ _ _ => rfl) (Nat.le_refl _) fun k hk => .inl (own1 k hk)
  have hm1 : MemOK F' N0 [[(0, { B0 with g := 0 })]] pl1 w := by
    refine ⟨fun d' n' k s h => ?_, fun d1 n1 d2 n2 k s s' h1 h2 => ?_, fun d' n' B hB => ?_, fun k hk => ?_, hr.mem.fix⟩
    · obtain ⟨rfl, rfl, h3⟩ := p1 h
      obtain ⟨g1, g2, _, _⟩ := hr.mem.live d n k s h3
      exact ⟨g1, g2, fun hk => hk.2 s h3, { B0 with g := 0 }, by simp [getUp, look]⟩
    · obtain ⟨rfl, rfl, _⟩ := p1 h1
      obtain ⟨rfl, rfl, _⟩ := p1 h2
      exact ⟨rfl, rfl⟩
    · have hlt := getUp_lt hB
      have hd : d' = 0 := by simp at hlt; exact hlt
      subst hd
      simp only [getUp, List.length_nil, if_true, look] at hB
      split at hB
      · rename_i e
        subst e
        cases hB
        have hb := hr.mem.blk d n B0 hB0
        unfold BlkOK at hb ⊢
        simp only
        cases hk : B0.k with
        | box cells =>
          rw [hk] at hb hkind
          obtain ⟨b, us, g1, g2, g3, g4⟩ := hb
          exact ⟨b, us, p0.trans g1, g2, cells_moved (fun h => hP1 h) rfl rfl hkind g3, plain_dep hkind _⟩
        | row rows =>
          rw [hk] at hb
          rcases hb with ⟨g1, g2⟩ | ⟨b, s, us, g1, g2, g3, g4, g5, g6⟩
          · exact .inl ⟨g1, p0.trans g2⟩
          · exact .inr ⟨b, s, us, p0.trans g1, g2, g3, g4, g5, fun j e o x he hx => by
              obtain ⟨v, hv, hrr⟩ := g6 j e o x he hx
              exact ⟨v, hv, hP1 hrr⟩⟩
        | dead => rw [hk] at hkind; exact hkind.elim
      · cases hB
    · rcases hk.1 with h | ⟨d', n', s, h⟩
      · exact hr.mem.fsz k h
      · exact (hr.mem.live d' n' k s h).2.1
  refine (hS f args' _ r h2 F' N0 pl1 w _ hm1 hr.low (hLA p0 hP1 ha)).mono fun u w' hret => ?_
  obtain ⟨⟨pl', r1, r2, r3⟩, r4, r5⟩ := hret
  unfold backM at h
  split at h
  · rename_i fr' hup
    split at h
    · rename_i B' B0' hB' hB0'
      have hB0' : getUp d n (st.fr :: st.up) = some B0' := hB0'
      rw [hB0] at hB0'
      cases hB0'
      split at h
      · rename_i hc
        obtain ⟨c1, cty, csz, c2, c3, c4⟩ := hc
        cases h
        have hrows : r.rows = [] := by simpa using c2
        rw [hup] at r1 r2 r3
        rw [hrows] at r1 r2
        have hD : d < (st.fr :: st.up).length := getUp_lt hB0
        -- the block's place
        obtain ⟨B1, q1, q2, q3⟩ := r3.later.blk 0 0 { B0 with g := 0 } (by simp [getUp, look])
        have hB1 : B1 = B' := by
          have : getUp 0 0 [fr'] = some B' := by simpa [getUp] using hB'
          rw [this] at q1
          exact (Option.some.inj q1).symm
        subst hB1
        obtain ⟨q4, q5⟩ := q3 c1
        have q4 : pl' 0 0 = pl d n := q4.trans p0
        have q5 : B1.sz = B0.sz := q5
        have hstep : Step pl w w' := ⟨r3.step.os, r3.step.tape, r3.step.output, r3.step.size, fun k hk hn => r3.step.block k hk fun d' n' s h => hn d n s (p1 h).2.2⟩
        have hK : Keep F (st.fr :: st.up) ((st.set d n { B0 with k := B1.k }).fr :: (st.set d n { B0 with k := B1.k }).up) pl pl w w' := by
          refine ⟨hstep, by simp [set_up_len], fun d' n' b hb => ?_, fun d' n' b s h => .inl ⟨d', n', s, h⟩⟩
          rw [getUp_set hD]
          by_cases e : d' = d ∧ n' = n
          · obtain ⟨rfl, rfl⟩ := e
            rw [hB0] at hb
            cases hb
            exact ⟨{ B0 with k := B1.k }, by rw [if_pos ⟨rfl, rfl⟩], Nat.le_refl _, fun _ => ⟨rfl, rfl⟩⟩
          · exact ⟨b, by rw [if_neg e]; exact hb, Nat.le_refl _, fun _ => ⟨rfl, rfl⟩⟩
        have own3 : ∀ k, Own F pl k → Own F' pl' k := fun k h => by
          by_cases e : ∃ s, pl d n = some (k, s)
          · obtain ⟨s, e⟩ := e
            exact .inr ⟨0, 0, s, q4.trans e⟩
          · exact .inl ⟨h, fun s hs => e ⟨s, hs⟩⟩
        have hP2 : ∀ {u x}, RepP (Own F' pl') w' u x → RepP (Own F pl) w' u x := fun {u x} h => h.step (fun _ _ _ => rfl) (Nat.le_refl _) fun k hk => .inl (own3 k hk)
        have hblk := r2.blk 0 0 B1 (by simp only [rowsF, getUp, List.length_cons, List.length_nil, Nat.zero_add, Nat.zero_ne_one, if_false, if_true]; exact hB')
        have hty : ∀ us b, w'.heap[b]? = some (.cells us B1.ty (0, 0)) → (∃ s, pl d n = some (b, s)) → w'.heap[b]? = some (.cells us B1.ty (0, 0)) := fun us b h _ => h
        refine ⟨?_, fun args2 d2 n2 B2 h12 => by
          rw [h1] at h12
          cases h12
          exact ⟨hstep.size, fun k hk hn => r3.step.block k hk fun d' n' s h => hn s (p1 h).2.2⟩⟩
        refine ⟨⟨pl, ?_, ⟨fun d' n' k s h => ?_, hr.mem.inj, fun d' n' Bx hBx => ?_, fun k hk => Nat.lt_of_lt_of_le (hr.mem.fsz k hk) hstep.size, fix_step hr.mem hstep.block⟩, hK⟩, set_t _ _ _ _⟩
        · have hfl : ∀ c ∈ r.v.cvs, c.flat = true := fun c hc => List.all_eq_true.1 c3 c hc
          rw [map_flat (fun x => rfl) hfl]
          rw [map_flat (fun x => rfl) hfl] at r1
          have := repA_map (φ := id) (F' := F) (fs' := (st.set d n { B0 with k := B1.k }).fr :: (st.set d n { B0 with k := B1.k }).up) (pl' := pl) (ww' := w') (fun x c hc h => by
            have hf := hfl c hc
            cases c with
            | p y => exact flat_rep hf h
            | _ => simp [CV.flat] at hf) (fun c h => h) r1
          have e : r.v.map id = r.v := by cases r.v <;> simp [AV.map]
          rwa [e] at this
        · obtain ⟨g1, g2, g3, Bq, g4⟩ := hr.mem.live d' n' k s h
          refine ⟨g1, Nat.lt_of_lt_of_le g2 hstep.size, g3, ?_⟩
          rw [getUp_set hD]
          split
          · exact ⟨_, rfl⟩
          · exact ⟨Bq, g4⟩
        · rw [getUp_set hD] at hBx
          split at hBx
          · rename_i e
            obtain ⟨rfl, rfl⟩ := e
            cases hBx
            unfold BlkOK at hblk ⊢
            simp only
            cases hk : B1.k with
            | box cells =>
              rw [hk] at hblk c4
              obtain ⟨b, us, g1, g2, g3, g4⟩ := hblk
              have hp : cells.all isP = true := by
                cases hk0 : B0.k with
                | box c0 => rw [hk0] at c4; exact c4
                | row r0 => rw [hk0] at c4; cases c4
                | dead => rw [hk0] at c4; cases c4
              exact ⟨b, us, q4.symm.trans g1, by rw [← cty]; exact g2, cells_moved (fun h => hP2 h) rfl rfl hp g3, plain_dep hp _⟩
            | row rows =>
              rw [hk] at hblk
              rcases hblk with ⟨g1, g2⟩ | ⟨b, s, us, g1, g2, g3, g4, g5, g6⟩
              · exact .inl ⟨g1, q4.symm.trans g2⟩
              · exact .inr ⟨b, s, us, q4.symm.trans g1, by rw [← cty]; exact g2, g3, by rw [← csz]; exact g4, fun e he => by rw [← csz]; exact g5 e he, fun j e o x he hx => by
                  obtain ⟨v, hv, hrr⟩ := g6 j e o x he hx
                  exact ⟨v, by rw [← csz]; exact hv, hP2 hrr⟩⟩
            | dead =>
              rw [hk] at c4
              cases hk0 : B0.k with
              | box c0 => rw [hk0] at c4; cases c4
              | row r0 => rw [hk0] at c4; cases c4
              | dead => rw [hk0] at c4; cases c4
          · rename_i e
            refine blk_keep hK rfl (fun b s h => r3.step.block b (hr.mem.live d' n' b s h).2.1 fun d2 n2 s2 h2 => ?_) (hr.mem.blk d' n' Bx hBx)
            obtain ⟨_, _, h3⟩ := p1 h2
            exact e (hr.mem.inj _ _ _ _ b s s2 h h3)
      · cases h
    · cases h
  · cases h

theorem lend_slot {x : AV} {r args' : List AV} {d n : Nat} {B : Blk} {ad : Addr} (hr : Rel F N0 T pl st a w) (h : lendM st (x :: r) = some (args', d, n, B)) (hv : RepA F (st.fr :: st.up) pl w (.pointer (some ad)) x) : ∃ s, pl d n = some (ad.block, s) := by
  simp only [lendM] at h
  split at h
  · rename_i a' d' n' B' hb
    obtain ⟨r', _, h2⟩ := Option.map_eq_some_iff.1 h
    cases h2
    unfold lendB at hb
    split at hb
    · split at hb
      · split at hb
        · rename_i g' sz ty rows hB hc
          cases hb
          obtain ⟨_, B1, h2, h3, h4⟩ := hv
          have h2 : some B1 = some _ := h2.symm.trans hB
          cases h2
          rcases h4 hc.1 with ⟨e, _⟩ | ⟨b, s, cap, _, e, _⟩ <;> cases e
        · cases hb
      · cases hb
    · split at hb
      · split at hb
        · rename_i g' sz ty cells hB hc
          cases hb
          obtain ⟨_, B1, h2, h3, h4⟩ := hv
          have h2 : some B1 = some _ := h2.symm.trans hB
          cases h2
          obtain ⟨b, s, hp, e⟩ := h4 hc.1
          cases e
          exact ⟨s, hp⟩
        · cases hb
      · cases hb
    · cases hb
  · simp only [Option.bind_eq_some_iff] at h
    obtain ⟨y, h1, _⟩ := h
    exfalso
    unfold plainA at h1
    split at h1
    · cases hv
    · obtain ⟨us, e, _⟩ := hv
      cases e
    · cases h1
theorem op_call {run : Runs} (hS : Sound G P run) {o : Oper} {c : Call} {f : Operand} {g : KX} {ks : List KX} {borrow : Bool} {dst : Nat} {v : AV} (ho : o.op = .call c) (hc : c.callee = .value f) (hf : kx f = some g) (hx : c.args.toList.mapM kx = some ks) (hr : Rel F N0 T pl st a w)
    (h : evalOp run st dst (.call borrow g ks) = some (v, st')) : Runs1 P o a w (fun u w' => Post F N0 pl st w v st' u w' ∧ (borrow = true → Grow w w') ∧ (borrow = false → ∀ m r, ks = .t m :: r → KeepB (fun b => ∃ ad : Addr, a.tmps.getD m undef = .pointer (some ad) ∧ b ≠ ad.block) w w')) := by
  simp only [evalOp] at h
  split at h
  · rename_i fid caps hg
    have e1 := eval_rep hr hf
    rw [hg] at e1
    obtain ⟨vals, e1, hvl, hvc⟩ := e1
    obtain ⟨hl, hk⟩ := mapM_len hx
    have hargs : RepAs F (st.fr :: st.up) pl w (c.args.toList.map a.eval ++ vals) (ks.map st.eval ++ caps.map Cap.av) := by
      refine ⟨by simp [hl, hvl], fun i u x hu hx' => ?_⟩
      rw [List.getElem?_append] at hu hx'
      simp only [List.length_map] at hu hx'
      rw [hl] at hx'
      split at hu
      · rename_i hi
        rw [if_pos hi] at hx'
        simp only [List.getElem?_map, Option.map_eq_some_iff] at hu hx'
        obtain ⟨p, hp, rfl⟩ := hu
        obtain ⟨q, hq, rfl⟩ := hx'
        exact eval_rep hr (hk i p q hp hq)
      · rename_i hi
        rw [if_neg hi] at hx'
        simp only [List.getElem?_map, Option.map_eq_some_iff] at hx'
        obtain ⟨q, hq, rfl⟩ := hx'
        exact cap_av (hvc _ _ _ hu hq)
    have harr : c.args.map a.eval ++ vals.toArray = (c.args.toList.map a.eval ++ vals).toArray := by
      apply Array.toList_inj.1; simp
    refine wp_goes (R := fun u w' => Post F N0 pl st w v st' u w' ∧ (borrow = true → Grow w w') ∧ (borrow = false → ∀ m r, ks = .t m :: r → KeepB (fun b => ∃ ad : Addr, a.tmps.getD m undef = .pointer (some ad) ∧ b ≠ ad.block) w w')) ho hc e1 ?_
    rw [harr]
    unfold doCall at h
    split at h
    · rename_i hbt
      obtain ⟨⟨args', lent⟩, h1, h⟩ := Option.bind_eq_some_iff.1 h
      obtain ⟨r, h2, h⟩ := Option.bind_eq_some_iff.1 h
      split at h
      · rename_i hcond
        simp only [Option.some.injEq, Prod.mk.injEq] at h
        obtain ⟨rfl, rfl⟩ := h
        let F' : Nat → Prop := fun k => lent = false ∧ Own F pl k
        have hl1 := lendAs_ok (F' := F') hr.mem (fun k hk => hk.2) h1 (fun e k hk => by have := hk.1; rw [e] at this; cases this) hargs
        have hm0 : MemOK F' (⟨w.heap.size⟩ : Base G) [] noPl w := ⟨fun d n b s h => (by cases h), fun d n d' n' b s s' h => (by cases h), fun d n B h => (by cases h), fun k hk => by
          rcases hk.2 with h | ⟨d, n, s, h⟩
          · exact hr.mem.fsz k h
          · exact (hr.mem.live d n k s h).2.1, fun k o h => ⟨(Array.getElem?_eq_some_iff.1 (hr.mem.fix k o h).2).1, (hr.mem.fix k o h).2⟩⟩
        refine (hS fid args' [] r h2 F' ⟨w.heap.size⟩ noPl w _ hm0 (Nat.le_refl _) hl1).mono fun u w' hret => ?_
        obtain ⟨⟨pl1, r1, r2, r3⟩, r4, r5⟩ := hret
        have hup : r.up = [] := List.eq_nil_of_length_eq_zero r3.later.len
        rw [hup] at r1 r2 r3
        have hF1 : (∀ k, Own F pl k → F' k) ∨ ∀ B ∈ r.rows, flatB B = true := by
          rcases hcond with h | h
          · exact .inl fun k hk => ⟨h, hk⟩
          · simp only [apartR, Bool.and_eq_true] at h
            exact .inr fun B hB => List.all_eq_true.1 h.2 B hB
        have hF2 : (∀ k, Own F pl k → F' k) ∨ ∀ c ∈ r.v.cvs, flatO c = true := by
          rcases hcond with h | h
          · exact .inl fun k hk => ⟨h, hk⟩
          · simp only [apartR, Bool.and_eq_true] at h
            exact .inr fun c hc => List.all_eq_true.1 h.1 c hc
        obtain ⟨pl2, p1, p2, p3⟩ := push_ok hr.mem hr.low r2 r3 r5 hF1
        obtain ⟨pl3, q1, q2, q3⟩ := adopt_ok (n := dst) p1 r5
        exact ⟨⟨⟨pl3, q3 r4 (p3 r4 hF2 r1), q1, p2.trans q2⟩, rfl⟩, fun _ => ⟨r3.step.size, fun k hk => r3.step.block k hk (fun _ _ _ h => by cases h)⟩, fun e => by rw [e] at hbt; cases hbt⟩
      · cases h
    · rename_i hb
      refine (callM_ok hS hr hargs h).mono fun u w' hp => ⟨hp.1, fun e => absurd e hb, fun _ m r e => ?_⟩
      subst e
      obtain ⟨⟨args', d, n, B⟩, h1, _⟩ := Option.bind_eq_some_iff.1 h
      refine (hp.2 _ _ _ _ h1).sub fun b hb' s hs => ?_
      obtain ⟨ad, e, hne⟩ := hb'
      have h3 := eval_rep (x := .tmp m) hr rfl
      simp only [Act.eval] at h3
      rw [e] at h3
      obtain ⟨s', h4⟩ := lend_slot hr h1 h3
      rw [h4] at hs
      cases hs
      exact hne rfl
  · cases h
end
end Go.Eng
