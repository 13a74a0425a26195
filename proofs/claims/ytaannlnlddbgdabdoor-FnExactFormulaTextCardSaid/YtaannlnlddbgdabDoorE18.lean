/-
  THE ENGINE, 18: a loop's head.
-/
import Derived.Test.YtaannlnlddbgdabDoorE17
set_option linter.unusedVariables false
set_option linter.unusedSimpArgs false
namespace Go.Eng
open Go.RowKit

section
variable {P : Program} {F F' : Nat → Prop} {G : Nat → Option Obj} {N0 : Base G} {T : Nat} {pl pl' pl1 : Pl} {st st' : St} {a : Act} {w w' : World} {fs fs' : List Frame} {fr f' : Frame} {up : List Frame}

theorem look_normF {d : Nat} {kb : List Nat} (n : Nat) : ∀ l : List Nat, look n (normF d fr kb l) = if n ∈ l then (look n fr).map (normB d fr kb) else none
  | [] => by simp [normF, look]
  | m :: r => by
    simp only [normF]
    have ih := look_normF (d := d) (kb := kb) n r
    by_cases h : m = n
    · subst h
      cases hl : look m fr with
      | none => rw [ih, hl]; simp
      | some B => simp [look]
    · have hne : ¬ n = m := fun e => h e.symm
      cases hl : look m fr with
      | none => rw [ih]; simp [hne]
      | some B => simp only [look, if_neg h, ih]; simp [hne]

theorem normB_sz {d : Nat} {kb : List Nat} (B : Blk) : (normB d fr kb B).sz = B.sz ∧ (normB d fr kb B).ty = B.ty := by
  unfold normB
  split
  · split <;> exact ⟨rfl, rfl⟩
  · exact ⟨rfl, rfl⟩

theorem norm_ok (hm : MemOK F N0 (fr :: up) pl w) (kb : List Nat) :
    ∃ pl', MemOK F N0 (normF up.length fr kb kb :: up) pl' w ∧ Keep F up up pl pl' w w ∧ ∀ {v : Value} {x : AV}, RepA F (fr :: up) pl w v x → RepA F (normF up.length fr kb kb :: up) pl' w v (normA up.length fr kb x) := by
  let f1 := normF up.length fr kb kb
  let pl2 : Pl := fun d n => if d = up.length then (match look n f1 with | some B => if B.g = 0 then pl d n else none | none => none) else if d < up.length then pl d n else none
  have p1 : ∀ d n, d < up.length → pl2 d n = pl d n := fun d n hd => by simp [pl2, Nat.ne_of_lt hd, hd]
  have p4 : ∀ d n, up.length < d → pl2 d n = none := fun d n hd => by simp [pl2, Nat.ne_of_gt hd, Nat.lt_asymm hd]
  have p2 : ∀ n B, look n f1 = some B → B.g = 0 → pl2 up.length n = pl up.length n := fun n B h hg => by simp [pl2, h, hg]
  have p3 : ∀ n b s, pl2 up.length n = some (b, s) → ∃ B, look n f1 = some B ∧ B.g = 0 ∧ pl up.length n = some (b, s) := fun n b s h => by
    simp only [pl2, if_true] at h
    split at h
    · rename_i B hB
      split at h
      · rename_i hg; exact ⟨B, hB, hg, h⟩
      · cases h
    · cases h
  have hsome : ∀ d n b s, pl2 d n = some (b, s) → pl d n = some (b, s) := fun d n b s h => by
    rcases Nat.lt_trichotomy d up.length with hd | hd | hd
    · rw [← p1 d n hd]; exact h
    · subst hd
      obtain ⟨B, _, _, h2⟩ := p3 n b s h
      exact h2
    · rw [p4 d n hd] at h; cases h
  have hlowU : ∀ d n, d < up.length → ∀ f, getUp d n (f :: up) = getUp d n up := fun d n hd f => by simp [getUp, Nat.ne_of_lt hd]
  have hLow : Low up.length (fr :: up) pl (f1 :: up) pl2 := ⟨fun d n hd => ⟨by rw [hlowU d n hd, hlowU d n hd], p1 d n hd⟩, fun d n b s h => ⟨d, n, hsome d n b s h⟩⟩
  have htop : ∀ n f, getUp up.length n (f :: up) = look n f := fun n f => by simp [getUp]
  have hK : Keep F up up pl pl2 w w := ⟨⟨rfl, rfl, rfl, Nat.le_refl _, fun _ _ _ => rfl⟩, rfl, fun d n b hb => ⟨b, hb, Nat.le_refl _, fun _ => ⟨p1 d n (getUp_lt hb), rfl⟩⟩, fun d n b s h => .inl ⟨d, n, s, hsome d n b s h⟩⟩
  -- one cell
  have hcell : ∀ {v : Value} {c : CV}, RepC F (fr :: up) pl w v c → RepC F (f1 :: up) pl2 w v (norm1 up.length fr kb c) := by
    intro v c hr
    have hg1 : ∀ n B, look n fr = some B → kb.contains n = true → look n f1 = some (normB up.length fr kb B) := fun n B h hk => by
      have : n ∈ kb := by simpa using hk
      simp only [f1]
      rw [look_normF, if_pos this, h]
      rfl
    cases c with
    | p x => exact hLow.repP hr
    | own d n g m =>
      obtain ⟨h1, B, h2, h3, h4⟩ := hr
      have hd := getUp_lt h2
      simp only [List.length_cons] at hd
      simp only [norm1]
      by_cases e : d = up.length
      · subst e
        rw [if_pos rfl]
        rw [htop] at h2
        rw [h2]
        simp only
        split
        · rename_i hc
          have hf := hg1 n B h2 hc.2
          refine ⟨h1, _, by rw [htop]; exact hf, Nat.zero_le _, fun e0 => ?_⟩
          rw [p2 n _ hf e0.symm, (normB_sz B).1]
          exact h4 hc.1.symm
        · trivial
      · rw [if_neg e]
        have hd2 : d < up.length := by omega
        exact ⟨h1, B, by rw [hlowU d n hd2]; rw [hlowU d n hd2] at h2; exact h2, h3, fun e => by rw [p1 d n hd2]; exact h4 e⟩
    | ptr d n g j o =>
      obtain ⟨h1, B, h2, h3, h4⟩ := hr
      have hd := getUp_lt h2
      simp only [List.length_cons] at hd
      simp only [norm1]
      by_cases e : d = up.length
      · subst e
        rw [if_pos rfl]
        rw [htop] at h2
        rw [h2]
        simp only
        split
        · rename_i hc
          have hf := hg1 n B h2 hc.2
          refine ⟨h1, _, by rw [htop]; exact hf, Nat.zero_le _, fun e0 => ?_⟩
          rw [p2 n _ hf e0.symm, (normB_sz B).1]
          exact h4 hc.1.symm
        · trivial
      · rw [if_neg e]
        have hd2 : d < up.length := by omega
        exact ⟨h1, B, by rw [hlowU d n hd2]; rw [hlowU d n hd2] at h2; exact h2, h3, fun e => by rw [p1 d n hd2]; exact h4 e⟩
    | rp row o =>
      obtain ⟨ad, h1, h2, h3⟩ := hr
      refine ⟨ad, h1, fun hne => ?_, fun i x hx => ?_⟩
      · obtain ⟨h4, h5⟩ := h2 hne
        refine ⟨fun h6 => h4 ?_, h5⟩
        rcases h6 with h6 | ⟨d, n, s, h6⟩
        · exact .inl h6
        · exact .inr ⟨d, n, s, hsome d n _ s h6⟩
      · obtain ⟨u, h4, h5⟩ := h3 i x hx
        exact ⟨u, h4, hLow.repP h5⟩
    | fn f caps =>
      simp only [norm1]
      split
      · rename_i hc
        obtain ⟨vals, h1, h2, h3⟩ := hr
        refine ⟨vals, h1, h2, fun i u c hu hcc => ?_⟩
        have h4 := h3 i u c hu hcc
        cases c with
        | p x => exact hLow.repP h4
        | ptr d n g =>
          have hmem := List.mem_of_getElem? hcc
          have hne : d ≠ up.length := by
            have := List.all_eq_true.1 hc _ hmem
            simpa using this
          obtain ⟨h0, B, h5, h6, h7⟩ := h4
          have hd := getUp_lt h5
          simp only [List.length_cons] at hd
          have hd2 : d < up.length := by omega
          exact ⟨h0, B, by rw [hlowU d n hd2]; rw [hlowU d n hd2] at h5; exact h5, h6, fun e => by rw [p1 d n hd2]; exact h7 e⟩
      · trivial
    | nfn => exact hr
    | u => trivial
  refine ⟨pl2, retop hm hLow (fun n b s h => ?_) (fun n n' b s s' h h' => ?_) p4 (fun n B hB => ?_), hK, fun {v x} hr => repA_map (fun u c _ h => hcell h) (fun c h => by subst h; rfl) hr⟩
  · obtain ⟨B, h1, _, h2⟩ := p3 n b s h
    exact ⟨⟨B, h1⟩, _, _, Nat.le_refl _, h2⟩
  · exact (hm.inj _ _ _ _ b s s' (hsome _ _ _ _ h) (hsome _ _ _ _ h')).2
  · have hB' : look n f1 = some B := hB
    have hBB := hB
    rw [look_normF] at hBB
    split at hBB
    · obtain ⟨B0, h0, rfl⟩ := Option.map_eq_some_iff.1 hBB
      have hb := hm.blk up.length n B0 (by rw [htop]; exact h0)
      unfold normB at hB' ⊢
      split at hB'
      · rename_i cells hk
        split at hB'
        · rename_i hall
          have hp := p2 n _ hB' rfl
          simp only [hall, if_true]
          unfold BlkOK at hb ⊢
          rw [hk] at hb
          simp only
          obtain ⟨b, us, h1, h2, h3, h4⟩ := hb
          refine ⟨b, us, by rw [List.length_map]; exact hp.trans h1, h2, ⟨by simp [h3.1], fun i u c hu hc => ?_⟩, fun c hc => List.all_eq_true.1 hall c hc⟩
          simp only [List.getElem?_map, Option.map_eq_some_iff] at hc
          obtain ⟨c', hc', rfl⟩ := hc
          obtain ⟨h5, h6⟩ := h3.2 i u c' hu hc'
          exact ⟨hcell h5, h6.imp (fun e => by subst e; rfl) id⟩
        · rename_i hall
          simp only [hall, if_false]
          show pl2 up.length n = none
          simp [pl2, hB']
      · rename_i hk
        have hp := p2 n _ hB' rfl
        unfold BlkOK at hb ⊢
        cases hk2 : B0.k with
        | box cells => exact absurd hk2 (by intro e; exact hk cells e)
        | row rows =>
          rw [hk2] at hb
          simp only [hk2]
          rcases hb with ⟨h1, h2⟩ | ⟨b, s, us, h1, h2, h3, h4, h5, h6⟩
          · exact .inl ⟨h1, hp.trans h2⟩
          · exact .inr ⟨b, s, us, hp.trans h1, h2, h3, h4, h5, fun j e o x he hx => by
              obtain ⟨v, hv, hr⟩ := h6 j e o x he hx
              exact ⟨v, hv, hLow.repP hr⟩⟩
        | dead =>
          rw [hk2] at hb
          simp only [hk2]
          exact hp.trans hb
    · cases hBB

theorem look_keep {α : Type} (g : Nat → α) (n : Nat) : ∀ (l : List Nat) {v : α}, look n (l.map fun m => (m, g m)) = some v → v = g n
  | [], v, h => by simp [look] at h
  | m :: r, v, h => by
    simp only [List.map_cons, look] at h
    split at h
    · rename_i e; subst e; cases h; rfl
    · exact look_keep g n r h

theorem rel_norm (hr : Rel F N0 T pl st a w) (keep : List Nat) : ∃ pl', Rel F N0 T pl' (st.norm keep) a w ∧ Keep F st.up (st.norm keep).up pl pl' w w := by
  obtain ⟨pl', h1, h2, h3⟩ := norm_ok hr.mem (st.keepB keep)
  refine ⟨pl', ⟨h1, fun n v hv => ?_, hr.size, hr.defers, hr.low⟩, h2⟩
  have := look_keep (fun n => normA st.up.length st.fr (st.keepB keep) (st.eval (.t n))) n keep hv
  subst this
  refine h3 ?_
  simp only [St.eval]
  split
  · exact hr.tmps n _ ‹_›
  · trivial
end
end Go.Eng
