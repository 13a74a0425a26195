/-
  THE ENGINE, 33: functions of the library, by the shelf's contracts.
-/
import Derived.Test.YtaannlnlddbgdabDoorE32
import Derived.Shelf.Strconv.Itoa4
import Derived.Shelf.Strconv.ParseIntPublic10
import Derived.Shelf.Small.Wraps
import Derived.Shelf.Strings.SlTrimAscii
import Derived.Lib.LaidTab
import Derived.Stop.LaidErr
set_option linter.unusedVariables false
namespace Go.Eng
open Go.Shelf Go.RowKit Go.Proofs

section
variable {P : Program} {G : Nat → Option Obj} {ρ : Ren} {F : Nat → Prop} {fs : List Frame} {pl : Pl} {w : World}
/-- what is asked of one function that stands in the library -/
def LibOK1 (G : Nat → Option Obj) (P : Program) (f : FuncId) (q : List AV → Option AV) : Prop :=
  ∀ args v, q args = some v → (∀ c ∈ v.cvs, ∃ p, c = .p p) ∧ ∀ F (N0 : Base G) up pl w vals, MemOK F N0 up pl w → N0.n ≤ w.heap.size → RepAs F up pl w vals args → Goes P f vals.toArray w fun u w' => Step noPl w w' ∧ RepA F up pl w' u v
def libNil : FuncId → List AV → Option AV := fun _ _ => none
def libCons (f : FuncId) (q : List AV → Option AV) (r : FuncId → List AV → Option AV) : FuncId → List AV → Option AV := fun g xs => if g = f then q xs else r g xs
theorem libOK_nil : LibOK G P libNil := fun f args v h => by cases h
theorem libOK_cons {f : FuncId} {q : List AV → Option AV} {r : FuncId → List AV → Option AV} (h1 : LibOK1 G P f q) (h2 : LibOK G P r) : LibOK G P (libCons f q r) := by
  intro g args v h
  unfold libCons at h
  split at h
  · rename_i e; subst e; exact h1 args v h
  · exact h2 g args v h
theorem repAs_cons {us : List Value} {x : AV} {xs : List AV} (h : RepAs F fs pl w us (x :: xs)) : ∃ u r, us = u :: r ∧ RepA F fs pl w u x ∧ RepAs F fs pl w r xs := by
  obtain ⟨h1, h2⟩ := h
  cases us with
  | nil => simp at h1
  | cons u r => exact ⟨u, r, rfl, h2 0 u x rfl rfl, by simpa using h1, fun i a b ha hb => h2 (i + 1) a b (by simpa using ha) (by simpa using hb)⟩
theorem repAs_nil {us : List Value} (h : RepAs F fs pl w us []) : us = [] := List.eq_nil_of_length_eq_zero h.1
theorem repA_s {u : Value} {b : ByteArray} (h : RepA F fs pl w u (.c (.p (.s b)))) : u = .string b := by
  have h : RepP _ w u (.s b) := h
  cases h; rfl
theorem repA_i {u : Value} {k : IntKind} {n : Int} (h : RepA F fs pl w u (.c (.p (.i k n)))) : u = .int k n := by
  have h : RepP _ w u (.i k n) := h
  cases h; rfl
theorem rep_tup2 {a b : Value} {p q : PV} (h1 : RepP (Own F pl) w a p) (h2 : RepP (Own F pl) w b q) : RepA F fs pl w (.tuple #[a, b]) (.tup [(false, [.p p]), (false, [.p q])]) := by
  refine ⟨[a, b], rfl, rfl, fun i u c hu hc => .inr ?_⟩
  match i with
  | 0 => cases hu; cases hc; exact ⟨rfl, _, rfl, h1⟩
  | 1 => cases hu; cases hc; exact ⟨rfl, _, rfl, h2⟩
  | i + 2 => simp at hu
theorem goes_of {f : FuncId} {vals : Array Value} {R : Value → World → Prop} (hf : Enters P f) (h : Calls P f vals w fun e w' => ∃ u, e = .returned u ∧ R u w') : Goes P f vals w R := .inr ⟨hf vals w, h⟩
theorem step_below {w' : World} (h : Below w.heap.size w w') : Step noPl w w' := ⟨h.os, h.tape, h.output, h.size, fun k hk _ => h.block k hk⟩
theorem step_grow (k : Nat) (os : Array Obj) : Step noPl w (Sort.grow (w.drewN k) os) := ⟨rfl, rfl, rfl, by simp [Sort.grow], fun k hk _ => by simp [Sort.grow, Array.getElem?_append_left, hk]⟩

/-! ### strconv.FormatInt -/
def L_strconv_FormatInt (x b : Int) : Option ByteArray := if b = 10 ∧ -9223372036854775808 ≤ x ∧ x ≤ 9223372036854775807 then some ⟨(Lib.itoa x).toArray⟩ else none
def Q_strconv_FormatInt : List AV → Option AV
  | [.c (.p (.i .i64 x)), .c (.p (.i .i64 b))] => (L_strconv_FormatInt x b).map fun r => .c (.p (.s r))
  | _ => none
theorem ok_strconv_FormatInt (L : LaysM.n173 P ρ) (hT : ∀ w : World, (∀ k o, G k = some o → w.heap[k]? = some o) → Lib.TabIs P w "internal/strconv.uint64pow10" .u64 Lib.pow10Tab) : LibOK1 G P (ρ.f 173) Q_strconv_FormatInt := by
  intro args v h
  unfold Q_strconv_FormatInt at h
  split at h
  · obtain ⟨r, h1, rfl⟩ := Option.map_eq_some_iff.1 h
    unfold L_strconv_FormatInt at h1
    split at h1
    · rename_i hc
      cases h1
      refine ⟨fun c hc => ⟨_, by simpa [AV.cvs] using hc⟩, fun F N0 up pl w vals hm hN hv => ?_⟩
      obtain ⟨u, r1, rfl, hu, hv⟩ := repAs_cons hv
      obtain ⟨u', r2, rfl, hu', hv⟩ := repAs_cons hv
      obtain rfl := repAs_nil hv
      obtain rfl := repA_i hu
      obtain rfl := repA_i hu'
      obtain ⟨rfl, h2, h3⟩ := hc
      exact goes_of (enters_of L.f173 (by kernel_rfl) rfl) ((Any.strconv_FormatInt_10 L _ h2 h3 w (hT w fun k o h => (hm.fix k o h).2)).mono fun e w' ⟨he, k, os, hw⟩ => ⟨_, he, by rw [hw]; exact step_grow k os, .s _⟩)
    · cases h1
  · cases h

/-! ### strconv.ParseInt -/
def L_strconv_ParseInt (s : ByteArray) (b k : Int) : Option (Int ⊕ Int) := if b = 10 ∧ k = 64 ∧ s.size ≤ 281474976710656 then (match Lib.parseIntB 64 s.data.toList with
  | .ok v => some (.inl v)
  | .range => some (.inr (Lib.intSat 64 s.data.toList))
  | _ => some (.inr 0)) else none
def Q_strconv_ParseInt_av : Int ⊕ Int → AV
  | .inl v => .tup [(false, [.p (.i .i64 v)]), (false, [.p .nif])]
  | .inr v => .tup [(false, [.p (.i .i64 v)]), (false, [.p .ifc])]
def Q_strconv_ParseInt : List AV → Option AV
  | [.c (.p (.s s)), .c (.p (.i .i64 b)), .c (.p (.i .i64 k))] => (L_strconv_ParseInt s b k).map Q_strconv_ParseInt_av
  | _ => none
/-- a cell that holds an error, or none -/
def ErrCell (G : Nat → Option Obj) (g : Nat) : Prop := ∀ w : World, (∀ k o, G k = some o → w.heap[k]? = some o) → ∃ ev, w.cell? ⟨g, 0, none⟩ = some ev ∧ (ev = .nilIface ∨ ∃ te pe, ev = .iface te pe)
theorem ok_strconv_ParseInt (L : LaysC.n174 P ρ) (h15 : ErrCell G (ρ.g 15)) (h16 : ErrCell G (ρ.g 16)) : LibOK1 G P (ρ.f 174) Q_strconv_ParseInt := by
  intro args v h
  unfold Q_strconv_ParseInt at h
  split at h
  · rename_i s b k
    obtain ⟨r, h1, rfl⟩ := Option.map_eq_some_iff.1 h
    unfold L_strconv_ParseInt at h1
    split at h1
    · rename_i hc
      obtain ⟨rfl, rfl, hs⟩ := hc
      have hcv : ∀ (n : Int) (q : PV), ∀ c ∈ (AV.tup [(false, [.p (.i .i64 n)]), (false, [.p q])]).cvs, ∃ p, c = .p p := fun n q c hc => by
        simp only [AV.cvs, List.flatMap_cons, List.flatMap_nil, List.append_nil, List.cons_append, List.nil_append, List.mem_cons, List.not_mem_nil, or_false] at hc
        rcases hc with rfl | rfl <;> exact ⟨_, rfl⟩
      rcases hx : Lib.parseIntB 64 s.data.toList with x | _ | _
      · rw [hx] at h1
        cases h1
        refine ⟨hcv _ _, fun F N0 up pl w vals hm hN hv => ?_⟩
        obtain ⟨u, r1, rfl, hu, hv⟩ := repAs_cons hv
        obtain ⟨u', r2, rfl, hu', hv⟩ := repAs_cons hv
        obtain ⟨u'', r3, rfl, hu'', hv⟩ := repAs_cons hv
        obtain rfl := repAs_nil hv
        obtain rfl := repA_s hu
        obtain rfl := repA_i hu'
        obtain rfl := repA_i hu''
        refine goes_of (enters_of L.f174 (by kernel_rfl) rfl) ((Any.strconv_ParseInt_10_at64_ok L _ (by omega) _ hx w).mono fun e w' ⟨he, hw⟩ => ⟨_, he, ?_, rep_tup2 (.i _ _) .nif⟩)
        rcases hw with rfl | ⟨t, rfl⟩
        · exact ⟨rfl, rfl, rfl, Nat.le_refl _, fun _ _ _ => rfl⟩
        · exact step_below (Lib.bytesWorld_below _ _ _)
      · rw [hx] at h1
        cases h1
        refine ⟨hcv _ _, fun F N0 up pl w vals hm hN hv => ?_⟩
        obtain ⟨u, r1, rfl, hu, hv⟩ := repAs_cons hv
        obtain ⟨u', r2, rfl, hu', hv⟩ := repAs_cons hv
        obtain ⟨u'', r3, rfl, hu'', hv⟩ := repAs_cons hv
        obtain rfl := repAs_nil hv
        obtain rfl := repA_s hu
        obtain rfl := repA_i hu'
        obtain rfl := repA_i hu''
        obtain ⟨ev, e1, e2⟩ := h15 w fun k o h => (hm.fix k o h).2
        exact goes_of (enters_of L.f174 (by kernel_rfl) rfl) ((Any.strconv_ParseInt_10_at64_syntax L _ hs hx ev w e1 e2).mono fun e w' ⟨N, he, _, _, hb⟩ => ⟨_, he, step_below hb, rep_tup2 (.i _ _) (.ifc _ _)⟩)
      · rw [hx] at h1
        cases h1
        refine ⟨hcv _ _, fun F N0 up pl w vals hm hN hv => ?_⟩
        obtain ⟨u, r1, rfl, hu, hv⟩ := repAs_cons hv
        obtain ⟨u', r2, rfl, hu', hv⟩ := repAs_cons hv
        obtain ⟨u'', r3, rfl, hu'', hv⟩ := repAs_cons hv
        obtain rfl := repAs_nil hv
        obtain rfl := repA_s hu
        obtain rfl := repA_i hu'
        obtain rfl := repA_i hu''
        obtain ⟨ev, e1, e2⟩ := h16 w fun k o h => (hm.fix k o h).2
        exact goes_of (enters_of L.f174 (by kernel_rfl) rfl) ((Any.strconv_ParseInt_10_at64_range L _ hs hx ev w e1 e2).mono fun e w' ⟨N, he, _, _, hb⟩ => ⟨_, he, step_below hb, rep_tup2 (.i _ _) (.ifc _ _)⟩)
    · cases h1
  · cases h

/-! ### strings.CutPrefix -/
def L_strings_CutPrefix (s p : ByteArray) : Option (ByteArray × Bool) := some (⟨(Lib.trimPrefix s.data.toList p.data.toList).toArray⟩, Lib.hasPrefix s.data.toList p.data.toList)
def Q_strings_CutPrefix : List AV → Option AV
  | [.c (.p (.s s)), .c (.p (.s p))] => (L_strings_CutPrefix s p).map fun r => .tup [(false, [.p (.s r.1)]), (false, [.p (.b r.2)])]
  | _ => none
theorem ok_strings_CutPrefix (L : Lays.n103 P ρ) : LibOK1 G P (ρ.f 103) Q_strings_CutPrefix := by
  intro args v h
  unfold Q_strings_CutPrefix at h
  split at h
  · cases h
    refine ⟨fun c hc => ?_, fun F N0 up pl w vals hm hN hv => ?_⟩
    · simp only [AV.cvs, List.flatMap_cons, List.flatMap_nil, List.append_nil, List.cons_append, List.nil_append, List.mem_cons, List.not_mem_nil, or_false] at hc
      rcases hc with rfl | rfl <;> exact ⟨_, rfl⟩
    obtain ⟨u, r1, rfl, hu, hv⟩ := repAs_cons hv
    obtain ⟨u', r2, rfl, hu', hv⟩ := repAs_cons hv
    obtain rfl := repAs_nil hv
    obtain rfl := repA_s hu
    obtain rfl := repA_s hu'
    exact goes_of (enters_of L.f103 (by kernel_rfl) rfl) ((Any.strings_CutPrefix L _ _ w).mono fun e w' ⟨he, hw⟩ => ⟨_, he, by rw [hw]; exact ⟨rfl, rfl, rfl, Nat.le_refl _, fun _ _ _ => rfl⟩, rep_tup2 (.s _) (.b _)⟩)
  · cases h

/-! ### strings.TrimLeft -/
def L_strings_TrimLeft (s p : ByteArray) : Option ByteArray := if p.size < 4294967281 ∧ p.data.toList.all (fun b => decide (b.toNat < 128)) = true then some ⟨(Lib.trimLeftS s.data.toList p.data.toList).toArray⟩ else none
def Q_strings_TrimLeft : List AV → Option AV
  | [.c (.p (.s s)), .c (.p (.s p))] => (L_strings_TrimLeft s p).map fun r => .c (.p (.s r))
  | _ => none
theorem ok_strings_TrimLeft (L : Lays.n161 P ρ) (h116 : (P.info? (ρ.t 116)).map (fun i => (i.zero, i.size)) = some (some (.agg (Array.replicate 256 (.bool false))), 256)) : LibOK1 G P (ρ.f 161) Q_strings_TrimLeft := by
  intro args v h
  unfold Q_strings_TrimLeft at h
  split at h
  · obtain ⟨r, h1, rfl⟩ := Option.map_eq_some_iff.1 h
    unfold L_strings_TrimLeft at h1
    split at h1
    · rename_i hc
      cases h1
      refine ⟨fun c hc => ⟨_, by simpa [AV.cvs] using hc⟩, fun F N0 up pl w vals hm hN hv => ?_⟩
      obtain ⟨u, r1, rfl, hu, hv⟩ := repAs_cons hv
      obtain ⟨u', r2, rfl, hu', hv⟩ := repAs_cons hv
      obtain rfl := repAs_nil hv
      obtain rfl := repA_s hu
      obtain rfl := repA_s hu'
      exact goes_of (enters_of L.f161 (by kernel_rfl) rfl) ((Any.strings_TrimLeft_laid L h116 _ _ w hc.1 (ascii_of_all hc.2)).mono fun e w' ⟨he, hw⟩ => ⟨_, he, step_below hw, .s _⟩)
    · cases h1
  · cases h

/-! ### variables of the library -/
theorem tab_again {W : World} {name : String} {k : IntKind} {zs : List Int} {g : Nat} (hg : P.globalNamed name = some g) (h : Lib.TabIs P W name k zs) (hk : ∀ o, W.heap[g]? = some o → w.heap[g]? = some o) : Lib.TabIs P w name k zs := by
  unfold Lib.TabIs World.var? at h ⊢
  simp only [hg, Option.bind_some] at h ⊢
  cases ho : W.heap[g]? with
  | none => rw [ho] at h; cases h
  | some o => rw [hk o ho]; rw [ho] at h; exact h
theorem cell_again {W : World} {g : Nat} {v : Value} (h : W.cell? ⟨g, 0, none⟩ = some v) (hk : ∀ o, W.heap[g]? = some o → w.heap[g]? = some o) : w.cell? ⟨g, 0, none⟩ = some v := by
  cases ho : W.heap[g]? with
  | none => simp [World.cell?, ho] at h
  | some o =>
    rw [← h]
    exact World.cell?_of_block (by show w.heap[g]? = W.heap[g]?; rw [hk o ho, ho])
/-- what the first n blocks hold -/
def GOf (n : Nat) (W : World) : Nat → Option Obj := fun k => if k < n then W.heap[k]? else none
theorem gof_self {n : Nat} {W : World} : ∀ k o, GOf n W k = some o → W.heap[k]? = some o := fun k o h => by
  unfold GOf at h
  split at h
  · exact h
  · cases h
theorem gof_of {n : Nat} {W : World} (h : ∀ k o, GOf n W k = some o → w.heap[k]? = some o) {g : Nat} (hg : g < n) : ∀ o, W.heap[g]? = some o → w.heap[g]? = some o := fun o ho => h g o (by unfold GOf; rw [if_pos hg]; exact ho)
theorem errCell_of {n nm : String} {d : DataW Unit} {r : List (String × DataW Unit)} {W : World} {g N : Nat} {ti : TypeId} {ms : Array (String × TypeId)} (h : laidMet P ((n, .iface nm d) :: r) W)
    (hg : P.globalNamed n = some g) (ht : (P.globals[g]?).map (·.type) = some ti) (hi : P.underlying ti = some (.interface ms)) (hN : g < N) : ErrCell (GOf N W) g := by
  obtain ⟨ps, ⟨g0, t0, cs0, f0, p0, q0, hg0, ht0, hv0, hd0, _, e0⟩, _, hrows⟩ := h
  obtain rfl := Option.some.inj (hg.symm.trans hg0)
  obtain rfl := Option.some.inj (ht.symm.trans ht0)
  obtain ⟨l0⟩ := cs0
  obtain ⟨f1, u, v, rfl, hn, h1⟩ := iface_of_trod hi hd0
  intro w hw
  exact ⟨.iface u v, cell_again (by simpa using World.var?_cell hg0 hv0 0) (gof_of hw hN), .inr ⟨_, _, rfl⟩⟩
end
end Go.Eng
