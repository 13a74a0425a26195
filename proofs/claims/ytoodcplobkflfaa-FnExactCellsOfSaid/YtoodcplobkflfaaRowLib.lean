/-
  What a reading of plain data (numbers, truth values, texts, structs, slices of these) lays open for a walk, and that the same reading comes through behind a call that left elder memory alone. No condition.
-/
import Derived.Test.YtoodcplobkflfaaWWords
import Derived.ChangeArms
import Derived.ChangeOld
import Derived.ReadAgain
import Derived.Below
import Derived.WideShapes
import Derived.SizedLaws
import Derived.ChangeBears
set_option linter.unusedVariables false
namespace Go.Proofs.Ytoodcplobkflfaa.RowLib
open Go.RowKit Go.WideShapes Go.Proofs.YtoodcplobkflfaaW.PrintWords

theorem add_add (a : Addr) (m n : Nat) : (a.add m).add n = a.add (m + n) := by
  unfold Addr.add
  by_cases hm : m = 0
  · subst hm; simp
  · by_cases hn : n = 0
    · subst hn; simp
    · rw [if_neg hm, if_neg hn, if_neg (by omega)]
      simp [Nat.add_assoc]

theorem list_of {α : Type} {Q : Nat → α → Prop} : ∀ n : Nat, (∀ i, i < n → ∃ y, Q i y) → ∃ ys : List α, ys.length = n ∧ ∀ i y, ys[i]? = some y → Q i y
  | 0, _ => ⟨[], rfl, fun i y h => by simp at h⟩
  | n + 1, h => by
    obtain ⟨ys, hl, hq⟩ := list_of n (fun i hi => h i (by omega))
    obtain ⟨y, hy⟩ := h n (by omega)
    refine ⟨ys ++ [y], by simp [hl], fun i z hz => ?_⟩
    by_cases hi : i < ys.length
    · rw [List.getElem?_append_left hi] at hz
      exact hq i z hz
    · rw [List.getElem?_append_right (by omega)] at hz
      have h0 : i - ys.length = 0 := by
        by_cases h0 : i - ys.length = 0
        · exact h0
        · obtain ⟨m, hm⟩ : ∃ m, i - ys.length = m + 1 := ⟨i - ys.length - 1, by omega⟩
          rw [hm] at hz
          simp at hz
      rw [h0] at hz
      simp at hz
      subst hz
      have : i = n := by omega
      subst this
      exact hy

def Opens {α : Type} (P : Program) (t : TypeId) (d : Kd α) (ok : α → Prop) : Prop :=
  ∀ {H : Type} (enc : TypeId × Value → H) (w : World) (sp : Nat → Bool) (fuel : Nat) (cs : List Value) (x : DataW H × List MemPlace),
    DataW.trod enc P w 0 sp true fuel t cs = some x → (x.1.weights P t).all (· ≤ reachBytes) = true → ∃ y, d.K w y cs ∧ ok y

section
variable {P : Program} {t : TypeId}

theorem opens_int {k : IntKind} (ht : P.underlying t = some (.int k)) : Opens P t (Kd.int k) (fun n => (Lit.int k n).wf = true) := by
  intro H enc w sp fuel cs x h _
  obtain ⟨n, h1, _, h3⟩ := DataW.trod_int ht h
  exact ⟨n, h1, h3⟩

theorem opens_bool (ht : P.underlying t = some .bool) : Opens P t Kd.bool (fun _ => True) := by
  intro H enc w sp fuel cs x h _
  obtain ⟨b, h1, _⟩ := DataW.trod_bool ht h
  exact ⟨b, h1, trivial⟩

theorem opens_string (ht : P.underlying t = some .string) : Opens P t Kd.string (fun s => s.size ≤ 140737488351232) := by
  intro H enc w sp fuel cs x h hw
  obtain ⟨s, h1, rfl, _⟩ := DataW.trod_string ht h
  refine ⟨s, h1, ?_⟩
  simp [DataW.weights, reachBytes] at hw
  exact of_decide_eq_true hw

theorem weights_all {H : Type} {e : TypeId} : ∀ {ds : List (DataW H)}, (DataW.weightsAll P e ds).all (· ≤ reachBytes) = true → ∀ d ∈ ds, (d.weights P e).all (· ≤ reachBytes) = true
  | [], _, d, hd => by simp at hd
  | d0 :: ds, h, d, hd => by
    rw [DataW.weightsAll, List.all_append, Bool.and_eq_true] at h
    rcases List.mem_cons.1 hd with rfl | hd
    · exact h.1
    · exact weights_all h.2 d hd

theorem opens_slice {α : Type} {e : TypeId} {d : Kd α} {ok : α → Prop} (ht : P.underlying t = some (.slice e)) (he : d.sz = P.cellsOf e) (h : Opens P e d ok) :
    Opens P t (Kd.slice e d) (fun xs => xs.length * P.bytesOf e ≤ 140737488351232 ∧ ∀ x ∈ xs, ok x) := by
  intro H enc w sp fuel cs x hx hw
  rcases DataW.trod_slice ht hx with ⟨rfl, rfl⟩ | ⟨a, len, cap, elems, rest, n, rfl, rfl, rfl, _, hlc, hcm, hel, hat, _, _⟩
  · refine ⟨[], ⟨none, 0, rfl, Nat.le_refl _, rfl, by simp, fun h0 => absurd h0 (by simp)⟩, by simp, by simp⟩
  · simp only [DataW.weights, ht, List.all_cons, List.all_append, Bool.and_eq_true] at hw
    obtain ⟨hw0, hw1, _⟩ := hw
    have one : ∀ i, i < len → ∃ y : α, (∃ ci : List Value, ci.length = d.sz ∧ d.K w y ci ∧ ∀ j u, ci[j]? = some u → w.cell? (a.add (i * d.sz + j)) = some u) ∧ ok y := by
      intro i hi
      have hi' : i < elems.length := by omega
      have hh := hat i hi
      rw [List.getElem?_eq_getElem hi'] at hh
      simp only [Option.bind_eq_some_iff] at hh
      obtain ⟨ci, hc, hy⟩ := hh
      obtain ⟨_, hcl, hcc⟩ := World.cells?_some hc
      obtain ⟨y, hk, hok⟩ := h enc w sp n ci _ hy (weights_all hw1 _ (List.mem_map.2 ⟨_, List.getElem_mem hi', rfl⟩))
      refine ⟨y, ⟨ci, by rw [hcl, he], hk, fun j u hu => ?_⟩, hok⟩
      have hj : j < P.cellsOf e := by
        rw [← hcl]
        by_cases hj : j < ci.length
        · exact hj
        · rw [List.getElem?_eq_none (by omega)] at hu
          cases hu
      have := hcc j hj
      rw [add_add, ← he] at this
      rw [this, hu]
    obtain ⟨ys, hl, hq⟩ := list_of len one
    refine ⟨ys, ⟨some a, cap, by rw [hl], by omega, hl.symm ▸ rfl, ?_, fun _ => ⟨a, rfl, fun j p hp => ?_⟩⟩, ?_, ?_⟩
    · rw [hl]; simp only [maxLen] at hcm; omega
    · obtain ⟨⟨ci, h1, h2, h3⟩, _⟩ := hq j p hp
      exact ⟨ci, h1, h2, h3⟩
    · rw [hl, ← hel]
      have hb := of_decide_eq_true hw0
      simp only [List.length_map, reachBytes] at hb
      exact Nat.le_trans (Nat.mul_le_mul_right _ (Nat.le_add_right _ _)) hb
    · intro y hy
      obtain ⟨i, hi, rfl⟩ := List.getElem_of_mem hy
      exact (hq i _ (List.getElem?_eq_getElem hi)).2

/-- The fields of a struct, from one on: the cells from 'off' on. -/
def OpensF {β : Type} (P : Program) (fs : List Field) (off : Nat) (d : Kd β) (ok : β → Prop) : Prop :=
  ∀ {H : Type} (enc : TypeId × Value → H) (w : World) (sp : Nat → Bool) (n : Nat) (cs : List Value) (xs : List (DataW H × List MemPlace)),
    (∀ (i : Nat) f, fs[i]? = some f → DataW.trod enc P w 0 sp true n f.type ((cs.drop f.offset).take (P.cellsOf f.type)) = xs[i]?) → xs.length = fs.length →
    (DataW.weightsEach P (fs.map (·.type)) (xs.map (·.1))).all (· ≤ reachBytes) = true → ∃ y, d.K w y ((cs.drop off).take d.sz) ∧ ok y

theorem opensF_one {α : Type} {f : Field} {off : Nat} {d : Kd α} {ok : α → Prop} (ho : f.offset = off) (hs : d.sz = P.cellsOf f.type) (h : Opens P f.type d ok) : OpensF P [f] off d ok := by
  intro H enc w sp n cs xs hx hl hw
  match xs, hl with
  | [x], _ =>
    have h0 := hx 0 f rfl
    simp only [List.getElem?_cons_zero] at h0
    rw [ho, ← hs] at h0
    simp only [List.map_cons, List.map_nil, DataW.weightsEach, List.append_nil] at hw
    exact h enc w sp n _ _ h0 hw

theorem opensF_cons {α β : Type} {f : Field} {fs : List Field} {off : Nat} {a : Kd α} {b : Kd β} {oka : α → Prop} {okb : β → Prop} (ho : f.offset = off) (hs : a.sz = P.cellsOf f.type)
    (h : Opens P f.type a oka) (hr : OpensF P fs (off + a.sz) b okb) : OpensF P (f :: fs) off (Kd.pair a b) (fun x => oka x.1 ∧ okb x.2) := by
  intro H enc w sp n cs xs hx hl hw
  match xs, hl with
  | x :: xs, hl =>
    have h0 := hx 0 f rfl
    simp only [List.getElem?_cons_zero] at h0
    rw [ho, ← hs] at h0
    simp only [List.map_cons, DataW.weightsEach, List.all_append, Bool.and_eq_true] at hw
    obtain ⟨y, hy, oy⟩ := h enc w sp n _ _ h0 hw.1
    obtain ⟨z, hz, oz⟩ := hr enc w sp n cs xs (fun i g hg => by simpa using hx (i + 1) g (by simpa using hg)) (by simpa using hl) hw.2
    refine ⟨(y, z), ⟨_, _, ?_, hy, hz⟩, oy, oz⟩
    show (cs.drop off).take (a.sz + b.sz) = _
    rw [List.take_add, List.drop_drop]

theorem opens_struct {β γ : Type} {fs : Array Field} {d : Kd β} {ok : β → Prop} (proj : γ → β) (mk : β → γ) (hinv : ∀ b, proj (mk b) = b) (hu : P.underlying t = some (.struct fs)) (hs : d.sz = P.cellsOf t)
    (h : OpensF P fs.toList 0 d ok) : Opens P t (Kd.iso d proj) (fun y => ok (proj y)) := by
  intro H enc w sp fuel cs x hx hw
  obtain ⟨xs, n, rfl, rfl, hl, hxl, hat⟩ := DataW.trod_struct hu hx
  simp only [DataW.weights, hu] at hw
  obtain ⟨y, hy, oy⟩ := h enc w sp n cs xs (fun i f hf => hat i f (by simpa using hf)) (by simpa using hxl) hw
  rw [List.drop_zero, List.take_of_length_le (by omega)] at hy
  refine ⟨mk y, ?_, ?_⟩
  · show d.K w (proj (mk y)) cs
    rw [hinv]
    exact hy
  · show ok (proj (mk y))
    rw [hinv]
    exact oy

theorem sized_arg {H : Type} {ts : List TypeId} {ds : List (DataW H)} (h : (DataW.weightsEach P ts ds).all (· ≤ reachBytes) = true) (j : Nat) {t : TypeId} {d : DataW H} (ht : ts[j]? = some t) (hd : ds[j]? = some d) :
    (d.weights P t).all (· ≤ reachBytes) = true :=
  List.all_eq_true.2 fun n hn => List.all_eq_true.1 h n (DataW.weights_mem_each ht hd n hn)

variable {H : Type} {enc : TypeId × Value → H} {w : World} {sp : Nat → Bool} {base : Nat} {v : Value} {x : DataW H} {ps : List MemPlace}

theorem top_struct {α : Type} {d : Kd α} {ok : α → Prop} {fs : Array Field} (hu : P.underlying t = some (.struct fs)) (hv : Value.okWide P w .any base t v) (h : DataW.Trod enc P w 0 sp true t v x ps)
    (ho : Opens P t d ok) (hw : (x.weights P t).all (· ≤ reachBytes) = true) : ∃ cs y, v = .agg cs ∧ d.K w y cs.toList ∧ ok y := by
  obtain ⟨cs, rfl, _⟩ := okWide_struct hu hv
  obtain ⟨n, hn⟩ := h
  obtain ⟨y, hy, oy⟩ := ho enc w sp n _ _ hn hw
  exact ⟨cs, y, rfl, hy, oy⟩

theorem top_slice {α : Type} {e : TypeId} {d : Kd α} {ok : List α → Prop} (hu : P.underlying t = some (.slice e)) (hv : Value.okWide P w .any base t v) (h : DataW.Trod enc P w 0 sp true t v x ps)
    (ho : Opens P t (Kd.slice e d) ok) (hw : (x.weights P t).all (· ≤ reachBytes) = true) : ∃ A c xs, v = .slice A xs.length c ∧ xs.length ≤ c ∧ d.C w A xs.length xs ∧ ok xs := by
  obtain ⟨a, len, cap, rfl⟩ := okWide_slice hu hv
  obtain ⟨n, hn⟩ := h
  obtain ⟨y, ⟨A, c, hy, h1, h2⟩, oy⟩ := ho enc w sp n _ _ hn hw
  simp only [Value.cells, List.cons.injEq, and_true] at hy
  exact ⟨A, c, y, hy, h1, h2, oy⟩

theorem trodAll_carry {w' : World} : ∀ {ts : List TypeId} {vs : List Value} {ds : List (DataW H)} {ps : List MemPlace},
    DataW.TrodAll enc P w base sp true ts vs ds ps → (∀ p ∈ ps, w.sameAt w' p) → DataW.TrodAll enc P w' base sp true ts vs ds ps
  | [], [], [], _, h, _ => h
  | _ :: _, _ :: _, _ :: _, _, ⟨p, q, ⟨n, h1⟩, h2, e⟩, hs =>
    ⟨p, q, ⟨n, DataW.trod_carry n _ _ _ h1 (fun x hx => hs x (by rw [e]; exact List.mem_append_left _ hx))⟩, trodAll_carry h2 (fun x hx => hs x (by rw [e]; exact List.mem_append_right _ hx)), e⟩

theorem args_again {w' : World} {ts : List TypeId} {vs : List Value} {ds : List (DataW H)} (hl : laidOutB P = true) (hm : mapsRowed P = true)
    (hz : ((List.range P.types.size).all fun t => match P.underlying t with | some (.slice e) => decide (0 < P.cellsOf e) | _ => true) = true) (hts : ∀ t ∈ ts, t < P.types.size)
    (h : DataW.TrodAll enc P w 0 (fun _ => true) true ts vs ds ps) (hb : Below w.heap.size w w') : DataW.TrodAll enc P w' 0 (fun b => decide (b < w.heap.size)) true ts vs ds ps :=
  trodAll_carry (h.respare (kids_rows hl hm) (fun t e h1 h2 => slices_full_of P hz t e h1 h2) hts (fun p hp => decide_eq_true (h.lt p hp))) (fun p hp => hb.same (h.lt p hp))
end
end Go.Proofs.Ytoodcplobkflfaa.RowLib
