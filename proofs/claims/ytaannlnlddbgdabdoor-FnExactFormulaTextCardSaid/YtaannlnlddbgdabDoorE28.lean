/-
  THE ENGINE, 28: more fuel gives the same answer; a law's arguments; a law's call.
-/
import Derived.Test.YtaannlnlddbgdabDoorE27
set_option linter.unusedVariables false
set_option linter.unusedSimpArgs false
namespace Go.Eng
open Go.RowKit Go.WideShapes

section
variable {run run' : Runs}
theorem bind_mono {α β : Type} {x x' : Option α} {f f' : α → Option β} {b : β} (hx : ∀ a, x = some a → x' = some a) (hf : ∀ a b, f a = some b → f' a = some b) (h : x.bind f = some b) : x'.bind f' = some b := by
  obtain ⟨a, h1, h2⟩ := Option.bind_eq_some_iff.1 h
  rw [hx a h1]
  exact hf a b h2
theorem doCall_mono (hr : ∀ f a u r, run f a u = some r → run' f a u = some r) {st : St} {dst : Nat} {bo : Bool} {f : FuncId} {args : List AV} {x : AV × St} (h : doCall run st dst bo f args = some x) : doCall run' st dst bo f args = some x := by
  unfold doCall at h ⊢
  split at h
  · rename_i hb
    rw [if_pos hb]
    refine bind_mono (fun a h => h) (fun p b h1 => ?_) h
    exact bind_mono (fun r h2 => hr _ _ _ _ h2) (fun r b h2 => h2) h1
  · rename_i hb
    rw [if_neg hb]
    refine bind_mono (fun a h => h) (fun p b h1 => ?_) h
    exact bind_mono (fun r h2 => hr _ _ _ _ h2) (fun r b h2 => h2) h1
theorem evalOp_mono (hr : ∀ f a u r, run f a u = some r → run' f a u = some r) {st : St} {dst : Nat} {k : KOp} {x : AV × St} (h : evalOp run st dst k = some x) : evalOp run' st dst k = some x := by
  cases k
  case call bo f args =>
    simp only [evalOp] at h ⊢
    split at h
    · rename_i g caps hg
      exact doCall_mono hr h
    · cases h
  case len s x => cases s <;> exact h
  all_goals exact h
theorem evalOper_mono (hr : ∀ f a u r, run f a u = some r → run' f a u = some r) {st st' : St} {o : KOper} (h : evalOper run st o = some st') : evalOper run' st o = some st' := by
  unfold evalOper at h ⊢
  cases hg : o.guard with
  | none =>
    rw [hg] at h
    simp only at h ⊢
    obtain ⟨x, h1, h2⟩ := Option.map_eq_some_iff.1 h
    rw [evalOp_mono hr h1]
    simpa using h2
  | some jw =>
    obtain ⟨j, want⟩ := jw
    rw [hg] at h
    simp only at h ⊢
    split at h
    · rename_i b hb
      split at h
      · rename_i e
        rw [if_pos e]
        obtain ⟨x, h1, h2⟩ := Option.map_eq_some_iff.1 h
        rw [evalOp_mono hr h1]
        simpa using h2
      · rename_i e
        rw [if_neg e]
        exact h
    · exact h
    · cases h
theorem evalOps_mono (hr : ∀ f a u r, run f a u = some r → run' f a u = some r) : ∀ (l : List KOper) {st st' : St}, evalOps run l st = some st' → evalOps run' l st = some st'
  | [], st, st', h => h
  | o :: l, st, st', h => by
    simp only [evalOps] at h ⊢
    exact bind_mono (fun s h => evalOper_mono hr h) (fun s b h => evalOps_mono hr l h) h
theorem iter_mono {body body' : St → Option (Ex × St)} {keep : List Nat} (hb : ∀ st x, body st = some x → body' st = some x) : ∀ {m m' : Nat} {st : St} {x : Ex × St}, m ≤ m' → iter body keep m st = some x → iter body' keep m' st = some x
  | 0, m', st, x, hm, h => by simp [iter] at h
  | m + 1, 0, st, x, hm, h => by omega
  | m + 1, m' + 1, st, x, hm, h => by
    simp only [iter] at h ⊢
    refine bind_mono (fun s h => hb _ _ h) (fun s b h => ?_) h
    obtain ⟨e, s⟩ := s
    cases e with
    | normal => exact iter_mono hb (by omega) h
    | exit id => exact h
    | ret => exact h
theorem evalC_mono (hr : ∀ f a u r, run f a u = some r → run' f a u = some r) {N N' : Nat} (hN : N ≤ N') : ∀ (c : KCode) {st : St} {x : Ex × St}, evalC run N c st = some x → evalC run' N' c st = some x := by
  intro c
  induction c with
  | skip => intro st x h; exact h
  | ops l =>
    intro st x h
    simp only [evalC] at h ⊢
    obtain ⟨s, h1, h2⟩ := Option.map_eq_some_iff.1 h
    rw [evalOps_mono hr l h1]
    simpa using h2
  | seq a b iha ihb =>
    intro st x h
    simp only [evalC] at h ⊢
    refine bind_mono (fun s h => iha h) (fun s b h => ?_) h
    obtain ⟨e, s⟩ := s
    cases e with
    | normal => exact ihb h
    | exit id => exact h
    | ret => exact h
  | cond c a b iha ihb =>
    intro st x h
    simp only [evalC] at h ⊢
    split at h
    · rename_i t ht
      cases t
      · exact ihb h
      · exact iha h
    · cases h
  | block id c ih =>
    intro st x h
    simp only [evalC] at h ⊢
    obtain ⟨s, h1, h2⟩ := Option.map_eq_some_iff.1 h
    rw [ih h1]
    simpa using h2
  | loop mk keep outs c ih =>
    intro st x h
    simp only [evalC] at h ⊢
    obtain ⟨y, h1, h2⟩ := Option.map_eq_some_iff.1 h
    rw [iter_mono (fun st x h => ih h) hN h1]
    simpa using h2
  | exit id => intro st x h; exact h
  | ret => intro st x h; exact h
end
theorem runs_mono {KP : FuncId → Option KFun} {lib : FuncId → List AV → Option AV} : ∀ {n m : Nat}, n ≤ m → ∀ {f args up r}, runs KP lib n f args up = some r → runs KP lib m f args up = some r
  | 0, m, _, f, args, up, r, h => by simp [runs] at h
  | n + 1, 0, hm, f, args, up, r, h => by omega
  | n + 1, m + 1, hm, f, args, up, r, h => by
    simp only [runs] at h ⊢
    split at h
    · split at h
      · rename_i hl
        rw [if_pos hl]
        exact bind_mono (fun s h => evalC_mono (fun f a u r h => runs_mono (by omega) h) (by omega) _ h) (fun s b h => h) h
      · cases h
    · exact h

/-! ### a law's arguments -/
def okAll : List (Bool × List Sh) → List (List PV) → Prop
  | [], [] => True
  | h :: l, x :: r => okR h.2 x ∧ okAll l r
  | _, _ => False
def argOf : Bool → List PV → AV
  | true, xs => .agg (xs.map .p)
  | false, [x] => .c (.p x)
  | false, _ => .c .u
def argsOf : List (Bool × List Sh) → List (List PV) → List AV
  | h :: l, x :: r => argOf h.1 x :: argsOf l r
  | _, _ => []
def shAll (P : Program) (ts : List TypeId) : Option (List (Bool × List Sh)) := ts.mapM fun t => (shOf P 20 t).map fun l => (aggB P t, l)

section
variable {P : Program} {w : World} {H : Type} {enc : TypeId × Value → H} {base : Nat}

theorem own_no (k : Nat) : ¬ Own noOwn noPl k := fun h => h.elim (fun h => h) (fun ⟨_, _, _, h⟩ => by cases h)
theorem rep_no {u : Value} {x : PV} (h : RepP noOwn w u x) : RepP (Own noOwn noPl) w u x := h.step (fun _ _ _ => rfl) (Nat.le_refl _) (fun k hk => absurd hk (own_no k))

theorem open_arg {t : TypeId} {v : Value} {d : DataW H} {ps : List MemPlace} {l : List Sh} (hl : shOf P 20 t = some l) (hv : Value.okWide P w .any base t v) (h : DataW.Trod enc P w 0 (fun _ => true) true t v d ps) (hw : (d.weights P t).all (· ≤ reachBytes) = true) :
    ∃ xs, okR l xs ∧ RepA noOwn [] noPl w v (argOf (aggB P t) xs) := by
  obtain ⟨m, hm⟩ := h
  obtain ⟨xs, h1, h2⟩ := opens 20 t l hl m _ _ hm hw
  refine ⟨xs, h1, ?_⟩
  have one : ∀ {v : Value}, v.cells.toList = [v] → Reps w v.cells.toList xs → RepA noOwn [] noPl w v (argOf false xs) := fun {v} e h => by
    rw [e] at h
    match xs, h with
    | [x], h => exact rep_no (h.2 0 _ _ rfl rfl)
    | [], h => exact trivial
    | _ :: _ :: _, h => exact trivial
  unfold shOf at hl
  split at hl
  · rename_i ht
    obtain ⟨b, rfl⟩ := okWide_bool ht hv
    simp only [aggB, ht]
    exact one rfl h2
  · rename_i k ht
    obtain ⟨b, rfl⟩ := okWide_int ht hv
    simp only [aggB, ht]
    exact one rfl h2
  · rename_i ht
    obtain ⟨b, rfl⟩ := okWide_string ht hv
    simp only [aggB, ht]
    exact one rfl h2
  · rename_i e ht
    obtain ⟨a, len, cap, rfl⟩ := okWide_slice ht hv
    simp only [aggB, ht]
    exact one rfl h2
  · rename_i fs ht
    obtain ⟨cs, rfl, _⟩ := okWide_struct ht hv
    simp only [aggB, ht]
    refine ⟨cs.toList, by simp, ⟨by rw [List.length_map]; exact h2.1, fun i u c hu hc => ?_⟩⟩
    rw [List.getElem?_map] at hc
    obtain ⟨x, hx, rfl⟩ := Option.map_eq_some_iff.1 hc
    have hr := h2.2 i u x hu hx
    exact ⟨rep_no hr, .inr hr.one.1⟩
  · cases hl

theorem open_args : ∀ {ts : List TypeId} {vs : List Value} {ds gs : List (DataW H)} {ps : List MemPlace} {tl : List TypeId} {shs : List (Bool × List Sh)}, shAll P ts = some shs → DataW.TrodAll enc P w 0 (fun _ => true) true ts vs ds ps →
    (∀ (j : Nat) t v, ts[j]? = some t → vs[j]? = some v → Value.okWide P w .any base t v) → (DataW.weightsEach P (ts ++ tl) (ds ++ gs)).all (· ≤ reachBytes) = true →
    ∃ xss, okAll shs xss ∧ RepAs noOwn [] noPl w vs (argsOf shs xss)
  | [], [], [], gs, ps, tl, shs, hs, _, _, _ => by
    simp [shAll] at hs
    subst hs
    exact ⟨[], trivial, by simp [argsOf, RepAs]⟩
  | t :: ts, v :: vs, d :: ds, gs, ps, tl, shs, hs, ⟨p, q, h1, h2, _⟩, hv, hw => by
    simp only [shAll, List.mapM_cons, Option.pure_def, Option.bind_eq_bind, Option.bind_eq_some_iff, Option.some.injEq, Option.map_eq_some_iff] at hs
    obtain ⟨s0, ⟨l, hl, rfl⟩, shs', hs', rfl⟩ := hs
    simp only [List.cons_append, DataW.weightsEach, List.all_append, Bool.and_eq_true] at hw
    obtain ⟨xs, o1, r1⟩ := open_arg hl (hv 0 t v rfl rfl) h1 hw.1
    obtain ⟨xss, o2, r2⟩ := open_args hs' h2 (fun j t v ht hv' => hv (j + 1) t v (by simpa using ht) (by simpa using hv')) hw.2
    refine ⟨xs :: xss, ⟨o1, o2⟩, by simp [argsOf, r2.1], fun i u x hu hx => ?_⟩
    cases i with
    | zero => cases hu; cases hx; exact r1
    | succ i => exact r2.2 i u x (by simpa using hu) (by simpa [argsOf] using hx)

/-- A law's call. -/
theorem law_calls_at {G : Nat → Option Obj} {KP : FuncId → Option KFun} {lib : FuncId → List AV → Option AV} {h : Hints} (hK : ∀ f kf, KP f = some kf → compiled P h f kf) (hL : LibOK G P lib) {f : FuncId} (hf : (KP f).isSome = true) {n : Nat} {vals : Array Value} {args : List AV}
    (hr : runs KP lib n f args [] = some ⟨.c (.p (.b true)), [], []⟩) (ha : RepAs noOwn [] noPl w vals.toList args) (hG : ∀ k o, G k = some o → w.heap[k]? = some o) : Calls P f vals w (fun e w' => e = .returned (.bool true) ∧ Below w.heap.size w w') := by
  have hg := runs_sound hK hL n f args [] _ hr noOwn (⟨w.heap.size⟩ : Base G) noPl w vals.toList ⟨fun d n b s h => (by cases h), fun d n d' n' b s s' h => (by cases h), fun d n B hB => (by cases hB), fun k (hk : False) => hk.elim, fun k o h => ⟨(Array.getElem?_eq_some_iff.1 (hG k o h)).1, hG k o h⟩⟩ (Nat.le_refl _) ha
  obtain ⟨kf, hkf⟩ := Option.isSome_iff_exists.1 hf
  obtain ⟨fn, hfn, hname, hcomp, _⟩ := hK f kf hkf
  simp only [compile, Option.bind_eq_some_iff, Option.map_eq_some_iff] at hcomp
  obtain ⟨c, hbody, _⟩ := hcomp
  have hn : ¬ fn.name = "runtime.NumGoroutine" := by simpa using hname
  rcases hg with ⟨u, w', h1, _⟩ | ⟨_, h2⟩
  · simp [callFunc, hfn, hn, hbody] at h1
  · refine h2.mono fun e w' ⟨u, he, hok⟩ => ?_
    obtain ⟨⟨pl', r1, _, r3⟩, _, _⟩ := hok
    subst he
    have r1 : RepP _ w' u (.b true) := r1
    cases r1
    exact ⟨rfl, r3.step.os, r3.step.tape, r3.step.output, r3.step.size, fun k hk => r3.step.block k hk (fun _ _ _ h => by cases h)⟩
/-- where nothing of the library is asked -/
theorem law_calls {KP : FuncId → Option KFun} {lib : FuncId → List AV → Option AV} {h : Hints} (hK : ∀ f kf, KP f = some kf → compiled P h f kf) (hL : LibOK (fun _ => none) P lib) {f : FuncId} (hf : (KP f).isSome = true) {n : Nat} {vals : Array Value} {args : List AV}
    (hr : runs KP lib n f args [] = some ⟨.c (.p (.b true)), [], []⟩) (ha : RepAs noOwn [] noPl w vals.toList args) : Calls P f vals w (fun e w' => e = .returned (.bool true) ∧ Below w.heap.size w w') :=
  law_calls_at hK hL hf hr ha (fun _ _ h => by cases h)
end
end Go.Eng
