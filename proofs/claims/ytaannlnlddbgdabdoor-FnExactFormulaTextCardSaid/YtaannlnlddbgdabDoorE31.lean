/-
  THE ENGINE, 31: shapes of values and what stands in them; tables of calls and of loops.
-/
import Derived.Test.YtaannlnlddbgdabDoorE30
set_option linter.unusedVariables false
set_option linter.unusedSimpArgs false
namespace Go.Eng

/-- what stands in a shape's places -/
inductive Hv where
  | b (x : Bool)
  | i (x : Int)
  | s (x : ByteArray)
  | r (x : List (List PV))
  | n (x : Nat)
def mtP : PV → PV → Option (List Hv)
  | .b _, .b x => some [.b x]
  | .i k _, .i k' x => if k = k' then some [.i x] else none
  | .s _, .s x => some [.s x]
  | .nif, .nif => some []
  | .ifc, .ifc => some []
  | .nl, .nl => some []
  | .ls _, .ls x => some [.r x]
  | _, _ => none
theorem mtP_inj {a b c : PV} {h : List Hv} (h1 : mtP a b = some h) (h2 : mtP a c = some h) : b = c := by
  cases a <;> cases b <;> simp only [mtP, reduceCtorEq] at h1 <;> cases c <;> simp only [mtP, reduceCtorEq] at h2
  case i.i.i =>
    split at h1
    · split at h2
      · rename_i e1 e2
        cases h1; cases h2
        rw [← e1, ← e2]
      · cases h2
    · cases h1
  all_goals (cases h1; first | rfl | (cases h2; rfl))
def apd (a : Option (List Hv)) (b : Option (List Hv)) : Option (List Hv) := match a, b with
  | some x, some y => some (x ++ y)
  | _, _ => none
/-- lists, item by item -/
def mtL {α : Type} (q : α → α → Option (List Hv)) : List α → List α → Option (List (List Hv))
  | [], [] => some []
  | a :: r, b :: l => match q a b, mtL q r l with
    | some x, some y => some (x :: y)
    | _, _ => none
  | _, _ => none
theorem mtL_inj {α : Type} {q : α → α → Option (List Hv)} (hq : ∀ a b c h, q a b = some h → q a c = some h → b = c) : ∀ {l m k : List α} {h}, mtL q l m = some h → mtL q l k = some h → m = k
  | [], [], [], h, _, _ => rfl
  | a :: l, b :: m, c :: k, h, h1, h2 => by
    simp only [mtL] at h1 h2
    split at h1
    · rename_i x y hx hy
      cases h1
      split at h2
      · rename_i x' y' hx' hy'
        cases h2
        rw [hq _ _ _ _ hx hx', mtL_inj hq hy hy']
      · cases h2
    · cases h1
  | [], _ :: _, _, h, h1, _ => by simp [mtL] at h1
  | _ :: _, [], _, h, h1, _ => by simp [mtL] at h1
  | [], _, _ :: _, h, _, h2 => by simp [mtL] at h2
  | _ :: _, _, [], h, _, h2 => by simp [mtL] at h2
def mtCap : Cap → Cap → Option (List Hv)
  | .p a, .p b => mtP a b
  | .ptr d t g, .ptr d' t' g' => if d = d' ∧ t = t' ∧ g = g' then some [] else none
  | _, _ => none
theorem mtCap_inj {a b c : Cap} {h : List Hv} (h1 : mtCap a b = some h) (h2 : mtCap a c = some h) : b = c := by
  cases a <;> cases b <;> simp only [mtCap, reduceCtorEq] at h1 <;> cases c <;> simp only [mtCap, reduceCtorEq] at h2
  · rw [mtP_inj h1 h2]
  · split at h1
    · split at h2
      · rename_i e1 e2
        rw [← e1.1, ← e1.2.1, ← e1.2.2, ← e2.1, ← e2.2.1, ← e2.2.2]
      · cases h2
    · cases h1
def mtCs : List Cap → List Cap → Option (List Hv)
  | [], [] => some []
  | [a], [b] => mtCap a b
  | _, _ => none
theorem mtCs_inj : ∀ {a b c : List Cap} {h : List Hv}, mtCs a b = some h → mtCs a c = some h → b = c
  | [], [], [], h, _, _ => rfl
  | [a], [b], [c], h, h1, h2 => by rw [mtCap_inj h1 h2]
  | [], [], _ :: _, h, _, h2 => by simp [mtCs] at h2
  | [], _ :: _, _, h, h1, _ => by simp [mtCs] at h1
  | [_], [], _, h, h1, _ => by simp [mtCs] at h1
  | [_], [_], [], h, _, h2 => by simp [mtCs] at h2
  | [_], [_], _ :: _ :: _, h, _, h2 => by simp [mtCs] at h2
  | [_], _ :: _ :: _, _, h, h1, _ => by simp [mtCs] at h1
  | _ :: _ :: _, _, _, h, h1, _ => by simp [mtCs] at h1
def mtC : CV → CV → Option (List Hv)
  | .p a, .p b => mtP a b
  | .own d t g _, .own d' t' g' n => if d = d' ∧ t = t' ∧ g = g' then some [.n n] else none
  | .ptr d t g j o, .ptr d' t' g' j' o' => if d = d' ∧ t = t' ∧ g = g' ∧ j = j' ∧ o = o' then some [] else none
  | .fn f cs, .fn f' cs' => if f = f' then mtCs cs cs' else none
  | .nfn, .nfn => some []
  | .u, .u => some []
  | _, _ => none
theorem mtC_inj {a b c : CV} {h : List Hv} (h1 : mtC a b = some h) (h2 : mtC a c = some h) : b = c := by
  cases a <;> cases b <;> simp only [mtC, reduceCtorEq] at h1 <;> cases c <;> simp only [mtC, reduceCtorEq] at h2
  case p.p.p => rw [mtP_inj h1 h2]
  case own.own.own =>
    split at h1
    · split at h2
      · rename_i e1 e2
        cases h1; cases h2
        rw [← e1.1, ← e1.2.1, ← e1.2.2, ← e2.1, ← e2.2.1, ← e2.2.2]
      · cases h2
    · cases h1
  case ptr.ptr.ptr =>
    split at h1
    · split at h2
      · rename_i e1 e2
        obtain ⟨rfl, rfl, rfl, rfl, rfl⟩ := e1
        obtain ⟨rfl, rfl, rfl, rfl, rfl⟩ := e2
        rfl
      · cases h2
    · cases h1
  case fn.fn.fn =>
    split at h1
    · rename_i e1
      subst e1
      split at h2
      · rename_i e2
        subst e2
        rw [mtCs_inj h1 h2]
      · cases h2
    · cases h1
  all_goals rfl
def mtA : AV → AV → Option (List (List Hv))
  | .c a, .c b => (mtC a b).map fun x => [x]
  | .agg a, .agg b => mtL mtC a b
  | _, _ => none
theorem mtA_inj {a b c : AV} {h : List (List Hv)} (h1 : mtA a b = some h) (h2 : mtA a c = some h) : b = c := by
  cases a <;> cases b <;> simp only [mtA, reduceCtorEq] at h1 <;> cases c <;> simp only [mtA, reduceCtorEq] at h2
  · obtain ⟨x, hx, rfl⟩ := Option.map_eq_some_iff.1 h1
    obtain ⟨y, hy, h2⟩ := Option.map_eq_some_iff.1 h2
    cases h2
    rw [mtC_inj hx hy]
  · rw [mtL_inj (q := mtC) (fun a b c h h1 h2 => mtC_inj h1 h2) h1 h2]
/-- lists of things with a list of contents each -/
def mtM {α : Type} (q : α → α → Option (List (List Hv))) : List α → List α → Option (List (List (List Hv)))
  | [], [] => some []
  | a :: r, b :: l => match q a b, mtM q r l with
    | some x, some y => some (x :: y)
    | _, _ => none
  | _, _ => none
theorem mtM_inj {α : Type} {q : α → α → Option (List (List Hv))} (hq : ∀ a b c h, q a b = some h → q a c = some h → b = c) : ∀ {l m k : List α} {h}, mtM q l m = some h → mtM q l k = some h → m = k
  | [], [], [], h, _, _ => rfl
  | a :: l, b :: m, c :: k, h, h1, h2 => by
    simp only [mtM] at h1 h2
    split at h1
    · rename_i x y hx hy
      cases h1
      split at h2
      · rename_i x' y' hx' hy'
        cases h2
        rw [hq _ _ _ _ hx hx', mtM_inj hq hy hy']
      · cases h2
    · cases h1
  | [], _ :: _, _, h, h1, _ => by simp [mtM] at h1
  | _ :: _, [], _, h, h1, _ => by simp [mtM] at h1
  | [], _, _ :: _, h, _, h2 => by simp [mtM] at h2
  | _ :: _, _, [], h, _, h2 => by simp [mtM] at h2
def mtSl (a b : Nat × AV) : Option (List (List Hv)) := if a.1 = b.1 then mtA a.2 b.2 else none
theorem mtSl_inj {a b c : Nat × AV} {h} (h1 : mtSl a b = some h) (h2 : mtSl a c = some h) : b = c := by
  unfold mtSl at h1 h2
  split at h1
  · split at h2
    · rename_i e1 e2
      exact Prod.ext (e1.symm.trans e2) (mtA_inj h1 h2)
    · cases h2
  · cases h1
def mtK : BK → BK → Option (List (List Hv))
  | .box a, .box b => mtL mtC a b
  | .row _, .row x => some [[.r x]]
  | .dead, .dead => some []
  | _, _ => none
theorem mtK_inj {a b c : BK} {h} (h1 : mtK a b = some h) (h2 : mtK a c = some h) : b = c := by
  cases a <;> cases b <;> simp only [mtK, reduceCtorEq] at h1 <;> cases c <;> simp only [mtK, reduceCtorEq] at h2
  · rw [mtL_inj (q := mtC) (fun a b c h h1 h2 => mtC_inj h1 h2) h1 h2]
  · cases h1; cases h2; rfl
  · rfl
def mtBl (a b : Nat × Blk) : Option (List (List Hv)) := if a.1 = b.1 ∧ a.2.g = b.2.g ∧ a.2.sz = b.2.sz ∧ a.2.ty = b.2.ty then mtK a.2.k b.2.k else none
theorem mtBl_inj {a b c : Nat × Blk} {h} (h1 : mtBl a b = some h) (h2 : mtBl a c = some h) : b = c := by
  unfold mtBl at h1 h2
  split at h1
  · split at h2
    · rename_i e1 e2
      have := mtK_inj h1 h2
      obtain ⟨n, ⟨g, sz, ty, k⟩⟩ := a
      obtain ⟨n', ⟨g', sz', ty', k'⟩⟩ := b
      obtain ⟨n'', ⟨g'', sz'', ty'', k''⟩⟩ := c
      simp only at e1 e2 this
      obtain ⟨rfl, rfl, rfl, rfl⟩ := e1
      obtain ⟨rfl, rfl, rfl, rfl⟩ := e2
      rw [this]
    · cases h2
  · cases h1
def flat3 (a : List (List (List Hv))) : List Hv := a.flatten.flatten
/-- a loop's head -/
def mtU : List Frame → List Frame → Option (List (List (List (List Hv))))
  | [], [] => some []
  | [f], [g] => (mtM mtBl f g).map fun x => [x]
  | _, _ => none
theorem mtU_inj : ∀ {a b c : List Frame} {h : List (List (List (List Hv)))}, mtU a b = some h → mtU a c = some h → b = c
  | [], [], [], h, _, _ => rfl
  | [f], [g], [k], h, h1, h2 => by
    obtain ⟨x, hx, rfl⟩ := Option.map_eq_some_iff.1 h1
    obtain ⟨y, hy, h2⟩ := Option.map_eq_some_iff.1 h2
    cases h2
    rw [mtM_inj (q := mtBl) (fun a b c h h1 h2 => mtBl_inj h1 h2) hx hy]
  | [], [], _ :: _, h, _, h2 => by simp [mtU] at h2
  | [], _ :: _, _, h, h1, _ => by simp [mtU] at h1
  | [_], [], _, h, h1, _ => by simp [mtU] at h1
  | [_], [_], [], h, _, h2 => by simp [mtU] at h2
  | [_], [_], _ :: _ :: _, h, _, h2 => by simp [mtU] at h2
  | [_], _ :: _ :: _, _, h, h1, _ => by simp [mtU] at h1
  | _ :: _ :: _, _, _, h, h1, _ => by simp [mtU] at h1
abbrev Cont3 := List (List (List Hv)) × List (List (List Hv)) × List (List (List (List Hv)))
def mtS (a b : St) : Option Cont3 := match mtM mtSl a.t b.t, mtM mtBl a.fr b.fr, mtU a.up b.up with
  | some x, some y, some z => some (x, y, z)
  | _, _, _ => none
theorem mtS_inj {a b c : St} {h} (h1 : mtS a b = some h) (h2 : mtS a c = some h) : b = c := by
  unfold mtS at h1 h2
  split at h1
  · rename_i x y z hx hy hz
    cases h1
    split at h2
    · rename_i x' y' z' hx' hy' hz'
      cases h2
      obtain ⟨t, fr, up⟩ := b
      obtain ⟨t', fr', up'⟩ := c
      have e1 := mtM_inj (q := mtSl) (fun a b c h h1 h2 => mtSl_inj h1 h2) hx hx'
      have e2 := mtM_inj (q := mtBl) (fun a b c h h1 h2 => mtBl_inj h1 h2) hy hy'
      have e3 := mtU_inj hz hz'
      simp only at e1 e2 e3
      rw [e1, e2, e3]
    · cases h2
  · cases h1

/-! ### calls -/
abbrev Cont := List (List (List Hv)) × List (List (List (List Hv)))
/-- one entry: arguments of the shape A0, frames of the shape U0 -/
def cent {R : Type} (A0 : List AV) (U0 : List Frame) (FH : Cont → Option R) (O : R → Res) (d : List AV → List Frame → Tr Res) (ar : List AV) (up : List Frame) : Tr Res := match mtM mtA A0 ar, mtU U0 up with
  | some hs, some us => .opt (FH (hs, us)) fun r => .done (O r)
  | _, _ => d ar up
theorem cent_ok {R : Type} {run : Runs} {f : FuncId} {A0 : List AV} {U0 : List Frame} {FH : Cont → Option R} {O : R → Res} {d : List AV → List Frame → Tr Res} (h : ∀ hs r, FH hs = some r → ∃ ar up, mtM mtA A0 ar = some hs.1 ∧ mtU U0 up = some hs.2 ∧ run f ar up = some (O r))
    (hd : ∀ ar up r, (d ar up).run = some r → run f ar up = some r) : ∀ ar up r, (cent A0 U0 FH O d ar up).run = some r → run f ar up = some r := by
  intro ar up r hr
  unfold cent at hr
  split at hr
  · rename_i hs us hm hu
    obtain ⟨x, h1, h2⟩ := Tr.opt_some hr
    cases h2
    obtain ⟨ar', up', h3, h4, h5⟩ := h (hs, us) x h1
    rw [mtM_inj (q := mtA) (fun a b c h h1 h2 => mtA_inj h1 h2) hm h3, mtU_inj hu h4]
    exact h5
  · exact hd ar up r hr
/-- an entry whose answer has one of two shapes -/
def cent2 {R1 R2 : Type} (A0 : List AV) (U0 : List Frame) (FH : Cont → Option (R1 ⊕ R2)) (O : R1 ⊕ R2 → Res) (d : List AV → List Frame → Tr Res) (ar : List AV) (up : List Frame) : Tr Res := match mtM mtA A0 ar, mtU U0 up with
  | some hs, some us => .opt (FH (hs, us)) fun r => .alt r (fun a => .done (O (.inl a))) (fun b => .done (O (.inr b)))
  | _, _ => d ar up
theorem cent2_ok {R1 R2 : Type} {run : Runs} {f : FuncId} {A0 : List AV} {U0 : List Frame} {FH : Cont → Option (R1 ⊕ R2)} {O : R1 ⊕ R2 → Res} {d : List AV → List Frame → Tr Res} (h : ∀ hs r, FH hs = some r → ∃ ar up, mtM mtA A0 ar = some hs.1 ∧ mtU U0 up = some hs.2 ∧ run f ar up = some (O r))
    (hd : ∀ ar up r, (d ar up).run = some r → run f ar up = some r) : ∀ ar up r, (cent2 A0 U0 FH O d ar up).run = some r → run f ar up = some r := by
  intro ar up r hr
  unfold cent2 at hr
  split at hr
  · rename_i hs us hm hu
    obtain ⟨x, h1, h2⟩ := Tr.opt_some hr
    obtain ⟨ar', up', h3, h4, h5⟩ := h (hs, us) x h1
    rw [mtM_inj (q := mtA) (fun a b c h h1 h2 => mtA_inj h1 h2) hm h3, mtU_inj hu h4]
    rcases x with x | x
    · cases h2; exact h5
    · cases h2; exact h5
  · exact hd ar up r hr
/-- a function of the library -/
theorem lib_step {KP : FuncId → Option KFun} {lib : FuncId → List AV → Option AV} {n : Nat} {f : FuncId} {args : List AV} {up : List Frame} {v : AV} (hk : KP f = none) (hl : lib f args = some v) : runs KP lib (n + 1) f args up = some ⟨v, up, []⟩ := by
  simp only [runs, hk, hl, Option.map_some]
def noEnt : List AV → List Frame → Tr Res := fun _ _ => .fail
theorem noEnt_ok {run : Runs} {f : FuncId} : ∀ ar up r, (noEnt ar up).run = some r → run f ar up = some r := fun ar up r h => by cases h
def mkCT : List (FuncId × (List AV → List Frame → Tr Res)) → CTab
  | [], _, _, _ => .fail
  | (g, c) :: r, f, ar, up => if g = f then c ar up else mkCT r f ar up
theorem mkCT_nil {run : Runs} : CTok (mkCT []) run := fun f ar up r h => by cases h
theorem mkCT_cons {run : Runs} {g : FuncId} {c : List AV → List Frame → Tr Res} {l : List (FuncId × (List AV → List Frame → Tr Res))} (hc : ∀ ar up r, (c ar up).run = some r → run g ar up = some r) (hl : CTok (mkCT l) run) : CTok (mkCT ((g, c) :: l)) run := by
  intro f ar up r h
  simp only [mkCT] at h
  split at h
  · rename_i e; subst e; exact hc ar up r h
  · exact hl f ar up r h

/-! ### loops -/
def loopF {V R : Type} (B : V → Tr (V ⊕ R)) : Nat → V → Option R
  | 0, _ => none
  | m + 1, v => match (B v).run with
    | some (.inl v') => loopF B m v'
    | some (.inr r) => some r
    | none => none
def lent {V R : Type} (S0 : St) (VH : Cont3 → Option V) (B : V → Tr (V ⊕ R)) (DT : R → Tr (Ex × St)) (N : Nat) (st : St) : Tr (Ex × St) := match mtS S0 st with
  | some hs => match VH hs with
    | some v => .opt (loopF B N v) DT
    | none => .fail
  | none => .fail
def mkLT : List (Nat × (St → Tr (Ex × St))) → LTab
  | [], _, _ => .fail
  | (g, c) :: r, f, st => if g = f then c st else mkLT r f st
def lenc {V R : Type} (sk : V → St) (D : R → Ex × St) : V ⊕ R → Tr (Ex × St)
  | .inl v => .done (.normal, sk v)
  | .inr r => .done (D r)
def ltail (keep : List Nat) (outs : List (Ex × List Nat)) (p : Ex × St × Kn) : Tr (Ex × St) := .done (p.1, p.2.1.norm (if p.1 = .normal then keep else outOf p.1 outs))

section
variable {CT : CTab} {LT : LTab} {run : Runs} {N : Nat}
theorem loopF_ok {V R : Type} {body : KCode} {keep : List Nat} {outs : List (Ex × List Nat)} {sk : V → St} {B : V → Tr (V ⊕ R)} {D : R → Ex × St} (hC : CTok CT run) (hL : LTok LT run N body)
    (hT : ∀ v, (evalCT CT LT body (sk v) []).bind (ltail keep outs) = (B v).bind (lenc sk D)) (hD : ∀ r, (D r).1 ≠ .normal) :
    ∀ (m : Nat) (v : V) (r : R), loopF B m v = some r → ∃ s0, iterN (evalC run N body) keep m (sk v) = some ((D r).1, s0) ∧ (D r).2 = s0.norm (outOf (D r).1 outs)
  | 0, v, r, h => by simp [loopF] at h
  | m + 1, v, r, h => by
    have key : ∀ {x : V ⊕ R} {y : Ex × St}, (B v).run = some x → (lenc sk D x).run = some y → ∃ s kn, evalC run N body (sk v) = some (y.1, s) ∧ y.2 = s.norm (if y.1 = .normal then keep else outOf y.1 outs) := fun {x y} hx hy => by
      have h1 : ((B v).bind (lenc sk D)).run = some y := by rw [Tr.run_bind, hx]; exact hy
      rw [← hT v] at h1
      obtain ⟨⟨e, s, kn⟩, h2, h3⟩ := Tr.bind_some h1
      cases h3
      exact ⟨s, kn, (evalCT_ok hC body hL (fun n b hn => by cases hn) h2).1, rfl⟩
    simp only [loopF] at h
    split at h
    · rename_i v' hv
      obtain ⟨s, kn, h1, h2⟩ := key (y := (.normal, sk v')) hv rfl
      obtain ⟨s0, h3, h4⟩ := loopF_ok hC hL hT hD m v' r h
      simp only [if_true] at h2
      refine ⟨s0, ?_, h4⟩
      simp only [iterN, h1, Option.bind_some]
      rw [← h2]
      exact h3
    · rename_i r' hr
      cases h
      obtain ⟨s, kn, h1, h2⟩ := key (y := D r) hr rfl
      rw [if_neg (hD r)] at h2
      refine ⟨s, ?_, h2⟩
      simp only [iterN, h1, Option.bind_some]
      cases hq : (D r).1 with
      | normal => exact absurd hq (hD r)
      | _ => rfl
    · cases h
theorem lent_ok {V R : Type} {body : KCode} {keep : List Nat} {outs : List (Ex × List Nat)} {S0 : St} {VH : Cont3 → Option V} {sk : V → St} {B : V → Tr (V ⊕ R)} {D : R → Ex × St} {DT : R → Tr (Ex × St)} (hC : CTok CT run) (hL : LTok LT run N body)
    (hT : ∀ v, (evalCT CT LT body (sk v) []).bind (ltail keep outs) = (B v).bind (lenc sk D)) (hD : ∀ r, (D r).1 ≠ .normal) (hDT : ∀ r y, (DT r).run = some y → y = D r) (hV : ∀ hs v, VH hs = some v → mtS S0 (sk v) = some hs)
    {st : St} {e : Ex} {s : St} (h : (lent S0 VH B DT N st).run = some (e, s)) : ∃ s0, iterN (evalC run N body) keep N st = some (e, s0) ∧ s = s0.norm (outOf e outs) := by
  unfold lent at h
  split at h
  · rename_i hs hm
    split at h
    · rename_i v hv
      obtain ⟨r, h1, h2⟩ := Tr.opt_some h
      have h3 := hDT r _ h2
      obtain ⟨s0, h4, h5⟩ := loopF_ok hC hL hT hD N v r h1
      rw [← h3] at h4 h5
      rw [mtS_inj hm (hV hs v hv)]
      exact ⟨s0, h4, h5⟩
    · cases h
  · cases h
def LEok (run : Runs) (N : Nat) (x : Nat × List Nat × List (Ex × List Nat) × KCode) (c : St → Tr (Ex × St)) : Prop :=
  ∀ st e s, (c st).run = some (e, s) → ∃ s0, iterN (evalC run N x.2.2.2) x.2.1 N st = some (e, s0) ∧ s = s0.norm (outOf e x.2.2.1)
theorem mkLT_ok {c : KCode} {l : List (Nat × (St → Tr (Ex × St)))} (h : ∀ x ∈ loopsOf c, ∃ q, (∀ st, mkLT l x.1 st = q st) ∧ LEok run N x q) : LTok (mkLT l) run N c := by
  intro mk keep outs b hm st e s hr
  obtain ⟨q, h1, h2⟩ := h _ hm
  rw [h1] at hr
  exact h2 st e s hr
theorem noLoops {c : KCode} (h : loopsOf c = []) : LTok LT run N c := fun mk keep outs b hm => by rw [h] at hm; cases hm
end

/-- A function's answer, off its tree. -/
theorem fun_step {KP : FuncId → Option KFun} {lib : FuncId → List AV → Option AV} {n : Nat} {CT : CTab} {LT : LTab} {f : FuncId} {kf : KFun} (hf : KP f = some kf) (hC : CTok CT (runs KP lib n)) (hL : LTok LT (runs KP lib n) n kf.body) {R : Type} {T : Tr R} {O : R → Res} {args : List AV} {up : List Frame}
    (ht : funT CT LT kf args up = T.bind fun r => .done (O r)) {r : R} (h : T.run = some r) : runs KP lib (n + 1) f args up = some (O r) :=
  runs_tree hf hC hL (by rw [ht, Tr.run_bind, h]; rfl)
end Go.Eng
