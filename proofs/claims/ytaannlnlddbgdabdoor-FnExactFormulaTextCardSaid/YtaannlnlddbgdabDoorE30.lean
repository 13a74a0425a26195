/-
  THE ENGINE, 30: operations, code and functions, reckoned to a tree.
-/
import Derived.Test.YtaannlnlddbgdabDoorE29
set_option linter.unusedVariables false
set_option linter.unusedSimpArgs false
namespace Go.Eng

abbrev CTab := FuncId → List AV → List Frame → Tr Res
abbrev LTab := Nat → St → Tr (Ex × St)
def noRun : Runs := fun _ _ _ => none
abbrev OpR := AV × St × Kn × Option Bool

def dflt (st : St) (kn : Kn) (dst : Nat) (k : KOp) : Tr OpR := match evalOp noRun st dst k with
  | some (v, s) => .done (v, s, kn, none)
  | none => .fail

def binIT (op : BinOp) (k : IntKind) (lit : Bool) (x y : Int) (done : PV → Tr OpR) : Tr OpR :=
  match op with
  | .quo | .rem => if lit then (match binI op k x y with | some r => done r | none => .fail) else .ask (decide (y = 0)) .fail (match op with | .quo => done (.i k (k.wrap (x.tdiv y))) | _ => done (.i k (x.tmod y)))
  | .shl | .shr => if lit then (match binI op k x y with | some r => done r | none => .fail) else .fail
  | _ => match binI op k x y with
    | some r => done r
    | none => .fail
def isLit : KX → Bool
  | .k _ => true
  | .t _ => false
def boundT (st : St) (d : Int) : Option KX → Option Int := st.bound d

def lendBT (st : St) : AV → Tr (AV × Nat × Nat × Blk)
  | .c (.own d n g m) => match st.get d n with
    | some ⟨g', sz, ty, .row rows⟩ => if g = g' then .ask (decide (m = rows.length)) (.done (.c (.own 0 0 0 m), d, n, ⟨0, sz, ty, .row rows⟩)) .fail else .fail
    | _ => .fail
  | .c (.ptr d n g 0 0) => match st.get d n with
    | some ⟨g', sz, ty, .box cells⟩ => if g = g' ∧ cells.all isP = true then .done (.c (.ptr 0 0 0 0 0), d, n, ⟨0, sz, ty, .box cells⟩) else .fail
    | _ => .fail
  | _ => .fail
def lentA : AV → Bool
  | .c (.own ..) | .c (.ptr ..) => true
  | _ => false
def lendMT (st : St) : List AV → Tr (List AV × Nat × Nat × Blk)
  | [] => .fail
  | a :: r => if lentA a = true then (lendBT st a).bind fun (a, d, n, B) => match plainAs r with
      | some r => .done (a :: r, d, n, B)
      | none => .fail
    else match plainA a with
      | some a => (lendMT st r).bind fun (r, q) => .done (a :: r, q)
      | none => .fail

def evalOpT (CT : CTab) (st : St) (kn : Kn) (dst : Nat) : KOp → Tr OpR
  | .mv x => .done (st.eval x, st, kn, knX kn x)
  | .pick c a b => askK st kn c fun v st kn => match v with
    | true => .done (st.eval a, st, kn, knX kn a)
    | false => .done (st.eval b, st, kn, knX kn b)
  | .un op x => match op, st.eval x with
    | .not, .c (.p (.b v)) => .done (.c (.p (.b (!v))), st, kn, (knX kn x).map (!·))
    | _, _ => dflt st kn dst (.un op x)
  | .bin op x y => match st.eval x, st.eval y with
    | .c (.p (.i k a)), .c (.p (.i k' b)) => if k = k' then binIT op k (isLit y) a b (fun r => .done (.c (.p r), st, kn, none)) else .fail
    | .c (.p (.s a)), .c (.p (.s b)) => match op with
      | .add => .ask (decide (a.size + b.size ≤ 9223372036854775807)) (.done (.c (.p (.s (a ++ b))), st, kn, none)) .fail
      | op => match binS op a b with
        | some r => .done (.c (.p r), st, kn, none)
        | none => .fail
    | _, _ => .fail
  | .load g n ks a => match st.eval a with
    | .c (.rp e o) => if ks.length = n ∧ 0 < n then (cellsT e o ks).bind fun cs => match mkAV g cs with
        | some v => .done (v, st, kn, none)
        | none => .fail
      else .fail
    | .c (.ptr d m gg j o) => match st.get d m with
      | some ⟨g', _, _, .row rows⟩ => if gg = g' ∧ ks.length = n ∧ 0 < n then .opt (rows[j]?) fun e => (cellsT e o ks).bind fun cs => match mkAV g cs with
          | some v => .done (v, st, kn, none)
          | none => .fail
        else .fail
      | _ => dflt st kn dst (.load g n ks a)
    | _ => .fail
  | .store n a x => match st.eval a, st.eval x with
    | .c (.ptr d m gg j o), v => match st.get d m, v with
      | some ⟨_, _, _, .row _⟩, .tup _ => .fail
      | some ⟨_, _, _, .row _⟩, v => if v.cvs.length = n ∧ v.cvs.all (·.known) = true then
          (freezesT st v.cvs).bind fun (ys, st) => match st.get d m with
            | some ⟨g', sz, ty, .row rows⟩ => if gg = g' then .opt (rows[j]?) fun e => .ask (decide (o + ys.length ≤ e.length)) (.done (.c .u, st.set d m ⟨g', sz, ty, .row (rows.set j (setAt e o ys))⟩, kn, none)) .fail else .fail
            | _ => .fail
        else .fail
      | _, _ => dflt st kn dst (.store n a x)
    | _, _ => .fail
  | .index x i => match st.eval x, st.eval i with
    | .c (.p (.s s)), .c (.p (.i .i64 i)) => .ask (decide (0 ≤ i)) (.opt (s.toList[i.toNat]?) fun c => .done (.c (.p (.i .u8 c.toNat)), st, kn, none)) .fail
    | _, _ => .fail
  | .iaddr sz x i => match st.eval x, st.eval i with
    | .c (.p (.ls rows)), .c (.p (.i .i64 z)) => .ask (decide (0 ≤ z ∧ z < rows.length)) (.opt (rows[z.toNat]?) fun e => .ask (decide (e.length = sz)) (.done (.c (.rp e 0), st, kn, none)) .fail) .fail
    | .c (.own d n g m), .c (.p (.i .i64 z)) => match st.get d n with
      | some ⟨g', sz', _, .row rows⟩ => if g = g' ∧ sz' = sz then .ask (decide (m = rows.length ∧ 0 ≤ z ∧ z < m)) (.done (.c (.ptr d n g z.toNat 0), st, kn, none)) .fail else .fail
      | _ => dflt st kn dst (.iaddr sz x i)
    | _, _ => .fail
  | .slcS x lo hi => match st.eval x, st.bound 0 lo with
    | .c (.p (.s s)), some l => match st.bound s.size hi with
      | some h => .ask (decide (0 ≤ l ∧ l ≤ h ∧ h ≤ s.size)) (.done (.c (.p (.s (s.extract l.toNat h.toNat))), st, kn, none)) .fail
      | none => .fail
    | _, _ => .fail
  | .slc sz x lo hi => match st.eval x, st.bound 0 lo with
    | .c (.p (.ls rows)), some l => match st.bound rows.length hi with
      | some h => .ask (decide (0 ≤ l ∧ l ≤ h ∧ h ≤ rows.length ∧ rows.all (fun e => e.length == sz) = true)) (.done (.c (.p (.ls ((rows.take h.toNat).drop l.toNat))), st, kn, none)) .fail
      | none => .fail
    | _, _ => .fail
  | .toStr x => (rowsT st (st.eval x)).bind fun rows => .opt (bytesOf rows) fun l => .done (.c (.p (.s ⟨l.toArray⟩)), st, kn, none)
  | .app ty sz bytes x y => (rowsT st (st.eval y)).bind fun ys => match st.eval x with
    | .c (.p .nl) => .ask (decide (0 < sz ∧ 0 < bytes ∧ ys.length * bytes ≤ 140737488355328 ∧ ys.all (fun e => e.length == sz) = true))
        (.done (.c (.own st.up.length (dst * 64) (st.fresh (dst * 64)) ys.length), (st.new (dst * 64) sz ty (.row ys)).2, kn, none)) .fail
    | .c (.own d n g m) => match st.get d n with
      | some ⟨g', sz', ty', .row rows⟩ => if g = g' ∧ sz' = sz ∧ ty' = ty then .ask (decide (m = rows.length ∧ 0 < sz ∧ 0 < bytes ∧ (m + ys.length) * bytes ≤ 140737488355328 ∧ ys.all (fun e => e.length == sz) = true))
          (.done (.c (.own d n (g + 1) (m + ys.length)), st.set d n ⟨g + 1, sz, ty, .row (rows ++ ys)⟩, kn, none)) .fail else .fail
      | _ => .fail
    | _ => .fail
  | .mksl ty sz bytes zero l c => match st.eval l, st.eval c with
    | .c (.p (.i .i64 l)), .c (.p (.i .i64 c)) => if zero.length = sz then .ask (decide (0 ≤ l ∧ l = c ∧ bytes * l ≤ 140737488355328 ∧ l ≤ 9223372036854775807))
        (.done (.c (.own st.up.length (dst * 64) (st.fresh (dst * 64)) l.toNat), (st.new (dst * 64) sz ty (.row (zrows zero l.toNat))).2, kn, none)) .fail else .fail
    | _, _ => .fail
  | .call true f args => match st.eval f with
    | .c (.fn f caps) => (lendAsT st (args.map st.eval ++ caps.map Cap.av)).bind fun (as, lent) => (CT f as []).bind fun r =>
        if lent = false then .done (r.v.map (adopt1 st.up.length dst st.fr), { st with fr := adoptF dst r.rows 0 st.fr }, kn, none) else .ask (apartR r) (.done (r.v.map (adopt1 st.up.length dst st.fr), { st with fr := adoptF dst r.rows 0 st.fr }, kn, none)) .fail
    | _ => .fail
  | .call false f args => match st.eval f with
    | .c (.fn f caps) => (lendMT st (args.map st.eval ++ caps.map Cap.av)).bind fun (as, d, n, B) => (CT f as [[(0, B)]]).bind fun r => match backM st dst d n B r with
        | some (v, s) => .done (v, s, kn, none)
        | none => .fail
    | _ => .fail
  | k => dflt st kn dst k

def evalOperT (CT : CTab) (st : St) (kn : Kn) (o : KOper) : Tr (St × Kn) :=
  let go : St → Kn → Tr (St × Kn) := fun st kn => (evalOpT CT st kn (o.dst.getD 0) o.op).bind fun (v, s, kn, kb) => .done ({ s with t := putT s.t o.dst v }, knPut kn o.dst kb)
  match o.guard with
  | none => go st kn
  | some (j, want) => match look j st.t with
    | some (.tup []) => .done ({ st with t := putT st.t o.dst (.tup []) }, knPut kn o.dst none)
    | _ => askK st kn (.t j) fun v st kn => if v = want then go st kn else .done ({ st with t := putT st.t o.dst (.tup []) }, knPut kn o.dst none)
def evalOpsT (CT : CTab) : List KOper → St → Kn → Tr (St × Kn)
  | [], st, kn => .done (st, kn)
  | o :: r, st, kn => (evalOperT CT st kn o).bind fun (st, kn) => evalOpsT CT r st kn
def evalCT (CT : CTab) (LT : LTab) : KCode → St → Kn → Tr (Ex × St × Kn)
  | .skip, st, kn => .done (.normal, st, kn)
  | .ops l, st, kn => (evalOpsT CT l st kn).bind fun (st, kn) => .done (.normal, st, kn)
  | .seq a b, st, kn => (evalCT CT LT a st kn).bind fun (e, st, kn) => match e with
    | .normal => evalCT CT LT b st kn
    | e => .done (e, st, kn)
  | .cond c a b, st, kn => askK st kn c fun v st kn => match v with
    | true => evalCT CT LT a st kn
    | false => evalCT CT LT b st kn
  | .block id c, st, kn => (evalCT CT LT c st kn).bind fun (e, st, kn) => .done (if e = .exit id then .normal else e, st, kn)
  | .loop mk keep outs c, st, kn => (LT mk (st.norm keep)).bind fun (e, s) => .done (e, s, [])
  | .exit id, st, kn => .done (.exit id, st, kn)
  | .ret, st, kn => .done (.ret, st, kn)
def outsT (st : St) : List (Bool × List CV) → Tr (List (Bool × List CV) × St)
  | [] => .done ([], st)
  | (g, cs) :: r => (freezesT st cs).bind fun (ps, st) => (outsT st r).bind fun (l, st') => .done ((g, ps.map CV.p) :: l, st')
def resT (st : St) : List (Nat ⊕ (Nat × Bool × Nat)) → Tr (List (Bool × List CV)) := fun l => .ofOpt (resOf st l)
def finishT (kf : KFun) (e : Ex) (st : St) : Tr Res :=
  if (e = .normal ∨ e = .ret) ∧ kf.frozen = true then match resOf st kf.results with
    | some l => (outsT st l).bind fun (l, st) => .done ⟨answer l, st.up, []⟩
    | none => .fail
  else if e = .normal ∨ e = .ret then match (resOf st kf.results).bind (handOn st) with
    | some r => .done r
    | none => .fail
  else .fail
def funT (CT : CTab) (LT : LTab) (kf : KFun) (args : List AV) (up : List Frame) : Tr Res :=
  if args.length = kf.params.length then (evalCT CT LT kf.body ⟨zipT args 0, [], up⟩ []).bind fun (e, st, _) => finishT kf e st else .fail

/-! ### and that the tree says what the little language reckons -/
def CTok (CT : CTab) (run : Runs) : Prop := ∀ f args up r, (CT f args up).run = some r → run f args up = some r
def loopsOf : KCode → List (Nat × List Nat × List (Ex × List Nat) × KCode)
  | .seq a b | .cond _ a b => loopsOf a ++ loopsOf b
  | .block _ c => loopsOf c
  | .loop mk keep outs c => [(mk, keep, outs, c)]
  | _ => []
/-- a loop whose head has been laid already -/
def iterN (body : St → Option (Ex × St)) (keep : List Nat) : Nat → St → Option (Ex × St)
  | 0, _ => none
  | m + 1, st => (body st).bind fun (e, s) => match e with
    | .normal => iterN body keep m (s.norm keep)
    | e => some (e, s)
theorem iter_eq (body : St → Option (Ex × St)) (keep : List Nat) : ∀ (m : Nat) (st : St), iter body keep m st = iterN body keep m (st.norm keep)
  | 0, st => rfl
  | m + 1, st => by
    simp only [iter, iterN]
    congr 1
    funext p
    obtain ⟨e, s⟩ := p
    cases e with
    | normal => exact iter_eq body keep m s
    | _ => rfl
def LTok (LT : LTab) (run : Runs) (N : Nat) (c : KCode) : Prop :=
  ∀ mk keep outs b, (mk, keep, outs, b) ∈ loopsOf c → ∀ st e s, (LT mk st).run = some (e, s) → ∃ s0, iterN (evalC run N b) keep N st = some (e, s0) ∧ s = s0.norm (outOf e outs)

section
variable {CT : CTab} {LT : LTab} {run : Runs} {N : Nat} {st : St} {kn : Kn}

theorem dflt_ok {dst : Nat} {k : KOp} {v : AV} {s : St} {kn' : Kn} {kb : Option Bool} (hk : KnOK kn st) (h : (dflt st kn dst k).run = some (v, s, kn', kb)) (hst : ∀ {v s}, evalOp noRun st dst k = some (v, s) → s.t = st.t) :
    evalOp run st dst k = some (v, s) ∧ s.t = st.t ∧ KnOK kn' s ∧ ∀ b, kb = some b → v = .c (.p (.b b)) := by
  unfold dflt at h
  split at h
  · rename_i v' s' he
    cases h
    have ht := hst he
    exact ⟨evalOp_mono (fun f a u r h => by cases h) he, ht, hk.frame ht, fun b hb => by cases hb⟩
  · cases h

theorem freeze1_t {c : CV} {st : St} {y : PV × St} (h : freeze1 st c = some y) : y.2.t = st.t := by
  unfold freeze1 at h
  split at h
  · cases h; rfl
  · split at h
    · split at h
      · cases h; exact set_t _ _ _ _
      · cases h
    · cases h
  · cases h
theorem freezes_t : ∀ {l : List CV} {st : St} {y : List PV × St}, freezes st l = some y → y.2.t = st.t
  | [], st, y, h => by cases h; rfl
  | x :: r, st, y, h => by
    simp only [freezes, Option.bind_eq_some_iff, Option.some.injEq] at h
    obtain ⟨⟨a, s1⟩, h1, ⟨b, s2⟩, h2, rfl⟩ := h
    exact (freezes_t h2).trans (freeze1_t h1)
theorem freezeRows_t : ∀ {l : List (List CV)} {st : St} {y : List (List PV) × St}, freezeRows st l = some y → y.2.t = st.t
  | [], st, y, h => by cases h; rfl
  | x :: r, st, y, h => by
    simp only [freezeRows, Option.bind_eq_some_iff, Option.some.injEq] at h
    obtain ⟨⟨a, s1⟩, h1, ⟨b, s2⟩, h2, rfl⟩ := h
    exact (freezeRows_t h2).trans (freezes_t h1)
theorem write_t {a : AV} {xs : List CV} {s : St} (h : st.write a xs = some s) : s.t = st.t := by
  unfold St.write at h
  split at h
  · split at h
    · split at h
      · cases h; exact set_t _ _ _ _
      · cases h
    · simp only [Option.bind_eq_some_iff] at h
      obtain ⟨⟨ys, s1⟩, h1, h⟩ := h
      have ht := freezes_t h1
      simp only at h ht
      split at h
      · split at h
        · split at h
          · split at h
            · cases h; exact (set_t _ _ _ _).trans ht
            · cases h
          · cases h
        · cases h
      · cases h
    · cases h
  · cases h
theorem evalOp_t {dst : Nat} {k : KOp} {v : AV} {s : St} (h : evalOp run st dst k = some (v, s)) : s.t = st.t := by
  cases k <;> simp only [evalOp] at h
  case nil => cases h; rfl
  case mv => cases h; rfl
  case rel =>
    split at h
    · split at h <;> cases h; rfl
    · cases h
  case pick => split at h <;> cases h; rfl
  case box =>
    split at h
    · cases h
    · split at h
      · cases h; rfl
      · cases h
  case build =>
    obtain ⟨cs, _, h⟩ := Option.map_eq_some_iff.1 h
    cases h; rfl
  case bslice =>
    obtain ⟨rows, _, h⟩ := Option.bind_eq_some_iff.1 h
    split at h
    · rename_i rs s1 hf
      cases h
      exact freezeRows_t hf
    · split at h
      · cases h; rfl
      · cases h
  case load =>
    obtain ⟨cs, _, h⟩ := Option.bind_eq_some_iff.1 h
    obtain ⟨v', _, h⟩ := Option.map_eq_some_iff.1 h
    cases h; rfl
  case store =>
    split at h
    · cases h
    · split at h
      · obtain ⟨s', h1, h⟩ := Option.map_eq_some_iff.1 h
        cases h
        exact write_t h1
      · cases h
  case chk =>
    split at h
    · split at h <;> cases h; rfl
    · cases h; rfl
    · cases h; rfl
    · cases h
  case bin =>
    split at h
    · obtain ⟨_, _, h⟩ := Option.map_eq_some_iff.1 h; cases h; rfl
    · cases h
  case eqs =>
    split at h
    · obtain ⟨_, _, h⟩ := Option.map_eq_some_iff.1 h; cases h; rfl
    · cases h
  case beq => split at h <;> cases h; rfl
  case inil => split at h <;> cases h <;> rfl
  case un =>
    split at h
    · obtain ⟨_, _, h⟩ := Option.map_eq_some_iff.1 h; cases h; rfl
    · cases h
  case conv => split at h <;> cases h; rfl
  case str => split at h <;> cases h; rfl
  case toStr =>
    obtain ⟨_, _, h⟩ := Option.bind_eq_some_iff.1 h
    obtain ⟨_, _, h⟩ := Option.map_eq_some_iff.1 h; cases h; rfl
  case mkfn => obtain ⟨_, _, h⟩ := Option.map_eq_some_iff.1 h; cases h; rfl
  case mksl =>
    obtain ⟨_, _, h⟩ := Option.bind_eq_some_iff.1 h
    obtain ⟨_, _, h⟩ := Option.bind_eq_some_iff.1 h
    split at h <;> cases h; rfl
  case slcS =>
    split at h
    · obtain ⟨_, _, h⟩ := Option.bind_eq_some_iff.1 h
      obtain ⟨_, _, h⟩ := Option.bind_eq_some_iff.1 h
      split at h <;> cases h; rfl
    · cases h
  case slc =>
    split at h
    · obtain ⟨_, _, h⟩ := Option.bind_eq_some_iff.1 h
      obtain ⟨_, _, h⟩ := Option.bind_eq_some_iff.1 h
      split at h <;> cases h; rfl
    · cases h
  case faddr =>
    split at h
    · split at h <;> cases h; rfl
    · cases h; rfl
    · cases h
  case field =>
    split at h
    · split at h
      · obtain ⟨_, _, h⟩ := Option.map_eq_some_iff.1 h; cases h; rfl
      · cases h
    · cases h
  case iaddr =>
    obtain ⟨i, _, h⟩ := Option.bind_eq_some_iff.1 h
    split at h
    · split at h
      · split at h
        · split at h <;> cases h; rfl
        · cases h
      · cases h
    · split at h
      · split at h <;> cases h; rfl
      · split at h <;> cases h; rfl
      · cases h
    · cases h
  case index =>
    obtain ⟨i, _, h⟩ := Option.bind_eq_some_iff.1 h
    split at h
    · split at h
      · split at h <;> cases h; rfl
      · cases h
    · cases h
  case ext =>
    split at h
    · split at h
      · obtain ⟨_, _, h⟩ := Option.map_eq_some_iff.1 h; cases h; rfl
      · cases h
    · cases h
  case app =>
    split at h
    · split at h <;> cases h; rfl
    · split at h
      · split at h
        · cases h; exact set_t _ _ _ _
        · cases h
      · cases h
    · cases h
  case len s x =>
    cases s
    · simp only [evalOp] at h
      split at h
      · cases h; rfl
      · cases h; rfl
      · split at h <;> cases h; rfl
      · cases h
    · simp only [evalOp] at h
      split at h <;> cases h; rfl
  case mm => obtain ⟨_, _, h⟩ := Option.map_eq_some_iff.1 h; cases h; rfl
  case call bo f args =>
    split at h
    · unfold doCall at h
      split at h
      · obtain ⟨⟨as, l⟩, _, h⟩ := Option.bind_eq_some_iff.1 h
        obtain ⟨r, _, h⟩ := Option.bind_eq_some_iff.1 h
        split at h <;> cases h; rfl
      · obtain ⟨⟨ar, d, n, B⟩, _, h⟩ := Option.bind_eq_some_iff.1 h
        obtain ⟨r, _, h⟩ := Option.bind_eq_some_iff.1 h
        unfold backM at h
        split at h
        · split at h
          · split at h
            · cases h; exact set_t _ _ _ _
            · cases h
          · cases h
        · cases h
    · cases h

/-- what an operation's tree says -/
def OpOK (run : Runs) (st : St) (dst : Nat) (k : KOp) (x : OpR) : Prop := evalOp run st dst k = some (x.1, x.2.1) ∧ KnOK x.2.2.1 x.2.1 ∧ ∀ b, x.2.2.2 = some b → x.1 = .c (.p (.b b))
theorem dflt_run {dst : Nat} {k : KOp} {x : OpR} (hk : KnOK kn st) (h : (dflt st kn dst k).run = some x) : OpOK run st dst k x := by
  obtain ⟨v, s, kn', kb⟩ := x
  obtain ⟨h1, h2, h3, h4⟩ := dflt_ok (run := run) hk h (fun h => evalOp_t h)
  exact ⟨h1, h3, h4⟩
theorem opok_same {dst : Nat} {k : KOp} {v : AV} {kn' : Kn} {kb : Option Bool} {x : OpR} (he : evalOp run st dst k = some (v, st)) (hk : KnOK kn' st) (hb : ∀ b, kb = some b → v = .c (.p (.b b))) (h : (Tr.done (v, st, kn', kb)).run = some x) : OpOK run st dst k x := by
  cases h
  exact ⟨he, hk, hb⟩
theorem opok_mk {dst : Nat} {k : KOp} {v : AV} {s : St} {x : OpR} (he : evalOp run st dst k = some (v, s)) (hk : KnOK kn st) (h : (Tr.done (v, s, kn, none)).run = some x) : OpOK run st dst k x := by
  cases h
  exact ⟨he, hk.frame (evalOp_t he), fun b hb => by cases hb⟩

theorem adopt_nil (v : AV) (hv : ∀ c ∈ v.cvs, True) (n : Nat) (fr : Frame) : adoptF n [] 0 fr = fr := rfl

theorem lendBT_ok {a : AV} {y : AV × Nat × Nat × Blk} (h : (lendBT st a).run = some y) : lendB st a = some y := by
  unfold lendBT at h
  unfold lendB
  split at h
  · split at h
    · rename_i g' sz ty rows hB
      split at h
      · rename_i hg
        obtain ⟨hm, h⟩ := Tr.ask_yes h
        cases h
        simp only [hB]
        rw [if_pos ⟨hg, hm⟩]
      · cases h
    · cases h
  · split at h
    · rename_i g' sz ty cells hB
      split at h
      · rename_i hc
        cases h
        simp only [hB]
        rw [if_pos hc]
      · cases h
    · cases h
  · cases h
theorem lendB_none {a : AV} (h : ¬ lentA a = true) : lendB st a = none := by
  unfold lentA at h
  unfold lendB
  split
  · simp at h
  · simp at h
  · rfl
theorem lendMT_ok : ∀ {l : List AV} {y : List AV × Nat × Nat × Blk}, (lendMT st l).run = some y → lendM st l = some y
  | [], y, h => by cases h
  | a :: r, y, h => by
    simp only [lendMT] at h
    simp only [lendM]
    split at h
    · obtain ⟨⟨a', d, n, B⟩, h1, h⟩ := Tr.bind_some h
      rw [lendBT_ok h1]
      simp only at h ⊢
      split at h
      · rename_i r' hr
        cases h
        rw [hr]
        rfl
      · cases h
    · rename_i hn
      rw [lendB_none hn]
      simp only
      split at h
      · rename_i a' ha
        obtain ⟨⟨r', q⟩, h1, h⟩ := Tr.bind_some h
        cases h
        rw [ha, lendMT_ok h1]
        rfl
      · cases h
theorem store_eq {n dst : Nat} {a x : KX} (h : ∀ vs, st.eval x = .tup vs → False) : evalOp run st dst (.store n a x) = if (st.eval x).cvs.length = n ∧ (st.eval x).cvs.all (·.known) = true then (st.write (st.eval a) (st.eval x).cvs).map fun st => (.c .u, st) else none := by
  simp only [evalOp]
theorem evalOpT_ok (hC : CTok CT run) (hk : KnOK kn st) {dst : Nat} {k : KOp} {x : OpR} (h : (evalOpT CT st kn dst k).run = some x) : OpOK run st dst k x := by
  unfold evalOpT at h
  split at h
  · -- mv
    exact opok_same rfl hk (fun b hb => knX_ok hk hb) h
  · -- pick
    obtain ⟨v, kn', h1, h2, h3⟩ := askK_ok hk h
    cases v
    · exact opok_same (by simp only [evalOp, h1]; rfl) h2 (fun b hb => knX_ok h2 hb) h3
    · exact opok_same (by simp only [evalOp, h1]; rfl) h2 (fun b hb => knX_ok h2 hb) h3
  · -- un
    split at h
    · rename_i v hx
      refine opok_same (by simp only [evalOp, hx, unP]; rfl) hk (fun b hb => ?_) h
      obtain ⟨c, hc, rfl⟩ := Option.map_eq_some_iff.1 hb
      have := knX_ok hk hc
      rw [hx] at this
      cases this
      rfl
    · exact dflt_run hk h
  · -- bin
    rename_i op x y
    split at h
    · rename_i k a k' b hx hy
      split at h
      · rename_i e
        subst e
        have key : ∀ {r : PV} {z : OpR}, binI op k a b = some r → (Tr.done ((.c (.p r), st, kn, none) : OpR)).run = some z → OpOK run st dst (.bin op x y) z := fun {r z} hr h' =>
          opok_mk (by simp only [evalOp, hx, hy, binP, if_true, hr, Option.map_some]) hk h'
        unfold binIT at h
        split at h
        · split at h
          · split at h
            · rename_i r hr; exact key hr h
            · cases h
          · rcases Tr.ask_some h with ⟨_, h2⟩ | ⟨h1, h2⟩
            · cases h2
            · have h1 : ¬ b = 0 := by simpa using h1
              exact key (by simp only [binI]; rw [if_neg h1]) h2
        · split at h
          · split at h
            · rename_i r hr; exact key hr h
            · cases h
          · rcases Tr.ask_some h with ⟨_, h2⟩ | ⟨h1, h2⟩
            · cases h2
            · have h1 : ¬ b = 0 := by simpa using h1
              exact key (by simp only [binI]; rw [if_neg h1]) h2
        · split at h
          · split at h
            · rename_i r hr; exact key hr h
            · cases h
          · cases h
        · split at h
          · split at h
            · rename_i r hr; exact key hr h
            · cases h
          · cases h
        · split at h
          · rename_i r hr; exact key hr h
          · cases h
      · cases h
    · rename_i a b hx hy
      split at h
      · obtain ⟨h1, h2⟩ := Tr.ask_yes h
        exact opok_mk (by simp only [evalOp, hx, hy, binP, binS]; rw [if_pos h1]; rfl) hk h2
      · split at h
        · rename_i r hr
          exact opok_mk (by simp only [evalOp, hx, hy, binP, hr, Option.map_some]) hk h
        · cases h
    · cases h
  · -- load
    rename_i g n ks a
    split at h
    · rename_i e o ha
      split at h
      · rename_i hc
        obtain ⟨cs, h1, h2⟩ := Tr.bind_some h
        obtain ⟨ps, rfl, h3, h4⟩ := cellsT_ok h1
        obtain ⟨h5, h6⟩ := cells_read (by omega) h4
        split at h2
        · rename_i v hv
          rw [h3, hc.1] at h5 h6
          exact opok_mk (by simp only [evalOp, ha, St.read]; rw [if_pos h5, h6]; simp only [Option.bind_some, hv, Option.map_some]) hk h2
        · cases h2
      · cases h
    · rename_i d m gg j o ha
      split at h
      · rename_i g' sz ty rows hB
        split at h
        · rename_i hc
          obtain ⟨e, he, h⟩ := Tr.opt_some h
          obtain ⟨cs, h1, h2⟩ := Tr.bind_some h
          obtain ⟨ps, rfl, h3, h4⟩ := cellsT_ok h1
          obtain ⟨h5, h6⟩ := cells_read (by omega) h4
          split at h2
          · rename_i v hv
            rw [h3, hc.2.1] at h5 h6
            exact opok_mk (by simp only [evalOp, ha, St.read, hB]; rw [if_pos hc.1, he]; simp only; rw [if_pos h5, h6]; simp only [Option.bind_some, hv, Option.map_some]) hk h2
          · cases h2
        · cases h
      · exact dflt_run hk h
    · cases h
  · -- store
    rename_i n a x
    split at h
    · rename_i d m gg j o v ha
      split at h
      · cases h
      · rename_i B1 B2 B3 B4 hB hnt
        split at h
        · rename_i hc
          obtain ⟨⟨ys, s1⟩, h1, h2⟩ := Tr.bind_some h
          obtain ⟨h3, h4⟩ := freezesT_ok h1
          simp only at h2
          split at h2
          · rename_i g' sz ty rows hB'
            split at h2
            · rename_i hg
              obtain ⟨e, he, h2⟩ := Tr.opt_some h2
              obtain ⟨h5, h2⟩ := Tr.ask_yes h2
              refine opok_mk ?_ hk h2
              rw [store_eq hnt, if_pos hc, ha]
              simp only [St.write, hB, h3, Option.bind_some, hB']
              rw [if_pos hg, he]
              simp only
              rw [if_pos h5]
              rfl
            · cases h2
          · cases h2
        · cases h
      · exact dflt_run hk h
    · cases h
  · -- index
    split at h
    · rename_i s i hx hi
      obtain ⟨h1, h⟩ := Tr.ask_yes h
      obtain ⟨c, h2, h⟩ := Tr.opt_some h
      exact opok_mk (by simp only [evalOp, hi, intOf, Option.bind_some, hx]; rw [if_pos h1, h2]) hk h
    · cases h
  · -- iaddr
    rename_i sz x i
    split at h
    · rename_i rows z hx hi
      obtain ⟨h1, h⟩ := Tr.ask_yes h
      obtain ⟨e, h2, h⟩ := Tr.opt_some h
      obtain ⟨h3, h⟩ := Tr.ask_yes h
      exact opok_mk (by simp only [evalOp, hi, intOf, Option.bind_some, hx]; rw [if_pos h1, h2]; simp only; rw [if_pos h3]) hk h
    · rename_i d n g m z hx hi
      split at h
      · rename_i g' sz' ty rows hB
        split at h
        · rename_i hc
          obtain ⟨h1, h⟩ := Tr.ask_yes h
          exact opok_mk (by simp only [evalOp, hi, intOf, Option.bind_some, hx, hB]; rw [if_pos ⟨hc.1, hc.2, h1⟩]) hk h
        · cases h
      · exact dflt_run hk h
    · cases h
  · -- slcS
    rename_i x lo hi
    split at h
    · rename_i s l hx hl
      split at h
      · rename_i u hu
        obtain ⟨h1, h⟩ := Tr.ask_yes h
        exact opok_mk (by simp only [evalOp, hx, hl, hu, Option.bind_some]; rw [if_pos h1]) hk h
      · cases h
    · cases h
  · -- slc
    rename_i sz x lo hi
    split at h
    · rename_i rows l hx hl
      split at h
      · rename_i u hu
        obtain ⟨h1, h⟩ := Tr.ask_yes h
        exact opok_mk (by simp only [evalOp, hx, hl, hu, Option.bind_some]; rw [if_pos h1]) hk h
      · cases h
    · cases h
  · -- toStr
    obtain ⟨rows, h1, h⟩ := Tr.bind_some h
    obtain ⟨l, h2, h⟩ := Tr.opt_some h
    exact opok_mk (by simp only [evalOp, rowsT_ok h1, Option.bind_some, h2, Option.map_some]) hk h
  · -- app
    rename_i ty sz bytes x y
    obtain ⟨ys, h1, h⟩ := Tr.bind_some h
    have h1 := rowsT_ok h1
    split at h
    · rename_i hx
      obtain ⟨h2, h⟩ := Tr.ask_yes h
      exact opok_mk (by simp only [evalOp, hx, h1]; rw [if_pos h2]) hk h
    · rename_i d n g m hx
      split at h
      · rename_i g' sz' ty' rows hB
        split at h
        · rename_i hc
          obtain ⟨h2, h⟩ := Tr.ask_yes h
          exact opok_mk (by simp only [evalOp, hx, h1, hB]; rw [if_pos ⟨hc.1, hc.2.1, hc.2.2, h2⟩]) hk h
        · cases h
      · cases h
    · cases h
  · -- mksl
    split at h
    · rename_i l c hl hc
      split at h
      · rename_i hz
        obtain ⟨h2, h⟩ := Tr.ask_yes h
        exact opok_mk (by simp only [evalOp, hl, hc, intOf, Option.bind_some]; rw [if_pos ⟨h2.1, h2.2.1, h2.2.2.1, h2.2.2.2, hz⟩]) hk h
      · cases h
    · cases h
  · -- call
    rename_i f args
    split at h
    · rename_i g caps hf
      obtain ⟨⟨as, lent⟩, h1, h⟩ := Tr.bind_some h
      obtain ⟨r, h2, h⟩ := Tr.bind_some h
      have h1 := lendAsT_ok h1
      have h2 := hC _ _ _ _ h2
      split at h
      · rename_i hc
        refine opok_mk ?_ hk h
        simp only [evalOp, hf, doCall, if_true, h1, Option.bind_some, h2]
        rw [if_pos (.inl hc)]
      · rcases Tr.ask_some h with ⟨hc, h⟩ | ⟨_, h⟩
        · refine opok_mk ?_ hk h
          simp only [evalOp, hf, doCall, if_true, h1, Option.bind_some, h2]
          rw [if_pos (.inr hc)]
        · cases h
    · cases h
  · -- a call that is lent a block
    rename_i f args
    split at h
    · rename_i g caps hf
      obtain ⟨⟨as, d, n, B⟩, h1, h⟩ := Tr.bind_some h
      obtain ⟨r, h2, h⟩ := Tr.bind_some h
      have h1 := lendMT_ok h1
      have h2 := hC _ _ _ _ h2
      split at h
      · rename_i v s hb
        refine opok_mk ?_ hk h
        simp only [evalOp, hf, doCall, Bool.false_eq_true, if_false, h1, Option.bind_some, h2, hb]
      · cases h
    · cases h
  · exact dflt_run hk h

theorem evalOperT_ok (hC : CTok CT run) (hk : KnOK kn st) {o : KOper} {s : St} {kn' : Kn} (h : (evalOperT CT st kn o).run = some (s, kn')) : evalOper run st o = some s ∧ KnOK kn' s := by
  have go : ∀ {kn : Kn}, KnOK kn st → ((evalOpT CT st kn (o.dst.getD 0) o.op).bind fun (v, s, kn, kb) => Tr.done (({ s with t := putT s.t o.dst v } : St), knPut kn o.dst kb)).run = some (s, kn') →
      (evalOp run st (o.dst.getD 0) o.op).map (fun (a, st) => ({ st with t := putT st.t o.dst a } : St)) = some s ∧ KnOK kn' s := fun {kn} hk h => by
    obtain ⟨⟨v, s1, kn1, kb⟩, h1, h2⟩ := Tr.bind_some h
    obtain ⟨e1, e2, e3⟩ := evalOpT_ok hC hk h1
    cases h2
    exact ⟨by rw [e1]; rfl, knPut_ok e2 e3⟩
  unfold evalOperT at h
  cases hg : o.guard with
  | none =>
    simp only [hg] at h
    simp only [evalOper, hg]
    exact go hk h
  | some jw =>
    obtain ⟨j, want⟩ := jw
    simp only [hg] at h
    split at h
    · rename_i hu
      simp only [evalOper, hg, hu]
      cases h
      exact ⟨rfl, knPut_ok hk (fun b hb => by cases hb)⟩
    obtain ⟨v, kn1, h1, h2, h3⟩ := askK_ok hk h
    have h1' : look j st.t = some (.c (.p (.b v))) := by
      simp only [St.eval] at h1
      cases hq : look j st.t with
      | none => rw [hq] at h1; cases h1
      | some a => rw [hq] at h1; simp only at h1; rw [h1]
    simp only [evalOper, hg, h1']
    split at h3
    · rename_i e
      rw [if_pos e]
      exact go h2 h3
    · rename_i e
      rw [if_neg e]
      cases h3
      exact ⟨rfl, knPut_ok h2 (fun b hb => by cases hb)⟩
theorem evalOpsT_ok (hC : CTok CT run) : ∀ {l : List KOper} {st : St} {kn : Kn} {s : St} {kn' : Kn}, KnOK kn st → (evalOpsT CT l st kn).run = some (s, kn') → evalOps run l st = some s ∧ KnOK kn' s
  | [], st, kn, s, kn', hk, h => by cases h; exact ⟨rfl, hk⟩
  | o :: r, st, kn, s, kn', hk, h => by
    obtain ⟨⟨s1, kn1⟩, h1, h2⟩ := Tr.bind_some h
    obtain ⟨e1, e2⟩ := evalOperT_ok hC hk h1
    obtain ⟨e3, e4⟩ := evalOpsT_ok hC e2 h2
    exact ⟨by simp only [evalOps, e1, Option.bind_some, e3], e4⟩
theorem evalCT_ok (hC : CTok CT run) : ∀ (c : KCode), LTok LT run N c → ∀ {st : St} {kn : Kn} {e : Ex} {s : St} {kn' : Kn}, KnOK kn st → (evalCT CT LT c st kn).run = some (e, s, kn') → evalC run N c st = some (e, s) ∧ KnOK kn' s := by
  intro c
  induction c with
  | skip => intro hL st kn e s kn' hk h; cases h; exact ⟨rfl, hk⟩
  | ops l =>
    intro hL st kn e s kn' hk h
    obtain ⟨⟨s1, kn1⟩, h1, h2⟩ := Tr.bind_some h
    cases h2
    obtain ⟨e1, e2⟩ := evalOpsT_ok hC hk h1
    exact ⟨by simp only [evalC, e1, Option.map_some], e2⟩
  | seq a b iha ihb =>
    intro hL st kn e s kn' hk h
    obtain ⟨⟨e1, s1, kn1⟩, h1, h2⟩ := Tr.bind_some h
    obtain ⟨g1, g2⟩ := iha (fun mk keep outs b hm => hL mk keep outs b (by simp only [loopsOf]; exact List.mem_append_left _ hm)) hk h1
    simp only [evalC, g1, Option.bind_some]
    cases e1 with
    | normal => exact ihb (fun mk keep outs b hm => hL mk keep outs b (by simp only [loopsOf]; exact List.mem_append_right _ hm)) g2 h2
    | exit id => cases h2; exact ⟨rfl, g2⟩
    | ret => cases h2; exact ⟨rfl, g2⟩
  | cond c a b iha ihb =>
    intro hL st kn e s kn' hk h
    obtain ⟨v, kn1, h1, h2, h3⟩ := askK_ok hk h
    simp only [evalC, h1]
    cases v
    · exact ihb (fun mk keep outs b hm => hL mk keep outs b (by simp only [loopsOf]; exact List.mem_append_right _ hm)) h2 h3
    · exact iha (fun mk keep outs b hm => hL mk keep outs b (by simp only [loopsOf]; exact List.mem_append_left _ hm)) h2 h3
  | block id c ih =>
    intro hL st kn e s kn' hk h
    obtain ⟨⟨e1, s1, kn1⟩, h1, h2⟩ := Tr.bind_some h
    cases h2
    obtain ⟨g1, g2⟩ := ih (fun mk keep outs b hm => hL mk keep outs b (by simpa only [loopsOf] using hm)) hk h1
    exact ⟨by simp only [evalC, g1, Option.map_some], g2⟩
  | loop mk keep outs c ih =>
    intro hL st kn e s kn' hk h
    obtain ⟨⟨e1, s1⟩, h1, h2⟩ := Tr.bind_some h
    cases h2
    obtain ⟨s0, g1, rfl⟩ := hL mk keep outs c (by simp [loopsOf]) _ _ _ h1
    exact ⟨by simp only [evalC, iter_eq, g1, Option.map_some], fun n b hn => by cases hn⟩
  | exit id => intro hL st kn e s kn' hk h; cases h; exact ⟨rfl, hk⟩
  | ret => intro hL st kn e s kn' hk h; cases h; exact ⟨rfl, hk⟩
theorem outsT_ok : ∀ {l : List (Bool × List CV)} {st : St} {y : List (Bool × List CV) × St}, (outsT st l).run = some y → outs st l = some y
  | [], st, y, h => by cases h; rfl
  | (g, cs) :: r, st, y, h => by
    obtain ⟨⟨ps, s1⟩, h1, h2⟩ := Tr.bind_some h
    obtain ⟨⟨l, s2⟩, h3, h4⟩ := Tr.bind_some h2
    cases h4
    simp only [outs, (freezesT_ok h1).1, Option.bind_some, outsT_ok h3, Option.map_some]
theorem finishT_ok {kf : KFun} {e : Ex} {st : St} {r : Res} (h : (finishT kf e st).run = some r) : finish kf e st = some r := by
  unfold finishT at h
  unfold finish
  split at h
  · rename_i hc
    rw [if_pos hc]
    split at h
    · rename_i l hl
      obtain ⟨⟨l', s⟩, h1, h2⟩ := Tr.bind_some h
      cases h2
      simp only [hl, Option.bind_some, outsT_ok h1, Option.map_some]
    · cases h
  · rename_i hc
    rw [if_neg hc]
    split at h
    · rename_i hc2
      rw [if_pos hc2]
      split at h
      · rename_i r' hr
        cases h
        exact hr
      · cases h
    · cases h
theorem funT_ok (hC : CTok CT run) {kf : KFun} (hL : LTok LT run N kf.body) {args : List AV} {up : List Frame} {r : Res} (h : (funT CT LT kf args up).run = some r) :
    args.length = kf.params.length ∧ ((evalC run N kf.body ⟨zipT args 0, [], up⟩).bind fun (e, st) => finish kf e st) = some r := by
  unfold funT at h
  split at h
  · rename_i hl
    obtain ⟨⟨e, s, kn⟩, h1, h2⟩ := Tr.bind_some h
    obtain ⟨g1, _⟩ := evalCT_ok (N := N) hC kf.body hL (fun n b hn => by cases hn) h1
    exact ⟨hl, by rw [g1]; exact finishT_ok h2⟩
  · cases h
end

/-- A function's tree is what the function answers. -/
theorem runs_tree {KP : FuncId → Option KFun} {lib : FuncId → List AV → Option AV} {n : Nat} {CT : CTab} {LT : LTab} {f : FuncId} {kf : KFun} (hf : KP f = some kf) (hC : CTok CT (runs KP lib n)) (hL : LTok LT (runs KP lib n) n kf.body) {args : List AV} {up : List Frame} {r : Res}
    (h : (funT CT LT kf args up).run = some r) : runs KP lib (n + 1) f args up = some r := by
  obtain ⟨h1, h2⟩ := funT_ok hC hL h
  simp only [runs, hf]
  rw [if_pos h1]
  exact h2
end Go.Eng
