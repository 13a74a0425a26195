/-
  THE ENGINE, 2: the little language out of the model's own text of a function: 'compile' (the kernel reckons it), and the slots that are still read.
-/
import Derived.Test.YtaannlnlddbgdabDoorE1
import GoSem.Core.Layout
import GoSem.Core.Region
import GoSem.Op.Equal
import Derived.Orders
set_option linter.unusedVariables false
namespace Go.Eng

structure Hints where
  pass : List FuncId      -- calls of these are made with the caller's own blocks in reach
  passIn : List FuncId    -- in these all calls of function values are
  own : List FuncId       -- these hand their rows on, not frozen
  deriving Inhabited

def pvOf : Value → Option PV
  | .bool x => some (.b x)
  | .int k n => some (.i k n)
  | .string s => some (.s s)
  | .nilIface => some .nif
  | .slice none 0 0 => some .nl
  | _ => none
def cvOf : Value → Option CV
  | .nilFunc => some .nfn
  | v => (pvOf v).map .p
def avOf : Value → Option AV
  | .agg cs => (cs.toList.mapM cvOf).map .agg
  | .tuple _ => some (.c .u)
  | .pointer none => some (.c .u)
  | v => (cvOf v).map .c
def constO : Operand → Bool
  | .const v => (pvOf v).isSome
  | _ => false
/-- single plain constants that do not fit -/
def badParts (P : Program) (e : TypeId) (len : Nat) (parts : Array (Nat × Operand)) : Bool := parts.toList.any fun p => constO p.2 && !(decide (p.1 < len) && P.cellsOf e == 1)
def kx : Operand → Option KX
  | .tmp t => some (.t t)
  | .const v => (avOf v).map .k
  | .func f => some (.k (.c (.fn f [])))
  | .global _ => none
def kxo : Option Operand → Option (Option KX)
  | none => some none
  | some x => (kx x).map some
def aggB (P : Program) (t : TypeId) : Bool := match P.underlying t with | some (.struct _) | some (.array _ _) => true | _ => false
def aggO (P : Program) (t : TypeId) : Option Bool := match P.underlying t with | some (.struct _) | some (.array _ _) => some true | some _ => some false | none => none
def zeroPV (P : Program) (t : TypeId) : Option (List PV) := (P.info? t).bind fun i => i.zero.bind fun z => z.cells.toList.mapM pvOf
/-- what stands in each cell: 0 a truth value, 1 an int64, 2 a text, 3 a slice, 4 an interface, 6 a byte, 9 another -/
def kindOf : PV → Nat
  | .b _ => 0
  | .i .i64 _ => 1
  | .s _ => 2
  | .nl => 3
  | .nif => 4
  | .i .u8 _ => 6
  | _ => 9
def kindsOf (P : Program) (t : TypeId) : List Nat := match zeroPV P t with | some l => l.map kindOf | none => []
def rowOk (P : Program) (e : TypeId) : Bool := match P.info? e with
  | some i => match i.zero with
    | some z => decide (z.cells.size = i.size ∧ 0 < i.size)
    | none => false
  | none => false
def eqFs (P : Program) (q : TypeId → Option (List Nat)) : List Field → Nat → Option (List Nat)
  | [], off => some []
  | f :: r, off => if f.name ≠ "_" ∧ f.offset = off then (q f.type).bind fun a => if a.length = P.cellsOf f.type ∧ 0 < a.length then (eqFs P q r (off + P.cellsOf f.type)).map (a ++ ·) else none else none
/-- compared cell by cell: whole numbers, truth values, texts, structs of these, one behind the other -/
def eqTy (P : Program) : Nat → TypeId → Option (List Nat)
  | 0, _ => none
  | n + 1, t => match P.underlying t with
    | some .bool => some [0]
    | some (.int _) => some [1]
    | some .string => some [2]
    | some (.struct fs) => if P.stoodInHeld t = true then none else eqFs P (eqTy P n) fs.toList 0
    | _ => none
def compileOp (P : Program) (h : Hints) (self : FuncId) (o : Oper) : Option KOp :=
  match o.op with
  | .assign (.const (.slice none 0 0)) => match P.underlying o.type with
    | some (.slice e) => some (.nil e (P.cellsOf e))
    | _ => none
  | .move x | .assign x => (kx x).map .mv
  | .pick c a b => (kx c).bind fun c => (kx a).bind fun a => (kx b).map fun b => .pick c a b
  | .alloc e => (P.info? e).bind fun i => i.zero.bind fun z => (avOf z).map fun a => .box e (P.cellsOf e) (.k a)
  | .box e x => (kx x).map fun x => .box e (P.cellsOf e) x
  | .build t parts => match P.underlying t with
    | some (.struct fs) => if fs.toList.all (fun f => (P.info? f.type).isSome) = false then none else (zeroPV P t).bind fun z => (parts.toList.mapM fun (p : Nat × Operand) => (fs[p.1]?).bind fun f => (kx p.2).map fun x => (f.offset, P.cellsOf f.type, x)).map fun ps => .build z ps
    | _ => none
  | .buildSlice t len parts => match P.underlying t with
    | some (.slice e) => if rowOk P e = false ∨ len * P.cellsOf e > 2 ^ 24 then none else if badParts P e len parts = true then none else (zeroPV P e).bind fun z => (parts.toList.mapM fun (p : Nat × Operand) => (kx p.2).map fun x => (p.1, x)).map fun ps => .bslice e (P.cellsOf e) len z ps
    | _ => none
  | .load t a => (kx a).bind fun a => (aggO P t).map fun g => .load g (P.cellsOf t) (kindsOf P t) a
  | .store t a x => (kx a).bind fun a => (kx x).bind fun x => (P.info? t).map fun _ => .store (P.cellsOf t) a x
  | .nilCheck x => (kx x).map .chk
  | .binOp op xt x y _ => (kx x).bind fun kx' => (kx y).bind fun ky => match P.underlying xt with
    | some (.struct _) => if (op = .eql ∨ op = .neq) ∧ P.eqGuardType P.depth xt = false then (eqTy P 20 xt).map fun tags => .eqs (op == .neq) tags kx' ky else none
    | some (.int _) | some .string => some (.bin op kx' ky)
    | some .bool => if op = .eql ∨ op = .neq then some (.beq (op == .neq) kx' ky) else none
    | some (.interface _) => match y with
      | .const .nilIface => if op = .eql ∨ op = .neq then some (.inil (op == .neq) kx') else none
      | _ => none
    | _ => none
  | .unOp op _ x => (kx x).map fun x => .un op x
  | .convert src dst x => match P.underlying src, P.underlying dst with
    | some (.int _), some (.int k) => (kx x).map fun x => .conv k x
    | some .string, some .string => (kx x).map .str
    | some (.slice e), some .string => match P.underlying e with
      | some (.int .u8) => (kx x).map .toStr
      | _ => none
    | _, _ => none
  | .makeFunc (.func f) first caps => if first.size = 0 then (caps.toList.mapM kx).map fun cs => .mkfn f cs else none
  | .makeSlice t l c => match P.underlying t with
    | some (.slice e) => if rowOk P e = false then none else (zeroPV P e).bind fun z => (kx l).bind fun l => (kx c).map fun c => .mksl e (P.cellsOf e) (P.bytesOf e) z l c
    | _ => none
  | .slice t x lo hi none => match P.underlying t with
    | some .string => (kx x).bind fun x => (kxo lo).bind fun lo => (kxo hi).map fun hi => .slcS x lo hi
    | some (.slice e) => (P.info? e).bind fun _ => (kx x).bind fun x => (kxo lo).bind fun lo => (kxo hi).map fun hi => .slc (P.cellsOf e) x lo hi
    | _ => none
  | .fieldAddr s x f => match P.underlying s with
    | some (.struct fs) => (fs[f]?).bind fun g => if P.cellsOf g.type = 0 then none else (kx x).map fun x => .faddr g.offset x
    | _ => none
  | .field s x f => match P.underlying s with
    | some (.struct fs) => (fs[f]?).bind fun g => (aggO P g.type).bind fun q => (kx x).map fun x => .field q g.offset (P.cellsOf g.type) x
    | _ => none
  | .indexAddr t x i => match P.underlying t with
    | some (.slice e) => (P.info? e).bind fun _ => (kx x).bind fun x => (kx i).map fun i => .iaddr (P.cellsOf e) x i
    | _ => none
  | .index t x i => match P.underlying t with
    | some .string => (kx x).bind fun x => (kx i).map fun i => .index x i
    | _ => none
  | .extract x i => (kx x).map fun x => .ext x i
  | .call c => match c.callee with
    | .builtin .append => match c.args.toList, c.argTypes.toList with
      | [s, x], st :: xt :: _ => match P.underlying st, P.underlying xt with
        | some (.slice e), some (.slice _) => if st = xt ∧ c.argTypes.size = 2 ∧ rowOk P e = true then (kx s).bind fun s => (kx x).map fun x => .app e (P.cellsOf e) (P.bytesOf e) s x else none
        | _, _ => none
      | _, _ => none
    | .builtin .len => match c.args.toList, c.argTypes.toList with
      | [x], t :: _ => match P.underlying t with
        | some .string => (kx x).map (.len true)
        | some (.slice _) => (kx x).map (.len false)
        | _ => none
      | _, _ => none
    | .builtin .max => (c.args.toList.mapM kx).map fun xs => .mm true xs
    | .builtin .min => (c.args.toList.mapM kx).map fun xs => .mm false xs
    | .value f => (kx f).bind fun g => (c.args.toList.mapM kx).map fun xs => .call (match f with | .func k => !h.pass.contains k | _ => !h.passIn.contains self) g xs
    | _ => none
  | _ => none
def compileOps (P : Program) (h : Hints) (self : FuncId) (ops : Array Oper) : Option (List KOper) :=
  ops.toList.mapM fun o => (compileOp P h self o).bind fun k => match o.guard with
    | none => some ⟨o.dst, k, none⟩
    | some (j, want) => ((ops[j]?).bind (·.dst)).map fun t => ⟨o.dst, k, some (t, want)⟩

/-- every slot that is written is below T -/
def bnd (T : Nat) : KCode → Bool
  | .ops l => l.all fun o => match o.dst with | some t => decide (t < T) | none => true
  | .seq a b | .cond _ a b => bnd T a && bnd T b
  | .block _ c | .loop _ _ _ c => bnd T c
  | _ => true

/-! ### slots that are read -/
def KX.uses : KX → List Nat
  | .t n => [n]
  | .k _ => []
def KOp.uses : KOp → List Nat
  | .mv x | .inil _ x | .box _ _ x | .load _ _ _ x | .chk x | .un _ x | .conv _ x | .str x | .toStr x | .faddr _ x | .field _ _ _ x | .ext x _ | .len _ x => x.uses
  | .pick a b c => a.uses ++ b.uses ++ c.uses
  | .nil _ _ => []
  | .build _ ps => ps.flatMap fun p => p.2.2.uses
  | .bslice _ _ _ _ ps => ps.flatMap fun p => p.2.uses
  | .rel _ a x | .store _ a x | .bin _ a x | .eqs _ _ a x | .beq _ a x | .mksl _ _ _ _ a x | .iaddr _ a x | .index a x | .app _ _ _ a x => a.uses ++ x.uses
  | .mkfn _ xs | .mm _ xs => xs.flatMap KX.uses
  | .slcS x l h | .slc _ x l h => x.uses ++ (match l with | some l => l.uses | none => []) ++ (match h with | some h => h.uses | none => [])
  | .call _ f xs => f.uses ++ xs.flatMap KX.uses
def lvOps : List KOper → List Nat → List Nat
  | [], out => out
  | o :: r, out =>
    let q := lvOps r out
    let q := match o.dst with | some t => q.filter (· != t) | none => q
    addTo (addTo q o.op.uses) (match o.guard with | some (t, _) => [t] | none => [])
def lv (res : List Nat) : KCode → List (Nat × List Nat) → List Nat → List Nat
  | .skip, _, out => out
  | .ops l, _, out => lvOps l out
  | .seq a b, env, out => lv res a env (lv res b env out)
  | .cond c a b, env, out => addTo (addTo (lv res a env out) (lv res b env out)) c.uses
  | .block id c, env, out => lv res c ((id, out) :: env) out
  | .loop _ _ _ c, env, _ => lv res c env (lv res c env (lv res c env []))
  | .exit id, env, _ => (look id env).getD []
  | .ret, _, _ => res
def sortN : List Nat → List Nat
  | [] => []
  | n :: r => insN n (sortN r)
where insN (n : Nat) : List Nat → List Nat
    | [] => [n]
    | m :: r => if n ≤ m then n :: m :: r else m :: insN n r
/-- each loop's kept slots laid into it, its number, and the slots that are read behind it -/
def setKeep (res : List Nat) : Nat → KCode → List (Nat × List Nat) → List Nat → KCode
  | p, .seq a b, env, out => .seq (setKeep res (2 * p) a env (lv res b env out)) (setKeep res (2 * p + 1) b env out)
  | p, .cond c a b, env, out => .cond c (setKeep res (2 * p) a env out) (setKeep res (2 * p + 1) b env out)
  | p, .block id c, env, out => .block id (setKeep res p c ((id, out) :: env) out)
  | p, .loop _ _ _ c, env, _ =>
    let l := lv res c env (lv res c env (lv res c env []))
    .loop p (sortN l) ((.ret, res) :: env.map fun (id, l) => (.exit id, sortN l)) (setKeep res p c env l)
  | _, c, _, _ => c

/-! ### the order of a region that draws -/
def calmK : KOp → Bool
  | .mv _ | .pick .. | .load .. | .chk _ | .bin .. | .beq .. | .inil .. | .un .. | .conv .. | .str _ | .mkfn .. | .faddr .. | .field .. | .iaddr .. | .index .. | .slcS .. | .ext .. | .len .. | .build .. => true
  | _ => false
def readK : KOp → Bool
  | .load .. => true
  | _ => false
def growK (k : KOp) : Bool := calmK k || match k with
  | .box .. | .bslice .. | .mksl .. => true
  | .call borrow .. => borrow
  | _ => false
/-- blocks that may be made early: nothing is asked for them -/
def allocO (o : Oper) : Bool := match o.op with
  | .alloc _ => o.guard.isNone
  | .buildSlice _ _ parts => o.guard.isNone && (parts.size != 0 && parts.toList.all fun p => constO p.2)
  | _ => false
def kAt (ks : List KOper) (i : Nat) : KOp := match ks[i]? with | some k => k.op | none => .mv (.k (.c .u))
def lateStep (ops : Array Oper) (i : Nat) (l : List Bool) (j : Nat) : Bool := match ops[j]? with
  | some o => o.after.any fun e => Region.binds .any e && (e.on == i || l.getD e.on false)
  | none => false
def lateL (ops : Array Oper) (i : Nat) : Nat → List Bool
  | 0 => List.replicate ops.size false
  | n + 1 => (List.range ops.size).map (lateStep ops i (lateL ops i n))
/-- the slot that an address comes from, if the region does not write it -/
def baseSl (ks : List KOper) : Nat → Nat → Option Nat
  | 0, _ => none
  | m + 1, t => match ks.find? (fun k => k.dst == some t) with
    | none => some t
    | some k => match k.op with
      | .mv (.t y) => baseSl ks m y
      | .faddr _ (.t y) => baseSl ks m y
      | _ => none
/-- the slot of the address that is written through: a store's, or what a call is lent -/
def storeS : KOp → Option Nat
  | .store _ (.t n) _ => some n
  | .call false _ (.t n :: _) => some n
  | _ => none
def loadS : KOp → Option Nat
  | .load _ _ _ (.t n) => some n
  | _ => none
def guarded (ks : List KOper) (j : Nat) : Bool := match ks[j]? with | some k => k.guard.isSome | none => true
def baseOf (ks : List KOper) (j : Nat) : Option Nat := if guarded ks j = true then none else (storeS (kAt ks j)).bind (baseSl ks ks.length)
/-- ex: a store may come later than a load, if their addresses lie in different blocks -/
def calmB (ops : Array Oper) (ks : List KOper) (ex : Bool) (listed : Array Bool) (i : Nat) : Bool :=
  let l := lateL ops i ops.size
  calmK (kAt ks i) && Region.free .any ops listed i &&
  (List.range ops.size).all (fun j => !l.getD j false || (lateStep ops i l j && !listed.getD j false)) &&
  (!readK (kAt ks i) || (List.range ops.size).all fun j => j == i || listed.getD j true || l.getD j false || growK (kAt ks j) || (ex && (loadS (kAt ks i)).isSome && (baseOf ks j).isSome))
/-- what is asked ahead of a load: its address lies in no block that a store writes that may come first -/
def askL (ops : Array Oper) (ks : List KOper) (ex : Bool) (listed : Array Bool) (i : Nat) : List KOper :=
  if ex = false then [] else match loadS (kAt ks i) with
    | none => []
    | some n => ((List.range ops.size).filter fun j => !(j == i || listed.getD j true || (lateL ops i ops.size).getD j false || growK (kAt ks j))).filterMap fun j => (baseOf ks j).map fun s => ⟨none, .rel false (.t n) (.t s), none⟩
/-- what is asked ahead of a store: its address lies in the block of its base -/
def askS (ks : List KOper) (ex : Bool) (i : Nat) : List KOper :=
  if ex = false then [] else match storeS (kAt ks i), baseOf ks i with
    | some n, some s => [⟨none, .rel true (.t n) (.t s), none⟩]
    | _, _ => []
def kq (ks : List KOper) (i : Nat) : List KOper := match ks[i]? with | some k => [k] | none => []
def withAllocs (ops : Array Oper) (listed : Array Bool) (but : Option Nat) : Array Bool :=
  ((List.range ops.size).map fun j => listed.getD j true || (some j != but && ((ops[j]?).map allocO).getD false)).toArray
def sched (ops : Array Oper) (ks : List KOper) (ex : Bool) : Nat → Array Bool → Option (List KOper)
  | 0, listed => if listed.all id = true then some [] else none
  | n + 1, listed =>
    let r := Region.ready .any ops listed
    match r.find? (calmB ops ks ex listed) with
    | some i => (sched ops ks ex n (listed.setIfInBounds i true)).map fun l => askL ops ks ex listed i ++ (kq ks i ++ l)
    | none => match (Region.ready .any ops (withAllocs ops listed none)).filter r.contains with
      | [i] => if ((Region.ready .any ops (withAllocs ops listed none)).all (· == i)) = true then (sched ops ks ex n (listed.setIfInBounds i true)).map fun l => askS ks ex i ++ (kq ks i ++ l) else none
      | _ => match r.find? (fun i => ((ops[i]?).map allocO).getD false) with
        | some i => if (Region.ready .any ops (withAllocs ops listed (some i))).all (fun j => j == i) = true then (sched ops ks ex n (listed.setIfInBounds i true)).map fun l => kq ks i ++ l else none
        | none => none

def scheds (ops : Array Oper) (ks : List KOper) : Option (List KOper) :=
  match sched ops ks false ops.size (Array.replicate ops.size false) with
  | some l => some l
  | none => sched ops ks true ops.size (Array.replicate ops.size false)

/-- no two write one slot -/
def distinctD (ops : Array Oper) : Bool := (List.range ops.size).all fun i => (List.range ops.size).all fun j => i == j || match (ops[i]?).bind (·.dst), (ops[j]?).bind (·.dst) with
  | some d, some e => d != e
  | _, _ => true
def allocPre (ops : Array Oper) : List KOper := (ops.toList.filter allocO).map fun o => ⟨o.dst, .mv (.k (.c .u)), none⟩

def compileC (P : Program) (h : Hints) (self : FuncId) : Code → Option KCode
  | .skip => some .skip
  | .region _ ops draws => (compileOps P h self ops).bind fun ks => if draws = true then
      (if P.follows .mixedOrders = true ∧ Region.noSelect ops = true ∧ distinctD ops = true then (scheds ops ks).map fun l => .ops (allocPre ops ++ l) else none)
    else some (.ops ks)
  | .seq a b => (compileC P h self a).bind fun a => (compileC P h self b).map fun b => .seq a b
  | .cond c a b => (kx c).bind fun c => (compileC P h self a).bind fun a => (compileC P h self b).map fun b => .cond c a b
  | .block id c => (compileC P h self c).map fun c => .block id c
  | .loop c => (compileC P h self c).map fun c => .loop 0 [] [] c
  | .exit id => some (.exit id)
  | .ret => some .ret
  | .scope c => compileC P h self c
  | _ => none
def compileR (P : Program) (r : ResultVar) : Option (Nat ⊕ (Nat × Bool × Nat)) :=
  match r with
  | .tmp t => some (.inl t)
  | .cell a t => (aggO P t).map fun g => .inr (a, g, P.cellsOf t)
def compile (P : Program) (h : Hints) (self : FuncId) (fn : Func) : Option KFun :=
  fn.body.bind fun b => (compileC P h self b).bind fun c => (fn.results.toList.mapM (compileR P)).map fun rs =>
    let res := rs.map fun | .inl t => t | .inr x => x.1
    ⟨List.range (fn.params.size + fn.nfree), rs, !h.own.contains self, setKeep res 1 c [] []⟩
/-- what 'compile' gives, and all that is asked of it -/
def compiled (P : Program) (h : Hints) (self : FuncId) (kf : KFun) : Prop :=
  ∃ fn, P.funcs[self]? = some fn ∧ (fn.name == "runtime.NumGoroutine") = false ∧ compile P h self fn = some kf ∧ bnd (max fn.ntmps kf.params.length) kf.body = true
end Go.Eng
