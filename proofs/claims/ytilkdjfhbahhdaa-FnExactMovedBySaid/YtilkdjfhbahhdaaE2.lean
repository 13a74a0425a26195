import Derived.Test.YtilkdjfhbahhdaaE1
import GoSem.Core.Layout
import GoSem.Core.Region
import GoSem.Op.Equal
import Derived.Orders
set_option linter.unusedVariables false
namespace Go.Eng
structure Hints where
 pass:List FuncId--calls of these are made with the caller's own blocks in reach
 passIn:List FuncId--in these all calls of function values are
 own:List FuncId--these hand their rows on,not frozen
 grow:List TypeId:= []--boxes of these have a slice that grows
 passN:List FuncId:= []--calls of these are made with such a box in reach
 growS:List TypeId:= []--where a whole value of these is stored its nil slices become empty own rows
 deep:List FuncId:= []--in these,slices of structs that are made hold own rows
 mvr:List FuncId:= []--in these,own rows move into the slots of the variables that they are assigned to
 deriving Inhabited
def zGX:Value→Option PV
 | .bool x=>some (.b x)
 | .int k n=>some (.i k n)
 | .string s=>some (.s s)
 | .nilIface=>some .nif
 | .slice none 0 0=>some .nl
 | .pointer none=>some .np
 |_=>none
def zIR:Value→Option CV
 | .nilFunc=>some .nfn
 |v=>(zGX v).map .p
def zJr:Value→Option AV
 | .agg cs=>(cs.toList.mapM zIR).map .agg
 | .tuple _=>some (.c .u)
 |v=>(zIR v).map .c
def zGY:Operand→Bool
 | .const v=>(zGX v).isSome
 |_=>false
def zIS (P:Program) (e:TypeId) (len:Nat) (parts:Array (Nat×Operand)):Bool:=parts.toList.any fun p=>zGY p.2&&!(decide (p.1<len)&&P.cellsOf e==1)
def kx:Operand→Option KX
 | .tmp t=>some (.t t)
 | .const v=>(zJr v).map .k
 | .func f=>some (.k (.c (.fn f [])))
 | .global _=>none
def kxo:Option Operand→Option (Option KX)
 |none=>some none
 |some x=>(kx x).map some
def zGZ (P:Program) (t:TypeId):Bool:=match P.underlying t with|some (.struct _)|some (.array _ _)=>true|_=>false
def zAa (P:Program) (t:TypeId):Option Bool:=match P.underlying t with|some (.struct _)|some (.array _ _)=>some true|some _=>some false|none=>none
def zAb (P:Program) (t:TypeId):Option (List PV):=(P.info? t).bind fun i=>i.zero.bind fun z=>z.cells.toList.mapM zGX
def zKg:PV→Nat
 | .b _=>0
 | .i .i64 _=>1
 | .s _=>2
 | .nl=>3
 | .nif=>4
 | .i .u8 _=>6
 |_=>9
def zJs (P:Program) (t:TypeId):List Nat:=match zAb P t with|some l=>l.map zKg|none=> []
def zCG (P:Program) (e:TypeId):Bool:=match P.info? e with
 |some i=>match i.zero with
  |some z=>decide (z.cells.size=i.size∧0<i.size)
  |none=>false
 |none=>false
def zIT (P:Program) (q:TypeId→Option (List Nat)):List Field→Nat→Option (List Nat)
 | [],off=>some []
 | f :: r, off => if f.name ≠ "_" ∧ f.offset = off then (q f.type).bind fun a => if a.length = P.cellsOf f.type ∧ 0 < a.length then (zIT P q r (off + P.cellsOf f.type)).map (a ++ ·) else none else none
def zHj (P:Program):Nat→TypeId→Option (List Nat)
 |0,_=>none
 |n+1,t=>match P.underlying t with
  |some .bool=>some [0]
  |some (.int _)=>some [1]
  |some .string=>some [2]
  |some (.struct fs)=>if P.stoodInHeld t=true then none else zIT P (zHj P n) fs.toList 0
  |_=>none
def zKW:List PV→Nat→Option Nat
 | [],_=>none
 | .nl::_,i=>some i
 |_::r,i=>zKW r (i+1)
def zDL (P:Program) (e:TypeId) (x:KX):Option KOp:=match P.underlying e with
 |some (.struct fs)=>(zAb P e).bind fun z=>(zKW z 0).bind fun col=>(fs.toList.find? fun f=>f.offset==col).bind fun f=>match P.underlying f.type with
  |some (.slice t)=>some (.boxN e (P.cellsOf e) x col t (P.cellsOf t))
  |_=>none
 |_=>none
def zCh (P:Program) (t:TypeId):List (Nat×TypeId×Nat):=match P.underlying t with
 |some (.struct fs)=>fs.toList.filterMap fun f=>match P.underlying f.type with
  |some (.slice e)=>some (f.offset,e,P.cellsOf e)
  |_=>none
 |_=> []
def zDb (P:Program) (h:Hints) (self:FuncId) (e:TypeId):List (Nat×Nat×TypeId):=if h.deep.contains self=true then (zCh P e).map fun q=>(q.1,q.2.2,q.2.1) else []
def zIU (P:Program) (h:Hints) (self:FuncId) (e:TypeId) (parts:Array (Nat×Operand)):List (Nat×Nat×TypeId):=if parts.toList.any (fun p=>zGY p.2)=true then [] else zDb P h self e
def zG6 (P:Program) (h:Hints) (t:TypeId) (a x:KX):KOp:=match a with
 | .t n=>if h.growS.contains t=true then .storeN (P.cellsOf t) (n*64) (zCh P t) a x else if h.grow.contains t=true∧P.cellsOf t=2 then (match zAb P t,zCh P t with
   |some [.np,.nl],[(1,e,1)]=> .storeB (n*64) e a x
   |_,_=> .store (P.cellsOf t) a x) else .store (P.cellsOf t) a x
 |_=> .store (P.cellsOf t) a x
def zKh (h:Hints):Operand→Bool
 | .func k=>h.passN.contains k
 |_=>false
def zJt (h:Hints) (self:FuncId):Operand→Bool
 | .func k=>!h.pass.contains k
 |_=>!h.passIn.contains self
def zIV (h:Hints) (self:FuncId) (f:Operand) (g:KX) (xs:List KX):KOp:=if zKh h f=true then .callN g xs else .call (zJt h self f) g xs
def zAe (P:Program) (h:Hints) (self:FuncId) (o:Oper):Option KOp:=
 match o.op with
 | .assign (.const (.slice none 0 0))=>match P.underlying o.type with
  |some (.slice e)=>some (.nil e (P.cellsOf e) (zDb P h self e))
  |_=>none
 | .move x=>(kx x).map .mv
 | .assign x=>(kx x).map fun x=>if h.mvr.contains self=true then .mvR x else .mv x
 | .pick c a b=>(kx c).bind fun c=>(kx a).bind fun a=>(kx b).map fun b=> .pick c a b
 | .alloc e=>(P.info? e).bind fun i=>i.zero.bind fun z=>(zJr z).map fun a=> .box e (P.cellsOf e) (.k a)
 | .box e x=>(kx x).bind fun x=>if h.grow.contains e=true then zDL P e x else some (.box e (P.cellsOf e) x)
 | .build t parts=>match P.underlying t with
  |some (.struct fs)=>if fs.toList.all (fun f=>(P.info? f.type).isSome)=false then none else (zAb P t).bind fun z=>(parts.toList.mapM fun (p:Nat×Operand)=>(fs[p.1]?).bind fun f=>(kx p.2).map fun x=>(f.offset,P.cellsOf f.type,x)).map fun ps=> .build z ps
  |_=>none
 | .buildSlice t len parts=>match P.underlying t with
  |some (.slice e)=>if zCG P e=false∨len*P.cellsOf e>2^24 then none else if zIS P e len parts=true then none else (zAb P e).bind fun z=>(parts.toList.mapM fun (p:Nat×Operand)=>(kx p.2).map fun x=>(p.1,x)).map fun ps=> .bslice e (P.cellsOf e) len (zIU P h self e parts) z ps
  |_=>none
 | .load t a=>(kx a).bind fun a=>(zAa P t).map fun g=> .load g (P.cellsOf t) (zJs P t) a
 | .store t a x=>(kx a).bind fun a=>(kx x).bind fun x=>(P.info? t).map fun _=>zG6 P h t a x
 | .nilCheck x=>(kx x).map .chk
 | .binOp op xt x y _=>(kx x).bind fun kx'=>(kx y).bind fun ky=>match P.underlying xt with
  |some (.struct _)=>if (op= .eql∨op= .neq)∧P.eqGuardType P.depth xt=false then (zHj P 20 xt).map fun tags=> .eqs (op== .neq) tags kx' ky else none
  |some (.int _)|some .string=>some (.bin op kx' ky)
  |some .bool=>if op= .eql∨op= .neq then some (.beq (op== .neq) kx' ky) else none
  |some (.interface _)=>match y with
   | .const .nilIface=>if op= .eql∨op= .neq then some (.inil (op== .neq) kx') else none
   |_=>none
  |_=>none
 | .unOp op _ x=>(kx x).map fun x=> .un op x
 | .convert src dst x=>match P.underlying src,P.underlying dst with
  |some (.int _),some (.int k)=>(kx x).map fun x=> .conv k x
  |some .string,some .string=>(kx x).map .str
  |some (.slice e),some .string=>match P.underlying e with
   |some (.int .u8)=>(kx x).map .toStr
   |_=>none
  |_,_=>none
 | .makeFunc (.func f) first caps=>if first.size=0 then (caps.toList.mapM kx).map fun cs=> .mkfn f cs else none
 | .makeSlice t l c=>match P.underlying t with
  |some (.slice e)=>if zCG P e=false then none else (zAb P e).bind fun z=>(kx l).bind fun l=>(kx c).map fun c=> .mksl e (P.cellsOf e) (P.bytesOf e) (zDb P h self e) z l c
  |_=>none
 | .slice t x lo hi none=>match P.underlying t with
  |some .string=>(kx x).bind fun x=>(kxo lo).bind fun lo=>(kxo hi).map fun hi=> .slcS x lo hi
  |some (.slice e)=>(P.info? e).bind fun _=>(kx x).bind fun x=>(kxo lo).bind fun lo=>(kxo hi).map fun hi=> .slc (P.cellsOf e) x lo hi
  |_=>none
 | .fieldAddr s x f=>match P.underlying s with
  |some (.struct fs)=>(fs[f]?).bind fun g=>if P.cellsOf g.type=0 then none else (kx x).map fun x=> .faddr g.offset x
  |_=>none
 | .field s x f=>match P.underlying s with
  |some (.struct fs)=>(fs[f]?).bind fun g=>(zAa P g.type).bind fun q=>(kx x).map fun x=> .field q g.offset (P.cellsOf g.type) x
  |_=>none
 | .indexAddr t x i=>match P.underlying t with
  |some (.slice e)=>(P.info? e).bind fun _=>(kx x).bind fun x=>(kx i).map fun i=> .iaddr (P.cellsOf e) x i
  |_=>none
 | .index t x i=>match P.underlying t with
  |some .string=>(kx x).bind fun x=>(kx i).map fun i=> .index x i
  |_=>none
 | .extract x i=>(kx x).map fun x=> .ext x i
 | .call c=>match c.callee with
  | .builtin .append=>match c.args.toList,c.argTypes.toList with
   | [s,x],st::xt::_=>match P.underlying st,P.underlying xt with
    |some (.slice e),some (.slice _)=>if st=xt∧c.argTypes.size=2∧zCG P e=true then (kx s).bind fun s=>(kx x).map fun x=> .app e (P.cellsOf e) (P.bytesOf e) s x else none
    |_,_=>none
   |_,_=>none
  | .builtin .len=>match c.args.toList,c.argTypes.toList with
   | [x],t::_=>match P.underlying t with
    |some .string=>(kx x).map (.len true)
    |some (.slice _)=>(kx x).map (.len false)
    |_=>none
   |_,_=>none
  | .builtin .max=>(c.args.toList.mapM kx).map fun xs=> .mm true xs
  | .builtin .min=>(c.args.toList.mapM kx).map fun xs=> .mm false xs
  | .value f=>(kx f).bind fun g=>(c.args.toList.mapM kx).map fun xs=>zIV h self f g xs
  |_=>none
 |_=>none
def zAS (P:Program) (h:Hints) (self:FuncId) (ops:Array Oper):Option (List KOper):=
 ops.toList.mapM fun o=>(zAe P h self o).bind fun k=>match o.guard with
  |none=>some ⟨o.dst,k,none⟩
  |some (j,want)=>((ops[j]?).bind (·.dst)).map fun t=>⟨o.dst,k,some (t,want)⟩
def bnd (T:Nat):KCode→Bool
 | .ops l=>l.all fun o=>match o.dst with|some t=>decide (t<T)|none=>true
 | .draw l=>l.all fun o=>match o.1.dst with|some t=>decide (t<T)|none=>true
 | .seq a b| .cond _ a b=>bnd T a&&bnd T b
 | .block _ c| .loop _ _ _ c=>bnd T c
 |_=>true
def zIW:List KOper→List Nat→List Nat
 | [],out=>out
 |o::r,out=>
  let q:=zIW r out
  let q:=match o.dst with|some t=>q.filter (· !=t)|none=>q
  zC1 (zC1 q o.op.uses) (match o.guard with|some (t,_)=> [t]|none=> [])
def lv (res:List Nat):KCode→List (Nat×List Nat)→List Nat→List Nat
 | .skip,_,out=>out
 | .ops l,_,out=>zIW l out
 | .draw l,_,out=>zIW (l.map (·.1)) out
 | .seq a b,env,out=>lv res a env (lv res b env out)
 | .cond c a b,env,out=>zC1 (zC1 (lv res a env out) (lv res b env out)) c.uses
 | .block id c,env,out=>lv res c ((id,out)::env) out
 | .loop _ _ _ c,env,_=>lv res c env (lv res c env (lv res c env []))
 | .exit id,env,_=>(zD id env).getD []
 | .ret,_,_=>res
def zIX:List Nat→List Nat
 | []=> []
 |n::r=>insN n (zIX r)
where insN (n:Nat):List Nat→List Nat
  | []=> [n]
  |m::r=>if n≤m then n::m::r else m::insN n r
def zAH (res:List Nat):Nat→KCode→List (Nat×List Nat)→List Nat→KCode
 |p,.seq a b,env,out=> .seq (zAH res (2*p) a env (lv res b env out)) (zAH res (2*p+1) b env out)
 |p,.cond c a b,env,out=> .cond c (zAH res (2*p) a env out) (zAH res (2*p+1) b env out)
 |p,.block id c,env,out=> .block id (zAH res p c ((id,out)::env) out)
 |p,.loop _ _ _ c,env,_=>
  let l:=lv res c env (lv res c env (lv res c env []))
  .loop p (zIX l) ((.ret,res)::env.map fun (id,l)=>(.exit id,zIX l)) (zAH res p c env l)
 |_,c,_,_=>c
def zKX:KOp→Bool
 | .mv _| .pick ..| .load ..| .chk _| .bin ..| .beq ..| .inil ..| .un ..| .conv ..| .str _| .mkfn ..| .faddr ..| .field ..| .iaddr ..| .index ..| .slcS ..| .ext ..| .len ..| .build ..=>true
 |_=>false
def zK6:KOp→Bool
 | .load ..=>true
 |_=>false
def zK7 (k:KOp):Bool:=zKX k||match k with
 | .box ..| .boxN ..| .bslice ..| .mksl ..=>true
 | .call borrow ..=>borrow
 |_=>false
def zIY (o:Oper):Bool:=match o.op with
 | .alloc _=>o.guard.isNone
 | .buildSlice _ _ parts=>o.guard.isNone&&(parts.size !=0&&parts.toList.all fun p=>zGY p.2)
 |_=>false
def kAt (ks:List KOper) (i:Nat):KOp:=match ks[i]? with|some k=>k.op|none=> .mv (.k (.c .u))
def zBS (ops:Array Oper) (i:Nat) (l:List Bool) (j:Nat):Bool:=match ops[j]? with
 |some o=>o.after.any fun e=>Region.binds .any e&&(e.on==i||l.getD e.on false)
 |none=>false
def zBT (ops:Array Oper) (i:Nat):Nat→List Bool
 |0=> []
 |m+1=>zBT ops i m++ [zBS ops i (zBT ops i m) m]
def zIZ {α:Type}:Bool→(Bool→α)→α
 |true,k=>k true
 |false,k=>k false
def zE6 {α:Type}:List Bool→(List Bool→α)→α
 | [],k=>k []
 |b::l,k=>zIZ b fun b=>zE6 l fun l=>k (b::l)
def zDM {α:Type}:List (List Bool)→(List (List Bool)→α)→α
 | [],k=>k []
 |b::l,k=>zE6 b fun b=>zDM l fun l=>k (b::l)
def zIa {α:Type}:Nat→(Nat→α)→α
 |0,k=>k 0
 |n+1,k=>k (n+1)
def zDN {α:Type}:List Nat→(List Nat→α)→α
 | [],k=>k []
 |b::l,k=>zIa b fun b=>zDN l fun l=>k (b::l)
theorem zHk {α:Type} (b:Bool) (k:Bool→α):zIZ b k=k b:=by cases b<;>rfl
theorem zEP {α:Type}:∀(l:List Bool) (k:List Bool→α),zE6 l k=k l
 | [],k=>rfl
 |b::l,k=>by simp only [zE6,zHk,zEP l]
theorem zBy {α:Type}:∀(l:List (List Bool)) (k:List (List Bool)→α),zDM l k=k l
 | [],k=>rfl
 |b::l,k=>by simp only [zDM,zEP,zBy l]
theorem zHl {α:Type} (n:Nat) (k:Nat→α):zIa n k=k n:=by cases n<;>rfl
theorem zBz {α:Type}:∀(l:List Nat) (k:List Nat→α),zDN l k=k l
 | [],k=>rfl
 |b::l,k=>by simp only [zDN,zHl,zBz l]
abbrev DT:=List (List Bool)
def zFb (ops:Array Oper):DT:=(List.range ops.size).map fun i=>zBT ops i ops.size
def zE7 (dt:DT) (j i:Nat):Bool:=(dt.getD i []).getD j false
def zGa (ks:List KOper):Nat→Nat→Option Nat
 |0,_=>none
 |m+1,t=>match ks.find? (fun k=>k.dst==some t) with
  |none=>some t
  |some k=>match k.op with
   | .mv (.t y)=>zGa ks m y
   | .faddr _ (.t y)=>zGa ks m y
   |_=>none
def zKi:KOp→Option Nat
 | .store _ (.t n) _=>some n
 | .call false _ (.t n::_)=>some n
 |_=>none
def zK8:KOp→Option Nat
 | .load _ _ _ (.t n)=>some n
 |_=>none
def zJu (ks:List KOper) (j:Nat):Bool:=match ks[j]? with|some k=>k.guard.isSome|none=>true
def zKj (ks:List KOper) (j:Nat):Option Nat:=if zJu ks j=true then none else (zKi (kAt ks j)).bind (zGa ks ks.length)
def zK9 (ops:Array Oper) (ks:List KOper) (dt:DT) (ex:Bool) (listed:Array Bool) (i:Nat):Bool:=
 let l:=dt.getD i []
 zKX (kAt ks i)&&Region.free .any ops listed i&&
 (List.range ops.size).all (fun j=>!l.getD j false||(zBS ops i l j&&!listed.getD j false))&&
 (!zK6 (kAt ks i)||(List.range ops.size).all fun j=>j==i||listed.getD j true||l.getD j false||zK7 (kAt ks j)||(ex&&(zK8 (kAt ks i)).isSome&&(zKj ks j).isSome))
def zB0 (ops:Array Oper) (listed:Array Bool) (but:Option Nat):Array Bool:=
 ((List.range ops.size).map fun j=>listed.getD j true||(some j !=but&&((ops[j]?).map zIY).getD false)).toArray
def zFc (ops:Array Oper) (ks:List KOper) (dt:DT) (ex:Bool):Nat→Array Bool→Option (List Nat)
 |0,listed=>if listed.all id=true then some [] else none
 |n+1,listed=>
  let r:=Region.ready .any ops listed
  match r.find? (zK9 ops ks dt ex listed) with
  |some i=>(zFc ops ks dt ex n (listed.setIfInBounds i true)).map (i:: ·)
  |none=>match (Region.ready .any ops (zB0 ops listed none)).filter r.contains with
   | [i]=>if ((Region.ready .any ops (zB0 ops listed none)).all (· ==i))=true then (zFc ops ks dt ex n (listed.setIfInBounds i true)).map (i:: ·) else none
   |_=>match r.find? (fun i=>((ops[i]?).map zIY).getD false) with
    |some i=>if (Region.ready .any ops (zB0 ops listed (some i))).all (fun j=>j==i)=true then (zFc ops ks dt ex n (listed.setIfInBounds i true)).map (i:: ·) else none
    |none=>none
def zIb (ops:Array Oper) (ks:List KOper) (dt:DT):List Nat:=if 60<ops.size then List.range ops.size else match zFc ops ks dt false ops.size (Array.replicate ops.size false) with
 |some l=>l
 |none=>match zFc ops ks dt true ops.size (Array.replicate ops.size false) with
  |some l=>l
  |none=>List.range ops.size
def zG7:KOp→Bool
 | .mv _| .pick ..| .build ..| .bin ..| .eqs ..| .beq ..| .inil ..| .un ..| .conv ..| .str _| .mkfn ..| .slcS ..| .slc ..| .field ..| .index ..| .ext ..| .mm ..=>true
 |_=>false
def roK (k:KOp):Bool:=zG7 k||match k with
 | .load ..| .chk _| .faddr ..| .iaddr ..| .len ..| .toStr _| .rel ..=>true
 |_=>false
def kOf (ks:List KOper) (i:Nat):KOper:=(ks[i]?).getD ⟨none,.mv (.k (.c .u)),none⟩
def zB1 (a b:KOper):Bool:=(match a.dst with|some d=>!b.rd.contains d&&b.dst !=some d|none=>true)&&(match b.dst with|some d=>!a.rd.contains d|none=>true)
def zFd (ops:Array Oper) (j i:Nat):Bool:=match ops[j]? with
 |some o=>o.after.any fun e=>Region.binds .any e&&e.on==i
 |none=>false
def zG8 (ops:Array Oper) (j:Nat):Bool:=match ops[j]? with
 |some o=>o.after.all fun e=>!Region.binds .any e||(decide (e.on<ops.size)&&e.on !=j)
 |none=>false
def zKY (ops:Array Oper) (ks:List KOper) (dt:DT) (i j:Nat):Bool:=!zFd ops i j&&(zE7 dt j i||zB1 (kOf ks i) (kOf ks j))
def zE8 (ops:Array Oper) (ks:List KOper) (dt:DT):List Nat→Bool
 | []=>true
 |i::r=>zG8 ops i&&r.all (zKY ops ks dt i)&&zE8 ops ks dt r
def zC3 (ks:List KOper) (dt:DT) (j i:Nat):Bool:=!zE7 dt j i&&!(zG7 (kOf ks i).op||zG7 (kOf ks j).op||(roK (kOf ks i).op&&roK (kOf ks j).op))
def zDc (ks:List KOper) (dt:DT):List Nat→List Nat→List (KOper×List Bool)
 |_,[]=> []
 |p,j::r=>(kOf ks j,p.map (zC3 ks dt j))::zDc ks dt (j::p) r
def zBU:List Nat→Bool
 | []=>true
 |n::l=>!l.contains n&&zBU l
def zIc (n:Nat) (l:List Nat):Bool:=l.length==n&&zBU l&&l.all (fun j=>decide (j<n))&&(List.range n).all l.contains
def zG9 (ops:Array Oper) (ks:List KOper):Option KCode:=zDM (zFb ops) fun dt=>zDN (zIb ops ks dt) fun l=>
 if zIc ops.size l&&zE8 ops ks dt l then some (.draw (zDc ks dt [] l)) else none
def zT (P:Program) (h:Hints) (self:FuncId):Code→Option KCode
 | .skip=>some .skip
 | .region _ ops draws=>(zAS P h self ops).bind fun ks=>if draws=true then
   (if P.follows .mixedOrders=true∧Region.noSelect ops=true then zG9 ops ks else none)
  else some (.ops ks)
 | .seq a b=>(zT P h self a).bind fun a=>(zT P h self b).map fun b=> .seq a b
 | .cond c a b=>(kx c).bind fun c=>(zT P h self a).bind fun a=>(zT P h self b).map fun b=> .cond c a b
 | .block id c=>(zT P h self c).map fun c=> .block id c
 | .loop c=>(zT P h self c).map fun c=> .loop 0 [] [] c
 | .exit id=>some (.exit id)
 | .ret=>some .ret
 | .scope c=>zT P h self c
 |_=>none
def zCH (P:Program) (r:ResultVar):Option (Nat⊕(Nat×Bool×Nat)):=
 match r with
 | .tmp t=>some (.inl t)
 | .cell a t=>(zAa P t).map fun g=> .inr (a,g,P.cellsOf t)
def zJv (o:Oper):Bool:=match o.op,o.dst,o.guard with
 | .assign (.const (.slice none 0 0)),some 2,none=>true
 |_,_,_=>false
def zKk (o:Oper):Bool:=match o.op,o.dst,o.guard with
 | .move (.tmp 0),some 3,none=>true
 |_,_,_=>false
def zKl (P:Program) (o:Oper):Bool:=match o.op,o.dst,o.guard with
 | .binOp .eql t (.tmp 3) (.const (.slice none 0 0)) _,some 4,none=>(match P.underlying t with|some (.slice _)=>true|_=>false)
 |_,_,_=>false
def zBB (P:Program) (fn:Func):Option Code:=match fn.body with
 |some (.seq (.region i opx false) (.seq (.seq (.region _ ops false) (.cond (.tmp 4) (.seq (.region _ opb false) .ret) .skip)) d))=>match opx.toList,ops.toList,opb.toList,fn.results.toList with
  | [x],[m,q],[b],[.tmp 2]=>if zJv x&&zJv b&&zKk m&&zKl P q&&fn.params.size==1&&fn.nfree==0&&decide (4<fn.ntmps) then some (.seq (.region i opx false) d) else none
  |_,_,_,_=>none
 |_=>none
def zDd (P:Program) (fn:Func):Option Code:=match zBB P fn with
 |some c=>some c
 |none=>fn.body
def zDO (P:Program) (h:Hints) (self:FuncId) (fn:Func):Option KFun:=
 (zDd P fn).bind fun b=>(zT P h self b).bind fun c=>(fn.results.toList.mapM (zCH P)).map fun rs=>
  let res:=rs.map fun| .inl t=>t| .inr x=>x.1
  ⟨List.range (fn.params.size+fn.nfree),rs,!h.own.contains self,zAH res 1 c [] [],(zBB P fn).isSome⟩
def zA3 (P:Program) (h:Hints) (self:FuncId) (kf:KFun):Prop:=
 ∃ fn, P.funcs[self]? = some fn ∧ (fn.name == "runtime.NumGoroutine") = false ∧ zDO P h self fn = some kf ∧ bnd (max fn.ntmps kf.params.length) kf.body = true
end Go.Eng

