import Derived.Test.YtilkdjfhbahhdaaGreatDoorE1
import GoSem.Core.Layout
import GoSem.Core.Region
import GoSem.Op.Equal
import Derived.Orders
set_option linter.unusedVariables false
namespace Go.Eng
structure Hints where
 pass:List FuncId--calls of these are made with the caller's own blocks in reach
 passIn:List FuncId--in these all calls of function values are
 own:List FuncId--these hand their rows on,not frozen
 grow:List TypeId:= []--boxes of these have a slice that grows
 passN:List FuncId:= []--calls of these are made with such a box in reach
 growS:List TypeId:= []--where a whole value of these is stored its nil slices become empty own rows
 deep:List FuncId:= []--in these,slices of structs that are made hold own rows
 mvr:List FuncId:= []--in these,own rows move into the slots of the variables that they are assigned to
 deriving Inhabited
def zHk:Value→Option PV
 | .bool x=>some (.b x)
 | .int k n=>some (.i k n)
 | .string s=>some (.s s)
 | .nilIface=>some .nif
 | .slice none 0 0=>some .nl
 | .pointer none=>some .np
 |_=>none
def zJr:Value→Option CV
 | .nilFunc=>some .nfn
 |v=>(zHk v).map .p
def zLM:Value→Option AV
 | .agg cs=>(cs.toList.mapM zJr).map .agg
 | .tuple _=>some (.c .u)
 |v=>(zJr v).map .c
def zHl:Operand→Bool
 | .const v=>(zHk v).isSome
 |_=>false
def zJs (P:Program) (e:TypeId) (len:Nat) (parts:Array (Nat×Operand)):Bool:=parts.toList.any fun p=>zHl p.2&&!(decide (p.1<len)&&P.cellsOf e==1)
def kx:Operand→Option KX
 | .tmp t=>some (.t t)
 | .const v=>(zLM v).map .k
 | .func f=>some (.k (.c (.fn f [])))
 | .global _=>none
def kxo:Option Operand→Option (Option KX)
 |none=>some none
 |some x=>(kx x).map some
def zHm (P:Program) (t:TypeId):Bool:=match P.underlying t with|some (.struct _)|some (.array _ _)=>true|_=>false
def zBQ (P:Program) (t:TypeId):Option Bool:=match P.underlying t with|some (.struct _)|some (.array _ _)=>some true|some _=>some false|none=>none
def zBR (P:Program) (t:TypeId):Option (List PV):=(P.info? t).bind fun i=>i.zero.bind fun z=>z.cells.toList.mapM zHk
def zMA:PV→Nat
 | .b _=>0
 | .i .i64 _=>1
 | .s _=>2
 | .nl=>3
 | .nif=>4
 | .i .u8 _=>6
 |_=>9
def zLN (P:Program) (t:TypeId):List Nat:=match zBR P t with|some l=>l.map zMA|none=> []
def zDB (P:Program) (e:TypeId):Bool:=match P.info? e with
 |some i=>match i.zero with
  |some z=>decide (z.cells.size=i.size∧0<i.size)
  |none=>false
 |none=>false
def zJt (P:Program) (q:TypeId→Option (List Nat)):List Field→Nat→Option (List Nat)
 | [],off=>some []
 | f :: r, off => if f.name ≠ "_" ∧ f.offset = off then (q f.type).bind fun a => if a.length = P.cellsOf f.type ∧ 0 < a.length then (zJt P q r (off + P.cellsOf f.type)).map (a ++ ·) else none else none
def zI2 (P:Program):Nat→TypeId→Option (List Nat)
 |0,_=>none
 |n+1,t=>match P.underlying t with
  |some .bool=>some [0]
  |some (.int _)=>some [1]
  |some .string=>some [2]
  |some (.struct fs)=>if P.stoodInHeld t=true then none else zJt P (zI2 P n) fs.toList 0
  |_=>none
def zL1:List PV→Nat→Option Nat
 | [],_=>none
 | .nl::_,i=>some i
 |_::r,i=>zL1 r (i+1)
def zEL (P:Program) (e:TypeId) (x:KX):Option KOp:=match P.underlying e with
 |some (.struct fs)=>(zBR P e).bind fun z=>(zL1 z 0).bind fun col=>(fs.toList.find? fun f=>f.offset==col).bind fun f=>match P.underlying f.type with
  |some (.slice t)=>some (.boxN e (P.cellsOf e) x col t (P.cellsOf t))
  |_=>none
 |_=>none
def zDd (P:Program) (t:TypeId):List (Nat×TypeId×Nat):=match P.underlying t with
 |some (.struct fs)=>fs.toList.filterMap fun f=>match P.underlying f.type with
  |some (.slice e)=>some (f.offset,e,P.cellsOf e)
  |_=>none
 |_=> []
def zEd (P:Program) (h:Hints) (self:FuncId) (e:TypeId):List (Nat×Nat×TypeId):=if h.deep.contains self=true then (zDd P e).map fun q=>(q.1,q.2.2,q.2.1) else []
def zJu (P:Program) (h:Hints) (self:FuncId) (e:TypeId) (parts:Array (Nat×Operand)):List (Nat×Nat×TypeId):=if parts.toList.any (fun p=>zHl p.2)=true then [] else zEd P h self e
def zIQ (P:Program) (h:Hints) (t:TypeId) (a x:KX):KOp:=match a with
 | .t n=>if h.growS.contains t=true then .storeN (P.cellsOf t) (n*64) (zDd P t) a x else if h.grow.contains t=true∧P.cellsOf t=2 then (match zBR P t,zDd P t with
   |some [.np,.nl],[(1,e,1)]=> .storeB (n*64) e a x
   |_,_=> .store (P.cellsOf t) a x) else .store (P.cellsOf t) a x
 |_=> .store (P.cellsOf t) a x
def zMB (h:Hints):Operand→Bool
 | .func k=>h.passN.contains k
 |_=>false
def zLO (h:Hints) (self:FuncId):Operand→Bool
 | .func k=>!h.pass.contains k
 |_=>!h.passIn.contains self
def zJv (h:Hints) (self:FuncId) (f:Operand) (g:KX) (xs:List KX):KOp:=if zMB h f=true then .callN g xs else .call (zLO h self f) g xs
def zBU (P:Program) (h:Hints) (self:FuncId) (o:Oper):Option KOp:=
 match o.op with
 | .assign (.const (.slice none 0 0))=>match P.underlying o.type with
  |some (.slice e)=>some (.nil e (P.cellsOf e) (zEd P h self e))
  |_=>none
 | .move x=>(kx x).map .mv
 | .assign x=>(kx x).map fun x=>if h.mvr.contains self=true then .mvR x else .mv x
 | .pick c a b=>(kx c).bind fun c=>(kx a).bind fun a=>(kx b).map fun b=> .pick c a b
 | .alloc e=>(P.info? e).bind fun i=>i.zero.bind fun z=>(zLM z).map fun a=> .box e (P.cellsOf e) (.k a)
 | .box e x=>(kx x).bind fun x=>if h.grow.contains e=true then zEL P e x else some (.box e (P.cellsOf e) x)
 | .build t parts=>match P.underlying t with
  |some (.struct fs)=>if fs.toList.all (fun f=>(P.info? f.type).isSome)=false then none else (zBR P t).bind fun z=>(parts.toList.mapM fun (p:Nat×Operand)=>(fs[p.1]?).bind fun f=>(kx p.2).map fun x=>(f.offset,P.cellsOf f.type,x)).map fun ps=> .build z ps
  |_=>none
 | .buildSlice t len parts=>match P.underlying t with
  |some (.slice e)=>if zDB P e=false∨len*P.cellsOf e>2^24 then none else if zJs P e len parts=true then none else (zBR P e).bind fun z=>(parts.toList.mapM fun (p:Nat×Operand)=>(kx p.2).map fun x=>(p.1,x)).map fun ps=> .bslice e (P.cellsOf e) len (zJu P h self e parts) z ps
  |_=>none
 | .load t a=>(kx a).bind fun a=>(zBQ P t).map fun g=> .load g (P.cellsOf t) (zLN P t) a
 | .store t a x=>(kx a).bind fun a=>(kx x).bind fun x=>(P.info? t).map fun _=>zIQ P h t a x
 | .nilCheck x=>(kx x).map .chk
 | .binOp op xt x y _=>(kx x).bind fun kx'=>(kx y).bind fun ky=>match P.underlying xt with
  |some (.struct _)=>if (op= .eql∨op= .neq)∧P.eqGuardType P.depth xt=false then (zI2 P 20 xt).map fun tags=> .eqs (op== .neq) tags kx' ky else none
  |some (.int _)|some .string=>some (.bin op kx' ky)
  |some .bool=>if op= .eql∨op= .neq then some (.beq (op== .neq) kx' ky) else none
  |some (.interface _)=>match y with
   | .const .nilIface=>if op= .eql∨op= .neq then some (.inil (op== .neq) kx') else none
   |_=>none
  |_=>none
 | .unOp op _ x=>(kx x).map fun x=> .un op x
 | .convert src dst x=>match P.underlying src,P.underlying dst with
  |some (.int _),some (.int k)=>(kx x).map fun x=> .conv k x
  |some .string,some .string=>(kx x).map .str
  |some (.slice e),some .string=>match P.underlying e with
   |some (.int .u8)=>(kx x).map .toStr
   |_=>none
  |_,_=>none
 | .makeFunc (.func f) first caps=>if first.size=0 then (caps.toList.mapM kx).map fun cs=> .mkfn f cs else none
 | .makeSlice t l c=>match P.underlying t with
  |some (.slice e)=>if zDB P e=false then none else (zBR P e).bind fun z=>(kx l).bind fun l=>(kx c).map fun c=> .mksl e (P.cellsOf e) (P.bytesOf e) (zEd P h self e) z l c
  |_=>none
 | .slice t x lo hi none=>match P.underlying t with
  |some .string=>(kx x).bind fun x=>(kxo lo).bind fun lo=>(kxo hi).map fun hi=> .slcS x lo hi
  |some (.slice e)=>(P.info? e).bind fun _=>(kx x).bind fun x=>(kxo lo).bind fun lo=>(kxo hi).map fun hi=> .slc (P.cellsOf e) x lo hi
  |_=>none
 | .fieldAddr s x f=>match P.underlying s with
  |some (.struct fs)=>(fs[f]?).bind fun g=>if P.cellsOf g.type=0 then none else (kx x).map fun x=> .faddr g.offset x
  |_=>none
 | .field s x f=>match P.underlying s with
  |some (.struct fs)=>(fs[f]?).bind fun g=>(zBQ P g.type).bind fun q=>(kx x).map fun x=> .field q g.offset (P.cellsOf g.type) x
  |_=>none
 | .indexAddr t x i=>match P.underlying t with
  |some (.slice e)=>(P.info? e).bind fun _=>(kx x).bind fun x=>(kx i).map fun i=> .iaddr (P.cellsOf e) x i
  |_=>none
 | .index t x i=>match P.underlying t with
  |some .string=>(kx x).bind fun x=>(kx i).map fun i=> .index x i
  |_=>none
 | .extract x i=>(kx x).map fun x=> .ext x i
 | .call c=>match c.callee with
  | .builtin .append=>match c.args.toList,c.argTypes.toList with
   | [s,x],st::xt::_=>match P.underlying st,P.underlying xt with
    |some (.slice e),some (.slice _)=>if st=xt∧c.argTypes.size=2∧zDB P e=true then (kx s).bind fun s=>(kx x).map fun x=> .app e (P.cellsOf e) (P.bytesOf e) s x else none
    |_,_=>none
   |_,_=>none
  | .builtin .len=>match c.args.toList,c.argTypes.toList with
   | [x],t::_=>match P.underlying t with
    |some .string=>(kx x).map (.len true)
    |some (.slice _)=>(kx x).map (.len false)
    |_=>none
   |_,_=>none
  | .builtin .max=>(c.args.toList.mapM kx).map fun xs=> .mm true xs
  | .builtin .min=>(c.args.toList.mapM kx).map fun xs=> .mm false xs
  | .value f=>(kx f).bind fun g=>(c.args.toList.mapM kx).map fun xs=>zJv h self f g xs
  |_=>none
 |_=>none
def zBF (P:Program) (h:Hints) (self:FuncId) (ops:Array Oper):Option (List KOper):=
 ops.toList.mapM fun o=>(zBU P h self o).bind fun k=>match o.guard with
  |none=>some ⟨o.dst,k,none⟩
  |some (j,want)=>((ops[j]?).bind (·.dst)).map fun t=>⟨o.dst,k,some (t,want)⟩
def bnd (T:Nat):KCode→Bool
 | .ops l=>l.all fun o=>match o.dst with|some t=>decide (t<T)|none=>true
 | .draw l=>l.all fun o=>match o.1.dst with|some t=>decide (t<T)|none=>true
 | .seq a b| .cond _ a b=>bnd T a&&bnd T b
 | .block _ c| .loop _ _ _ c=>bnd T c
 |_=>true
def zJw:List KOper→List Nat→List Nat
 | [],out=>out
 |o::r,out=>
  let q:=zJw r out
  let q:=match o.dst with|some t=>q.filter (· !=t)|none=>q
  zDx (zDx q o.op.uses) (match o.guard with|some (t,_)=> [t]|none=> [])
def lv (res:List Nat):KCode→List (Nat×List Nat)→List Nat→List Nat
 | .skip,_,out=>out
 | .ops l,_,out=>zJw l out
 | .draw l,_,out=>zJw (l.map (·.1)) out
 | .seq a b,env,out=>lv res a env (lv res b env out)
 | .cond c a b,env,out=>zDx (zDx (lv res a env out) (lv res b env out)) c.uses
 | .block id c,env,out=>lv res c ((id,out)::env) out
 | .loop _ _ _ c,env,_=>lv res c env (lv res c env (lv res c env []))
 | .exit id,env,_=>(zE id env).getD []
 | .ret,_,_=>res
def zJx:List Nat→List Nat
 | []=> []
 |n::r=>insN n (zJx r)
where insN (n:Nat):List Nat→List Nat
  | []=> [n]
  |m::r=>if n≤m then n::m::r else m::insN n r
def zA1 (res:List Nat):Nat→KCode→List (Nat×List Nat)→List Nat→KCode
 |p,.seq a b,env,out=> .seq (zA1 res (2*p) a env (lv res b env out)) (zA1 res (2*p+1) b env out)
 |p,.cond c a b,env,out=> .cond c (zA1 res (2*p) a env out) (zA1 res (2*p+1) b env out)
 |p,.block id c,env,out=> .block id (zA1 res p c ((id,out)::env) out)
 |p,.loop _ _ _ c,env,_=>
  let l:=lv res c env (lv res c env (lv res c env []))
  .loop p (zJx l) ((.ret,res)::env.map fun (id,l)=>(.exit id,zJx l)) (zA1 res p c env l)
 |_,c,_,_=>c
def zL2:KOp→Bool
 | .mv _| .pick ..| .load ..| .chk _| .bin ..| .beq ..| .inil ..| .un ..| .conv ..| .str _| .mkfn ..| .faddr ..| .field ..| .iaddr ..| .index ..| .slcS ..| .ext ..| .len ..| .build ..=>true
 |_=>false
def zMb:KOp→Bool
 | .load ..=>true
 |_=>false
def zMc (k:KOp):Bool:=zL2 k||match k with
 | .box ..| .boxN ..| .bslice ..| .mksl ..=>true
 | .call borrow ..=>borrow
 |_=>false
def zJy (o:Oper):Bool:=match o.op with
 | .alloc _=>o.guard.isNone
 | .buildSlice _ _ parts=>o.guard.isNone&&(parts.size !=0&&parts.toList.all fun p=>zHl p.2)
 |_=>false
def kAt (ks:List KOper) (i:Nat):KOp:=match ks[i]? with|some k=>k.op|none=> .mv (.k (.c .u))
def zCJ (ops:Array Oper) (i:Nat) (l:List Bool) (j:Nat):Bool:=match ops[j]? with
 |some o=>o.after.any fun e=>Region.binds .any e&&(e.on==i||l.getD e.on false)
 |none=>false
def zCK (ops:Array Oper) (i:Nat):Nat→List Bool
 |0=> []
 |m+1=>zCK ops i m++ [zCJ ops i (zCK ops i m) m]
def zJz {α:Type}:Bool→(Bool→α)→α
 |true,k=>k true
 |false,k=>k false
def zGD {α:Type}:List Bool→(List Bool→α)→α
 | [],k=>k []
 |b::l,k=>zJz b fun b=>zGD l fun l=>k (b::l)
def zEM {α:Type}:List (List Bool)→(List (List Bool)→α)→α
 | [],k=>k []
 |b::l,k=>zGD b fun b=>zEM l fun l=>k (b::l)
def zJ0 {α:Type}:Nat→(Nat→α)→α
 |0,k=>k 0
 |n+1,k=>k (n+1)
def zEN {α:Type}:List Nat→(List Nat→α)→α
 | [],k=>k []
 |b::l,k=>zJ0 b fun b=>zEN l fun l=>k (b::l)
theorem zI3 {α:Type} (b:Bool) (k:Bool→α):zJz b k=k b:=by cases b<;>rfl
theorem zFU {α:Type}:∀(l:List Bool) (k:List Bool→α),zGD l k=k l
 | [],k=>rfl
 |b::l,k=>by simp only [zGD,zI3,zFU l]
theorem zCt {α:Type}:∀(l:List (List Bool)) (k:List (List Bool)→α),zEM l k=k l
 | [],k=>rfl
 |b::l,k=>by simp only [zEM,zFU,zCt l]
theorem zI4 {α:Type} (n:Nat) (k:Nat→α):zJ0 n k=k n:=by cases n<;>rfl
theorem zCu {α:Type}:∀(l:List Nat) (k:List Nat→α),zEN l k=k l
 | [],k=>rfl
 |b::l,k=>by simp only [zEN,zI4,zCu l]
abbrev DT:=List (List Bool)
def zGk (ops:Array Oper):DT:=(List.range ops.size).map fun i=>zCK ops i ops.size
def zGE (dt:DT) (j i:Nat):Bool:=(dt.getD i []).getD j false
def zHn (ks:List KOper):Nat→Nat→Option Nat
 |0,_=>none
 |m+1,t=>match ks.find? (fun k=>k.dst==some t) with
  |none=>some t
  |some k=>match k.op with
   | .mv (.t y)=>zHn ks m y
   | .faddr _ (.t y)=>zHn ks m y
   |_=>none
def zMC:KOp→Option Nat
 | .store _ (.t n) _=>some n
 | .call false _ (.t n::_)=>some n
 |_=>none
def zMd:KOp→Option Nat
 | .load _ _ _ (.t n)=>some n
 |_=>none
def zLP (ks:List KOper) (j:Nat):Bool:=match ks[j]? with|some k=>k.guard.isSome|none=>true
def zMD (ks:List KOper) (j:Nat):Option Nat:=if zLP ks j=true then none else (zMC (kAt ks j)).bind (zHn ks ks.length)
def zMe (ops:Array Oper) (ks:List KOper) (dt:DT) (ex:Bool) (listed:Array Bool) (i:Nat):Bool:=
 let l:=dt.getD i []
 zL2 (kAt ks i)&&Region.free .any ops listed i&&
 (List.range ops.size).all (fun j=>!l.getD j false||(zCJ ops i l j&&!listed.getD j false))&&
 (!zMb (kAt ks i)||(List.range ops.size).all fun j=>j==i||listed.getD j true||l.getD j false||zMc (kAt ks j)||(ex&&(zMd (kAt ks i)).isSome&&(zMD ks j).isSome))
def zCv (ops:Array Oper) (listed:Array Bool) (but:Option Nat):Array Bool:=
 ((List.range ops.size).map fun j=>listed.getD j true||(some j !=but&&((ops[j]?).map zJy).getD false)).toArray
def zGl (ops:Array Oper) (ks:List KOper) (dt:DT) (ex:Bool):Nat→Array Bool→Option (List Nat)
 |0,listed=>if listed.all id=true then some [] else none
 |n+1,listed=>
  let r:=Region.ready .any ops listed
  match r.find? (zMe ops ks dt ex listed) with
  |some i=>(zGl ops ks dt ex n (listed.setIfInBounds i true)).map (i:: ·)
  |none=>match (Region.ready .any ops (zCv ops listed none)).filter r.contains with
   | [i]=>if ((Region.ready .any ops (zCv ops listed none)).all (· ==i))=true then (zGl ops ks dt ex n (listed.setIfInBounds i true)).map (i:: ·) else none
   |_=>match r.find? (fun i=>((ops[i]?).map zJy).getD false) with
    |some i=>if (Region.ready .any ops (zCv ops listed (some i))).all (fun j=>j==i)=true then (zGl ops ks dt ex n (listed.setIfInBounds i true)).map (i:: ·) else none
    |none=>none
def zJ1 (ops:Array Oper) (ks:List KOper) (dt:DT):List Nat:=if 60<ops.size then List.range ops.size else match zGl ops ks dt false ops.size (Array.replicate ops.size false) with
 |some l=>l
 |none=>match zGl ops ks dt true ops.size (Array.replicate ops.size false) with
  |some l=>l
  |none=>List.range ops.size
def zIR:KOp→Bool
 | .mv _| .pick ..| .build ..| .bin ..| .eqs ..| .beq ..| .inil ..| .un ..| .conv ..| .str _| .mkfn ..| .slcS ..| .slc ..| .field ..| .index ..| .ext ..| .mm ..=>true
 |_=>false
def roK (k:KOp):Bool:=zIR k||match k with
 | .load ..| .chk _| .faddr ..| .iaddr ..| .len ..| .toStr _| .rel ..=>true
 |_=>false
def kOf (ks:List KOper) (i:Nat):KOper:=(ks[i]?).getD ⟨none,.mv (.k (.c .u)),none⟩
def zCw (a b:KOper):Bool:=(match a.dst with|some d=>!b.rd.contains d&&b.dst !=some d|none=>true)&&(match b.dst with|some d=>!a.rd.contains d|none=>true)
def zGm (ops:Array Oper) (j i:Nat):Bool:=match ops[j]? with
 |some o=>o.after.any fun e=>Region.binds .any e&&e.on==i
 |none=>false
def zIS (ops:Array Oper) (j:Nat):Bool:=match ops[j]? with
 |some o=>o.after.all fun e=>!Region.binds .any e||(decide (e.on<ops.size)&&e.on !=j)
 |none=>false
def zL3 (ops:Array Oper) (ks:List KOper) (dt:DT) (i j:Nat):Bool:=!zGm ops i j&&(zGE dt j i||zCw (kOf ks i) (kOf ks j))
def zGF (ops:Array Oper) (ks:List KOper) (dt:DT):List Nat→Bool
 | []=>true
 |i::r=>zIS ops i&&r.all (zL3 ops ks dt i)&&zGF ops ks dt r
def zDz (ks:List KOper) (dt:DT) (j i:Nat):Bool:=!zGE dt j i&&!(zIR (kOf ks i).op||zIR (kOf ks j).op||(roK (kOf ks i).op&&roK (kOf ks j).op))
def zEe (ks:List KOper) (dt:DT):List Nat→List Nat→List (KOper×List Bool)
 |_,[]=> []
 |p,j::r=>(kOf ks j,p.map (zDz ks dt j))::zEe ks dt (j::p) r
def zCL:List Nat→Bool
 | []=>true
 |n::l=>!l.contains n&&zCL l
def zJ2 (n:Nat) (l:List Nat):Bool:=l.length==n&&zCL l&&l.all (fun j=>decide (j<n))&&(List.range n).all l.contains
def zIT (ops:Array Oper) (ks:List KOper):Option KCode:=zEM (zGk ops) fun dt=>zEN (zJ1 ops ks dt) fun l=>
 if zJ2 ops.size l&&zGF ops ks dt l then some (.draw (zEe ks dt [] l)) else none
def zf (P:Program) (h:Hints) (self:FuncId):Code→Option KCode
 | .skip=>some .skip
 | .region _ ops draws=>(zBF P h self ops).bind fun ks=>if draws=true then
   (if P.follows .mixedOrders=true∧Region.noSelect ops=true then zIT ops ks else none)
  else some (.ops ks)
 | .seq a b=>(zf P h self a).bind fun a=>(zf P h self b).map fun b=> .seq a b
 | .cond c a b=>(kx c).bind fun c=>(zf P h self a).bind fun a=>(zf P h self b).map fun b=> .cond c a b
 | .block id c=>(zf P h self c).map fun c=> .block id c
 | .loop c=>(zf P h self c).map fun c=> .loop 0 [] [] c
 | .exit id=>some (.exit id)
 | .ret=>some .ret
 | .scope c=>zf P h self c
 |_=>none
def zDC (P:Program) (r:ResultVar):Option (Nat⊕(Nat×Bool×Nat)):=
 match r with
 | .tmp t=>some (.inl t)
 | .cell a t=>(zBQ P t).map fun g=> .inr (a,g,P.cellsOf t)
def zLQ (o:Oper):Bool:=match o.op,o.dst,o.guard with
 | .assign (.const (.slice none 0 0)),some 2,none=>true
 |_,_,_=>false
def zME (o:Oper):Bool:=match o.op,o.dst,o.guard with
 | .move (.tmp 0),some 3,none=>true
 |_,_,_=>false
def zMF (P:Program) (o:Oper):Bool:=match o.op,o.dst,o.guard with
 | .binOp .eql t (.tmp 3) (.const (.slice none 0 0)) _,some 4,none=>(match P.underlying t with|some (.slice _)=>true|_=>false)
 |_,_,_=>false
def zB0 (P:Program) (fn:Func):Option Code:=match fn.body with
 |some (.seq (.region i opx false) (.seq (.seq (.region _ ops false) (.cond (.tmp 4) (.seq (.region _ opb false) .ret) .skip)) d))=>match opx.toList,ops.toList,opb.toList,fn.results.toList with
  | [x],[m,q],[b],[.tmp 2]=>if zLQ x&&zLQ b&&zME m&&zMF P q&&fn.params.size==1&&fn.nfree==0&&decide (4<fn.ntmps) then some (.seq (.region i opx false) d) else none
  |_,_,_,_=>none
 |_=>none
def zEf (P:Program) (fn:Func):Option Code:=match zB0 P fn with
 |some c=>some c
 |none=>fn.body
def zEO (P:Program) (h:Hints) (self:FuncId) (fn:Func):Option KFun:=
 (zEf P fn).bind fun b=>(zf P h self b).bind fun c=>(fn.results.toList.mapM (zDC P)).map fun rs=>
  let res:=rs.map fun| .inl t=>t| .inr x=>x.1
  ⟨List.range (fn.params.size+fn.nfree),rs,!h.own.contains self,zA1 res 1 c [] [],(zB0 P fn).isSome⟩
def zCM (P:Program) (h:Hints) (self:FuncId) (kf:KFun):Prop:=
 ∃ fn, P.funcs[self]? = some fn ∧ (fn.name == "runtime.NumGoroutine") = false ∧ zEO P h self fn = some kf ∧ bnd (max fn.ntmps kf.params.length) kf.body = true
end Go.Eng

