import Derived.Test.YtilkdjfhbahhdaaE1
import GoSem.Core.Layout
import GoSem.Core.Region
import GoSem.Op.Equal
import Derived.Orders
set_option linter.unusedVariables false
namespace Go.Eng
structure Hints where
 pass:List FuncId--calls of these are made with the caller's own blocks in reach
 passIn:List FuncId--in these all calls of function values are
 own:List FuncId--these hand their rows on,not frozen
 grow:List TypeId:= []--boxes of these have a slice that grows
 passN:List FuncId:= []--calls of these are made with such a box in reach
 growS:List TypeId:= []--where a whole value of these is stored its nil slices become empty own rows
 deep:List FuncId:= []--in these,slices of structs that are made hold own rows
 mvr:List FuncId:= []--in these,own rows move into the slots of the variables that they are assigned to
 deriving Inhabited
def zGg:Value→Option PV
 | .bool x=>some (.b x)
 | .int k n=>some (.i k n)
 | .string s=>some (.s s)
 | .nilIface=>some .nif
 | .slice none 0 0=>some .nl
 | .pointer none=>some .np
 |_=>none
def zIa:Value→Option CV
 | .nilFunc=>some .nfn
 |v=>(zGg v).map .p
def zJz:Value→Option AV
 | .agg cs=>(cs.toList.mapM zIa).map .agg
 | .tuple _=>some (.c .u)
 |v=>(zIa v).map .c
def zGh:Operand→Bool
 | .const v=>(zGg v).isSome
 |_=>false
def zIb (P:Program) (e:TypeId) (len:Nat) (parts:Array (Nat×Operand)):Bool:=parts.toList.any fun p=>zGh p.2&&!(decide (p.1<len)&&P.cellsOf e==1)
def kx:Operand→Option KX
 | .tmp t=>some (.t t)
 | .const v=>(zJz v).map .k
 | .func f=>some (.k (.c (.fn f [])))
 | .global _=>none
def kxo:Option Operand→Option (Option KX)
 |none=>some none
 |some x=>(kx x).map some
def zGi (P:Program) (t:TypeId):Bool:=match P.underlying t with|some (.struct _)|some (.array _ _)=>true|_=>false
def zAi (P:Program) (t:TypeId):Option Bool:=match P.underlying t with|some (.struct _)|some (.array _ _)=>some true|some _=>some false|none=>none
def zAj (P:Program) (t:TypeId):Option (List PV):=(P.info? t).bind fun i=>i.zero.bind fun z=>z.cells.toList.mapM zGg
def zKp:PV→Nat
 | .b _=>0
 | .i .i64 _=>1
 | .s _=>2
 | .nl=>3
 | .nif=>4
 | .i .u8 _=>6
 |_=>9
def zJ0 (P:Program) (t:TypeId):List Nat:=match zAj P t with|some l=>l.map zKp|none=> []
def zCR (P:Program) (e:TypeId):Bool:=match P.info? e with
 |some i=>match i.zero with
  |some z=>decide (z.cells.size=i.size∧0<i.size)
  |none=>false
 |none=>false
def zIc (P:Program) (q:TypeId→Option (List Nat)):List Field→Nat→Option (List Nat)
 | [],off=>some []
 | f :: r, off => if f.name ≠ "_" ∧ f.offset = off then (q f.type).bind fun a => if a.length = P.cellsOf f.type ∧ 0 < a.length then (zIc P q r (off + P.cellsOf f.type)).map (a ++ ·) else none else none
def zHt (P:Program):Nat→TypeId→Option (List Nat)
 |0,_=>none
 |n+1,t=>match P.underlying t with
  |some .bool=>some [0]
  |some (.int _)=>some [1]
  |some .string=>some [2]
  |some (.struct fs)=>if P.stoodInHeld t=true then none else zIc P (zHt P n) fs.toList 0
  |_=>none
def zKe:List PV→Nat→Option Nat
 | [],_=>none
 | .nl::_,i=>some i
 |_::r,i=>zKe r (i+1)
def zDY (P:Program) (e:TypeId) (x:KX):Option KOp:=match P.underlying e with
 |some (.struct fs)=>(zAj P e).bind fun z=>(zKe z 0).bind fun col=>(fs.toList.find? fun f=>f.offset==col).bind fun f=>match P.underlying f.type with
  |some (.slice t)=>some (.boxN e (P.cellsOf e) x col t (P.cellsOf t))
  |_=>none
 |_=>none
def zCt (P:Program) (t:TypeId):List (Nat×TypeId×Nat):=match P.underlying t with
 |some (.struct fs)=>fs.toList.filterMap fun f=>match P.underlying f.type with
  |some (.slice e)=>some (f.offset,e,P.cellsOf e)
  |_=>none
 |_=> []
def zDo (P:Program) (h:Hints) (self:FuncId) (e:TypeId):List (Nat×Nat×TypeId):=if h.deep.contains self=true then (zCt P e).map fun q=>(q.1,q.2.2,q.2.1) else []
def zId (P:Program) (h:Hints) (self:FuncId) (e:TypeId) (parts:Array (Nat×Operand)):List (Nat×Nat×TypeId):=if parts.toList.any (fun p=>zGh p.2)=true then [] else zDo P h self e
def zHG (P:Program) (h:Hints) (t:TypeId) (a x:KX):KOp:=match a with
 | .t n=>if h.growS.contains t=true then .storeN (P.cellsOf t) (n*64) (zCt P t) a x else if h.grow.contains t=true∧P.cellsOf t=2 then (match zAj P t,zCt P t with
   |some [.np,.nl],[(1,e,1)]=> .storeB (n*64) e a x
   |_,_=> .store (P.cellsOf t) a x) else .store (P.cellsOf t) a x
 |_=> .store (P.cellsOf t) a x
def zKq (h:Hints):Operand→Bool
 | .func k=>h.passN.contains k
 |_=>false
def zJ1 (h:Hints) (self:FuncId):Operand→Bool
 | .func k=>!h.pass.contains k
 |_=>!h.passIn.contains self
def zIe (h:Hints) (self:FuncId) (f:Operand) (g:KX) (xs:List KX):KOp:=if zKq h f=true then .callN g xs else .call (zJ1 h self f) g xs
def zAm (P:Program) (h:Hints) (self:FuncId) (o:Oper):Option KOp:=
 match o.op with
 | .assign (.const (.slice none 0 0))=>match P.underlying o.type with
  |some (.slice e)=>some (.nil e (P.cellsOf e) (zDo P h self e))
  |_=>none
 | .move x=>(kx x).map .mv
 | .assign x=>(kx x).map fun x=>if h.mvr.contains self=true then .mvR x else .mv x
 | .pick c a b=>(kx c).bind fun c=>(kx a).bind fun a=>(kx b).map fun b=> .pick c a b
 | .alloc e=>(P.info? e).bind fun i=>i.zero.bind fun z=>(zJz z).map fun a=> .box e (P.cellsOf e) (.k a)
 | .box e x=>(kx x).bind fun x=>if h.grow.contains e=true then zDY P e x else some (.box e (P.cellsOf e) x)
 | .build t parts=>match P.underlying t with
  |some (.struct fs)=>if fs.toList.all (fun f=>(P.info? f.type).isSome)=false then none else (zAj P t).bind fun z=>(parts.toList.mapM fun (p:Nat×Operand)=>(fs[p.1]?).bind fun f=>(kx p.2).map fun x=>(f.offset,P.cellsOf f.type,x)).map fun ps=> .build z ps
  |_=>none
 | .buildSlice t len parts=>match P.underlying t with
  |some (.slice e)=>if zCR P e=false∨len*P.cellsOf e>2^24 then none else if zIb P e len parts=true then none else (zAj P e).bind fun z=>(parts.toList.mapM fun (p:Nat×Operand)=>(kx p.2).map fun x=>(p.1,x)).map fun ps=> .bslice e (P.cellsOf e) len (zId P h self e parts) z ps
  |_=>none
 | .load t a=>(kx a).bind fun a=>(zAi P t).map fun g=> .load g (P.cellsOf t) (zJ0 P t) a
 | .store t a x=>(kx a).bind fun a=>(kx x).bind fun x=>(P.info? t).map fun _=>zHG P h t a x
 | .nilCheck x=>(kx x).map .chk
 | .binOp op xt x y _=>(kx x).bind fun kx'=>(kx y).bind fun ky=>match P.underlying xt with
  |some (.struct _)=>if (op= .eql∨op= .neq)∧P.eqGuardType P.depth xt=false then (zHt P 20 xt).map fun tags=> .eqs (op== .neq) tags kx' ky else none
  |some (.int _)|some .string=>some (.bin op kx' ky)
  |some .bool=>if op= .eql∨op= .neq then some (.beq (op== .neq) kx' ky) else none
  |some (.interface _)=>match y with
   | .const .nilIface=>if op= .eql∨op= .neq then some (.inil (op== .neq) kx') else none
   |_=>none
  |_=>none
 | .unOp op _ x=>(kx x).map fun x=> .un op x
 | .convert src dst x=>match P.underlying src,P.underlying dst with
  |some (.int _),some (.int k)=>(kx x).map fun x=> .conv k x
  |some .string,some .string=>(kx x).map .str
  |some (.slice e),some .string=>match P.underlying e with
   |some (.int .u8)=>(kx x).map .toStr
   |_=>none
  |_,_=>none
 | .makeFunc (.func f) first caps=>if first.size=0 then (caps.toList.mapM kx).map fun cs=> .mkfn f cs else none
 | .makeSlice t l c=>match P.underlying t with
  |some (.slice e)=>if zCR P e=false then none else (zAj P e).bind fun z=>(kx l).bind fun l=>(kx c).map fun c=> .mksl e (P.cellsOf e) (P.bytesOf e) (zDo P h self e) z l c
  |_=>none
 | .slice t x lo hi none=>match P.underlying t with
  |some .string=>(kx x).bind fun x=>(kxo lo).bind fun lo=>(kxo hi).map fun hi=> .slcS x lo hi
  |some (.slice e)=>(P.info? e).bind fun _=>(kx x).bind fun x=>(kxo lo).bind fun lo=>(kxo hi).map fun hi=> .slc (P.cellsOf e) x lo hi
  |_=>none
 | .fieldAddr s x f=>match P.underlying s with
  |some (.struct fs)=>(fs[f]?).bind fun g=>if P.cellsOf g.type=0 then none else (kx x).map fun x=> .faddr g.offset x
  |_=>none
 | .field s x f=>match P.underlying s with
  |some (.struct fs)=>(fs[f]?).bind fun g=>(zAi P g.type).bind fun q=>(kx x).map fun x=> .field q g.offset (P.cellsOf g.type) x
  |_=>none
 | .indexAddr t x i=>match P.underlying t with
  |some (.slice e)=>(P.info? e).bind fun _=>(kx x).bind fun x=>(kx i).map fun i=> .iaddr (P.cellsOf e) x i
  |_=>none
 | .index t x i=>match P.underlying t with
  |some .string=>(kx x).bind fun x=>(kx i).map fun i=> .index x i
  |_=>none
 | .extract x i=>(kx x).map fun x=> .ext x i
 | .call c=>match c.callee with
  | .builtin .append=>match c.args.toList,c.argTypes.toList with
   | [s,x],st::xt::_=>match P.underlying st,P.underlying xt with
    |some (.slice e),some (.slice _)=>if st=xt∧c.argTypes.size=2∧zCR P e=true then (kx s).bind fun s=>(kx x).map fun x=> .app e (P.cellsOf e) (P.bytesOf e) s x else none
    |_,_=>none
   |_,_=>none
  | .builtin .len=>match c.args.toList,c.argTypes.toList with
   | [x],t::_=>match P.underlying t with
    |some .string=>(kx x).map (.len true)
    |some (.slice _)=>(kx x).map (.len false)
    |_=>none
   |_,_=>none
  | .builtin .max=>(c.args.toList.mapM kx).map fun xs=> .mm true xs
  | .builtin .min=>(c.args.toList.mapM kx).map fun xs=> .mm false xs
  | .value f=>(kx f).bind fun g=>(c.args.toList.mapM kx).map fun xs=>zIe h self f g xs
  |_=>none
 |_=>none
def zAa (P:Program) (h:Hints) (self:FuncId) (ops:Array Oper):Option (List KOper):=
 ops.toList.mapM fun o=>(zAm P h self o).bind fun k=>match o.guard with
  |none=>some ⟨o.dst,k,none⟩
  |some (j,want)=>((ops[j]?).bind (·.dst)).map fun t=>⟨o.dst,k,some (t,want)⟩
def bnd (T:Nat):KCode→Bool
 | .ops l=>l.all fun o=>match o.dst with|some t=>decide (t<T)|none=>true
 | .draw l=>l.all fun o=>match o.1.dst with|some t=>decide (t<T)|none=>true
 | .seq a b| .cond _ a b=>bnd T a&&bnd T b
 | .block _ c| .loop _ _ _ c=>bnd T c
 |_=>true
def zIf:List KOper→List Nat→List Nat
 | [],out=>out
 |o::r,out=>
  let q:=zIf r out
  let q:=match o.dst with|some t=>q.filter (· !=t)|none=>q
  zDE (zDE q o.op.uses) (match o.guard with|some (t,_)=> [t]|none=> [])
def lv (res:List Nat):KCode→List (Nat×List Nat)→List Nat→List Nat
 | .skip,_,out=>out
 | .ops l,_,out=>zIf l out
 | .draw l,_,out=>zIf (l.map (·.1)) out
 | .seq a b,env,out=>lv res a env (lv res b env out)
 | .cond c a b,env,out=>zDE (zDE (lv res a env out) (lv res b env out)) c.uses
 | .block id c,env,out=>lv res c ((id,out)::env) out
 | .loop _ _ _ c,env,_=>lv res c env (lv res c env (lv res c env []))
 | .exit id,env,_=>(look id env).getD []
 | .ret,_,_=>res
def zIg:List Nat→List Nat
 | []=> []
 |n::r=>insN n (zIg r)
where insN (n:Nat):List Nat→List Nat
  | []=> [n]
  |m::r=>if n≤m then n::m::r else m::insN n r
def zAP (res:List Nat):Nat→KCode→List (Nat×List Nat)→List Nat→KCode
 |p,.seq a b,env,out=> .seq (zAP res (2*p) a env (lv res b env out)) (zAP res (2*p+1) b env out)
 |p,.cond c a b,env,out=> .cond c (zAP res (2*p) a env out) (zAP res (2*p+1) b env out)
 |p,.block id c,env,out=> .block id (zAP res p c ((id,out)::env) out)
 |p,.loop _ _ _ c,env,_=>
  let l:=lv res c env (lv res c env (lv res c env []))
  .loop p (zIg l) ((.ret,res)::env.map fun (id,l)=>(.exit id,zIg l)) (zAP res p c env l)
 |_,c,_,_=>c
def zKf:KOp→Bool
 | .mv _| .pick ..| .load ..| .chk _| .bin ..| .beq ..| .inil ..| .un ..| .conv ..| .str _| .mkfn ..| .faddr ..| .field ..| .iaddr ..| .index ..| .slcS ..| .ext ..| .len ..| .build ..=>true
 |_=>false
def zLH:KOp→Bool
 | .load ..=>true
 |_=>false
def zLI (k:KOp):Bool:=zKf k||match k with
 | .box ..| .boxN ..| .bslice ..| .mksl ..=>true
 | .call borrow ..=>borrow
 |_=>false
def zIh (o:Oper):Bool:=match o.op with
 | .alloc _=>o.guard.isNone
 | .buildSlice _ _ parts=>o.guard.isNone&&(parts.size !=0&&parts.toList.all fun p=>zGh p.2)
 |_=>false
def kAt (ks:List KOper) (i:Nat):KOp:=match ks[i]? with|some k=>k.op|none=> .mv (.k (.c .u))
def zBa (ops:Array Oper) (i:Nat) (l:List Bool) (j:Nat):Bool:=match ops[j]? with
 |some o=>o.after.any fun e=>Region.binds .any e&&(e.on==i||l.getD e.on false)
 |none=>false
def zBb (ops:Array Oper) (i:Nat):Nat→List Bool
 |0=> []
 |m+1=>zBb ops i m++ [zBa ops i (zBb ops i m) m]
def zIi {α:Type}:Bool→(Bool→α)→α
 |true,k=>k true
 |false,k=>k false
def zFG {α:Type}:List Bool→(List Bool→α)→α
 | [],k=>k []
 |b::l,k=>zIi b fun b=>zFG l fun l=>k (b::l)
def zDZ {α:Type}:List (List Bool)→(List (List Bool)→α)→α
 | [],k=>k []
 |b::l,k=>zFG b fun b=>zDZ l fun l=>k (b::l)
def zIj {α:Type}:Nat→(Nat→α)→α
 |0,k=>k 0
 |n+1,k=>k (n+1)
def zDa {α:Type}:List Nat→(List Nat→α)→α
 | [],k=>k []
 |b::l,k=>zIj b fun b=>zDa l fun l=>k (b::l)
theorem zHu {α:Type} (b:Bool) (k:Bool→α):zIi b k=k b:=by cases b<;>rfl
theorem zEa {α:Type}:∀(l:List Bool) (k:List Bool→α),zFG l k=k l
 | [],k=>rfl
 |b::l,k=>by simp only [zFG,zHu,zEa l]
theorem zB9 {α:Type}:∀(l:List (List Bool)) (k:List (List Bool)→α),zDZ l k=k l
 | [],k=>rfl
 |b::l,k=>by simp only [zDZ,zEa,zB9 l]
theorem zHv {α:Type} (n:Nat) (k:Nat→α):zIj n k=k n:=by cases n<;>rfl
theorem zCA {α:Type}:∀(l:List Nat) (k:List Nat→α),zDa l k=k l
 | [],k=>rfl
 |b::l,k=>by simp only [zDa,zHv,zCA l]
abbrev DT:=List (List Bool)
def zFk (ops:Array Oper):DT:=(List.range ops.size).map fun i=>zBb ops i ops.size
def zFH (dt:DT) (j i:Nat):Bool:=(dt.getD i []).getD j false
def zGj (ks:List KOper):Nat→Nat→Option Nat
 |0,_=>none
 |m+1,t=>match ks.find? (fun k=>k.dst==some t) with
  |none=>some t
  |some k=>match k.op with
   | .mv (.t y)=>zGj ks m y
   | .faddr _ (.t y)=>zGj ks m y
   |_=>none
def zKr:KOp→Option Nat
 | .store _ (.t n) _=>some n
 | .call false _ (.t n::_)=>some n
 |_=>none
def zLJ:KOp→Option Nat
 | .load _ _ _ (.t n)=>some n
 |_=>none
def zJ2 (ks:List KOper) (j:Nat):Bool:=match ks[j]? with|some k=>k.guard.isSome|none=>true
def zKs (ks:List KOper) (j:Nat):Option Nat:=if zJ2 ks j=true then none else (zKr (kAt ks j)).bind (zGj ks ks.length)
def zLK (ops:Array Oper) (ks:List KOper) (dt:DT) (ex:Bool) (listed:Array Bool) (i:Nat):Bool:=
 let l:=dt.getD i []
 zKf (kAt ks i)&&Region.free .any ops listed i&&
 (List.range ops.size).all (fun j=>!l.getD j false||(zBa ops i l j&&!listed.getD j false))&&
 (!zLH (kAt ks i)||(List.range ops.size).all fun j=>j==i||listed.getD j true||l.getD j false||zLI (kAt ks j)||(ex&&(zLJ (kAt ks i)).isSome&&(zKs ks j).isSome))
def zCB (ops:Array Oper) (listed:Array Bool) (but:Option Nat):Array Bool:=
 ((List.range ops.size).map fun j=>listed.getD j true||(some j !=but&&((ops[j]?).map zIh).getD false)).toArray
def zFl (ops:Array Oper) (ks:List KOper) (dt:DT) (ex:Bool):Nat→Array Bool→Option (List Nat)
 |0,listed=>if listed.all id=true then some [] else none
 |n+1,listed=>
  let r:=Region.ready .any ops listed
  match r.find? (zLK ops ks dt ex listed) with
  |some i=>(zFl ops ks dt ex n (listed.setIfInBounds i true)).map (i:: ·)
  |none=>match (Region.ready .any ops (zCB ops listed none)).filter r.contains with
   | [i]=>if ((Region.ready .any ops (zCB ops listed none)).all (· ==i))=true then (zFl ops ks dt ex n (listed.setIfInBounds i true)).map (i:: ·) else none
   |_=>match r.find? (fun i=>((ops[i]?).map zIh).getD false) with
    |some i=>if (Region.ready .any ops (zCB ops listed (some i))).all (fun j=>j==i)=true then (zFl ops ks dt ex n (listed.setIfInBounds i true)).map (i:: ·) else none
    |none=>none
def zIk (ops:Array Oper) (ks:List KOper) (dt:DT):List Nat:=if 60<ops.size then List.range ops.size else match zFl ops ks dt false ops.size (Array.replicate ops.size false) with
 |some l=>l
 |none=>match zFl ops ks dt true ops.size (Array.replicate ops.size false) with
  |some l=>l
  |none=>List.range ops.size
def zHH:KOp→Bool
 | .mv _| .pick ..| .build ..| .bin ..| .eqs ..| .beq ..| .inil ..| .un ..| .conv ..| .str _| .mkfn ..| .slcS ..| .slc ..| .field ..| .index ..| .ext ..| .mm ..=>true
 |_=>false
def roK (k:KOp):Bool:=zHH k||match k with
 | .load ..| .chk _| .faddr ..| .iaddr ..| .len ..| .toStr _| .rel ..=>true
 |_=>false
def kOf (ks:List KOper) (i:Nat):KOper:=(ks[i]?).getD ⟨none,.mv (.k (.c .u)),none⟩
def zCC (a b:KOper):Bool:=(match a.dst with|some d=>!b.rd.contains d&&b.dst !=some d|none=>true)&&(match b.dst with|some d=>!a.rd.contains d|none=>true)
def zFm (ops:Array Oper) (j i:Nat):Bool:=match ops[j]? with
 |some o=>o.after.any fun e=>Region.binds .any e&&e.on==i
 |none=>false
def zHI (ops:Array Oper) (j:Nat):Bool:=match ops[j]? with
 |some o=>o.after.all fun e=>!Region.binds .any e||(decide (e.on<ops.size)&&e.on !=j)
 |none=>false
def zKg (ops:Array Oper) (ks:List KOper) (dt:DT) (i j:Nat):Bool:=!zFm ops i j&&(zFH dt j i||zCC (kOf ks i) (kOf ks j))
def zFI (ops:Array Oper) (ks:List KOper) (dt:DT):List Nat→Bool
 | []=>true
 |i::r=>zHI ops i&&r.all (zKg ops ks dt i)&&zFI ops ks dt r
def zDF (ks:List KOper) (dt:DT) (j i:Nat):Bool:=!zFH dt j i&&!(zHH (kOf ks i).op||zHH (kOf ks j).op||(roK (kOf ks i).op&&roK (kOf ks j).op))
def zDp (ks:List KOper) (dt:DT):List Nat→List Nat→List (KOper×List Bool)
 |_,[]=> []
 |p,j::r=>(kOf ks j,p.map (zDF ks dt j))::zDp ks dt (j::p) r
def zBc:List Nat→Bool
 | []=>true
 |n::l=>!l.contains n&&zBc l
def zIl (n:Nat) (l:List Nat):Bool:=l.length==n&&zBc l&&l.all (fun j=>decide (j<n))&&(List.range n).all l.contains
def zHJ (ops:Array Oper) (ks:List KOper):Option KCode:=zDZ (zFk ops) fun dt=>zDa (zIk ops ks dt) fun l=>
 if zIl ops.size l&&zFI ops ks dt l then some (.draw (zDp ks dt [] l)) else none
def zX (P:Program) (h:Hints) (self:FuncId):Code→Option KCode
 | .skip=>some .skip
 | .region _ ops draws=>(zAa P h self ops).bind fun ks=>if draws=true then
   (if P.follows .mixedOrders=true∧Region.noSelect ops=true then zHJ ops ks else none)
  else some (.ops ks)
 | .seq a b=>(zX P h self a).bind fun a=>(zX P h self b).map fun b=> .seq a b
 | .cond c a b=>(kx c).bind fun c=>(zX P h self a).bind fun a=>(zX P h self b).map fun b=> .cond c a b
 | .block id c=>(zX P h self c).map fun c=> .block id c
 | .loop c=>(zX P h self c).map fun c=> .loop 0 [] [] c
 | .exit id=>some (.exit id)
 | .ret=>some .ret
 | .scope c=>zX P h self c
 |_=>none
def zCS (P:Program) (r:ResultVar):Option (Nat⊕(Nat×Bool×Nat)):=
 match r with
 | .tmp t=>some (.inl t)
 | .cell a t=>(zAi P t).map fun g=> .inr (a,g,P.cellsOf t)
def zJ3 (o:Oper):Bool:=match o.op,o.dst,o.guard with
 | .assign (.const (.slice none 0 0)),some 2,none=>true
 |_,_,_=>false
def zKt (o:Oper):Bool:=match o.op,o.dst,o.guard with
 | .move (.tmp 0),some 3,none=>true
 |_,_,_=>false
def zKu (P:Program) (o:Oper):Bool:=match o.op,o.dst,o.guard with
 | .binOp .eql t (.tmp 3) (.const (.slice none 0 0)) _,some 4,none=>(match P.underlying t with|some (.slice _)=>true|_=>false)
 |_,_,_=>false
def zBJ (P:Program) (fn:Func):Option Code:=match fn.body with
 |some (.seq (.region i opx false) (.seq (.seq (.region _ ops false) (.cond (.tmp 4) (.seq (.region _ opb false) .ret) .skip)) d))=>match opx.toList,ops.toList,opb.toList,fn.results.toList with
  | [x],[m,q],[b],[.tmp 2]=>if zJ3 x&&zJ3 b&&zKt m&&zKu P q&&fn.params.size==1&&fn.nfree==0&&decide (4<fn.ntmps) then some (.seq (.region i opx false) d) else none
  |_,_,_,_=>none
 |_=>none
def zDq (P:Program) (fn:Func):Option Code:=match zBJ P fn with
 |some c=>some c
 |none=>fn.body
def zDb (P:Program) (h:Hints) (self:FuncId) (fn:Func):Option KFun:=
 (zDq P fn).bind fun b=>(zX P h self b).bind fun c=>(fn.results.toList.mapM (zCS P)).map fun rs=>
  let res:=rs.map fun| .inl t=>t| .inr x=>x.1
  ⟨List.range (fn.params.size+fn.nfree),rs,!h.own.contains self,zAP res 1 c [] [],(zBJ P fn).isSome⟩
def zBB (P:Program) (h:Hints) (self:FuncId) (kf:KFun):Prop:=
 ∃ fn, P.funcs[self]? = some fn ∧ (fn.name == "runtime.NumGoroutine") = false ∧ zDb P h self fn = some kf ∧ bnd (max fn.ntmps kf.params.length) kf.body = true
end Go.Eng

