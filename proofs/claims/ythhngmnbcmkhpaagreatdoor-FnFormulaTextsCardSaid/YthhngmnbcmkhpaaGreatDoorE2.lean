import Derived.Test.YthhngmnbcmkhpaaGreatDoorE1
import GoSem.Core.Layout
import GoSem.Core.Region
import GoSem.Op.Equal
import Derived.Orders
set_option linter.unusedVariables false
namespace Go.Eng
structure Hints where
 pass:List FuncId--calls of these are made with the caller's own blocks in reach
 passIn:List FuncId--in these all calls of function values are
 own:List FuncId--these hand their rows on,not frozen
 grow:List TypeId:= []--boxes of these have a slice that grows
 passN:List FuncId:= []--calls of these are made with such a box in reach
 deriving Inhabited
def zFu:Value→Option PV
 | .bool x=>some (.b x)
 | .int k n=>some (.i k n)
 | .string s=>some (.s s)
 | .nilIface=>some .nif
 | .slice none 0 0=>some .nl
 |_=>none
def zHZ:Value→Option CV
 | .nilFunc=>some .nfn
 |v=>(zFu v).map .p
def zIy:Value→Option AV
 | .agg cs=>(cs.toList.mapM zHZ).map .agg
 | .tuple _=>some (.c .u)
 | .pointer none=>some (.c .u)
 |v=>(zHZ v).map .c
def zHa:Operand→Bool
 | .const v=>(zFu v).isSome
 |_=>false
def zHb (P:Program) (e:TypeId) (len:Nat) (parts:Array (Nat×Operand)):Bool:=parts.toList.any fun p=>zHa p.2&&!(decide (p.1<len)&&P.cellsOf e==1)
def kx:Operand→Option KX
 | .tmp t=>some (.t t)
 | .const v=>(zIy v).map .k
 | .func f=>some (.k (.c (.fn f [])))
 | .global _=>none
def kxo:Option Operand→Option (Option KX)
 |none=>some none
 |some x=>(kx x).map some
def zFv (P:Program) (t:TypeId):Bool:=match P.underlying t with|some (.struct _)|some (.array _ _)=>true|_=>false
def zAd (P:Program) (t:TypeId):Option Bool:=match P.underlying t with|some (.struct _)|some (.array _ _)=>some true|some _=>some false|none=>none
def zAl (P:Program) (t:TypeId):Option (List PV):=(P.info? t).bind fun i=>i.zero.bind fun z=>z.cells.toList.mapM zFu
def zJe:PV→Nat
 | .b _=>0
 | .i .i64 _=>1
 | .s _=>2
 | .nl=>3
 | .nif=>4
 | .i .u8 _=>6
 |_=>9
def zIz (P:Program) (t:TypeId):List Nat:=match zAl P t with|some l=>l.map zJe|none=> []
def zCq (P:Program) (e:TypeId):Bool:=match P.info? e with
 |some i=>match i.zero with
  |some z=>decide (z.cells.size=i.size∧0<i.size)
  |none=>false
 |none=>false
def zHc (P:Program) (q:TypeId→Option (List Nat)):List Field→Nat→Option (List Nat)
 | [],off=>some []
 | f :: r, off => if f.name ≠ "_" ∧ f.offset = off then (q f.type).bind fun a => if a.length = P.cellsOf f.type ∧ 0 < a.length then (zHc P q r (off + P.cellsOf f.type)).map (a ++ ·) else none else none
def zGv (P:Program):Nat→TypeId→Option (List Nat)
 |0,_=>none
 |n+1,t=>match P.underlying t with
  |some .bool=>some [0]
  |some (.int _)=>some [1]
  |some .string=>some [2]
  |some (.struct fs)=>if P.stoodInHeld t=true then none else zHc P (zGv P n) fs.toList 0
  |_=>none
def zJU:List PV→Nat→Option Nat
 | [],_=>none
 | .nl::_,i=>some i
 |_::r,i=>zJU r (i+1)
def zC9 (P:Program) (e:TypeId) (x:KX):Option KOp:=match P.underlying e with
 |some (.struct fs)=>(zAl P e).bind fun z=>(zJU z 0).bind fun col=>(fs.toList.find? fun f=>f.offset==col).bind fun f=>match P.underlying f.type with
  |some (.slice t)=>some (.boxN e (P.cellsOf e) x col t (P.cellsOf t))
  |_=>none
 |_=>none
def zJf (h:Hints):Operand→Bool
 | .func k=>h.passN.contains k
 |_=>false
def zI0 (h:Hints) (self:FuncId):Operand→Bool
 | .func k=>!h.pass.contains k
 |_=>!h.passIn.contains self
def zHd (h:Hints) (self:FuncId) (f:Operand) (g:KX) (xs:List KX):KOp:=if zJf h f=true then .callN g xs else .call (zI0 h self f) g xs
def zA8 (P:Program) (h:Hints) (self:FuncId) (o:Oper):Option KOp:=
 match o.op with
 | .assign (.const (.slice none 0 0))=>match P.underlying o.type with
  |some (.slice e)=>some (.nil e (P.cellsOf e))
  |_=>none
 | .move x| .assign x=>(kx x).map .mv
 | .pick c a b=>(kx c).bind fun c=>(kx a).bind fun a=>(kx b).map fun b=> .pick c a b
 | .alloc e=>(P.info? e).bind fun i=>i.zero.bind fun z=>(zIy z).map fun a=> .box e (P.cellsOf e) (.k a)
 | .box e x=>(kx x).bind fun x=>if h.grow.contains e=true then zC9 P e x else some (.box e (P.cellsOf e) x)
 | .build t parts=>match P.underlying t with
  |some (.struct fs)=>if fs.toList.all (fun f=>(P.info? f.type).isSome)=false then none else (zAl P t).bind fun z=>(parts.toList.mapM fun (p:Nat×Operand)=>(fs[p.1]?).bind fun f=>(kx p.2).map fun x=>(f.offset,P.cellsOf f.type,x)).map fun ps=> .build z ps
  |_=>none
 | .buildSlice t len parts=>match P.underlying t with
  |some (.slice e)=>if zCq P e=false∨len*P.cellsOf e>2^24 then none else if zHb P e len parts=true then none else (zAl P e).bind fun z=>(parts.toList.mapM fun (p:Nat×Operand)=>(kx p.2).map fun x=>(p.1,x)).map fun ps=> .bslice e (P.cellsOf e) len z ps
  |_=>none
 | .load t a=>(kx a).bind fun a=>(zAd P t).map fun g=> .load g (P.cellsOf t) (zIz P t) a
 | .store t a x=>(kx a).bind fun a=>(kx x).bind fun x=>(P.info? t).map fun _=> .store (P.cellsOf t) a x
 | .nilCheck x=>(kx x).map .chk
 | .binOp op xt x y _=>(kx x).bind fun kx'=>(kx y).bind fun ky=>match P.underlying xt with
  |some (.struct _)=>if (op= .eql∨op= .neq)∧P.eqGuardType P.depth xt=false then (zGv P 20 xt).map fun tags=> .eqs (op== .neq) tags kx' ky else none
  |some (.int _)|some .string=>some (.bin op kx' ky)
  |some .bool=>if op= .eql∨op= .neq then some (.beq (op== .neq) kx' ky) else none
  |some (.interface _)=>match y with
   | .const .nilIface=>if op= .eql∨op= .neq then some (.inil (op== .neq) kx') else none
   |_=>none
  |_=>none
 | .unOp op _ x=>(kx x).map fun x=> .un op x
 | .convert src dst x=>match P.underlying src,P.underlying dst with
  |some (.int _),some (.int k)=>(kx x).map fun x=> .conv k x
  |some .string,some .string=>(kx x).map .str
  |some (.slice e),some .string=>match P.underlying e with
   |some (.int .u8)=>(kx x).map .toStr
   |_=>none
  |_,_=>none
 | .makeFunc (.func f) first caps=>if first.size=0 then (caps.toList.mapM kx).map fun cs=> .mkfn f cs else none
 | .makeSlice t l c=>match P.underlying t with
  |some (.slice e)=>if zCq P e=false then none else (zAl P e).bind fun z=>(kx l).bind fun l=>(kx c).map fun c=> .mksl e (P.cellsOf e) (P.bytesOf e) z l c
  |_=>none
 | .slice t x lo hi none=>match P.underlying t with
  |some .string=>(kx x).bind fun x=>(kxo lo).bind fun lo=>(kxo hi).map fun hi=> .slcS x lo hi
  |some (.slice e)=>(P.info? e).bind fun _=>(kx x).bind fun x=>(kxo lo).bind fun lo=>(kxo hi).map fun hi=> .slc (P.cellsOf e) x lo hi
  |_=>none
 | .fieldAddr s x f=>match P.underlying s with
  |some (.struct fs)=>(fs[f]?).bind fun g=>if P.cellsOf g.type=0 then none else (kx x).map fun x=> .faddr g.offset x
  |_=>none
 | .field s x f=>match P.underlying s with
  |some (.struct fs)=>(fs[f]?).bind fun g=>(zAd P g.type).bind fun q=>(kx x).map fun x=> .field q g.offset (P.cellsOf g.type) x
  |_=>none
 | .indexAddr t x i=>match P.underlying t with
  |some (.slice e)=>(P.info? e).bind fun _=>(kx x).bind fun x=>(kx i).map fun i=> .iaddr (P.cellsOf e) x i
  |_=>none
 | .index t x i=>match P.underlying t with
  |some .string=>(kx x).bind fun x=>(kx i).map fun i=> .index x i
  |_=>none
 | .extract x i=>(kx x).map fun x=> .ext x i
 | .call c=>match c.callee with
  | .builtin .append=>match c.args.toList,c.argTypes.toList with
   | [s,x],st::xt::_=>match P.underlying st,P.underlying xt with
    |some (.slice e),some (.slice _)=>if st=xt∧c.argTypes.size=2∧zCq P e=true then (kx s).bind fun s=>(kx x).map fun x=> .app e (P.cellsOf e) (P.bytesOf e) s x else none
    |_,_=>none
   |_,_=>none
  | .builtin .len=>match c.args.toList,c.argTypes.toList with
   | [x],t::_=>match P.underlying t with
    |some .string=>(kx x).map (.len true)
    |some (.slice _)=>(kx x).map (.len false)
    |_=>none
   |_,_=>none
  | .builtin .max=>(c.args.toList.mapM kx).map fun xs=> .mm true xs
  | .builtin .min=>(c.args.toList.mapM kx).map fun xs=> .mm false xs
  | .value f=>(kx f).bind fun g=>(c.args.toList.mapM kx).map fun xs=>zHd h self f g xs
  |_=>none
 |_=>none
def zAm (P:Program) (h:Hints) (self:FuncId) (ops:Array Oper):Option (List KOper):=
 ops.toList.mapM fun o=>(zA8 P h self o).bind fun k=>match o.guard with
  |none=>some ⟨o.dst,k,none⟩
  |some (j,want)=>((ops[j]?).bind (·.dst)).map fun t=>⟨o.dst,k,some (t,want)⟩
def bnd (T:Nat):KCode→Bool
 | .ops l=>l.all fun o=>match o.dst with|some t=>decide (t<T)|none=>true
 | .draw l=>l.all fun o=>match o.1.dst with|some t=>decide (t<T)|none=>true
 | .seq a b| .cond _ a b=>bnd T a&&bnd T b
 | .block _ c| .loop _ _ _ c=>bnd T c
 |_=>true
def zHe:List KOper→List Nat→List Nat
 | [],out=>out
 |o::r,out=>
  let q:=zHe r out
  let q:=match o.dst with|some t=>q.filter (· !=t)|none=>q
  zCo (zCo q o.op.uses) (match o.guard with|some (t,_)=> [t]|none=> [])
def lv (res:List Nat):KCode→List (Nat×List Nat)→List Nat→List Nat
 | .skip,_,out=>out
 | .ops l,_,out=>zHe l out
 | .draw l,_,out=>zHe (l.map (·.1)) out
 | .seq a b,env,out=>lv res a env (lv res b env out)
 | .cond c a b,env,out=>zCo (zCo (lv res a env out) (lv res b env out)) c.uses
 | .block id c,env,out=>lv res c ((id,out)::env) out
 | .loop _ _ _ c,env,_=>lv res c env (lv res c env (lv res c env []))
 | .exit id,env,_=>(zF id env).getD []
 | .ret,_,_=>res
def zHf:List Nat→List Nat
 | []=> []
 |n::r=>insN n (zHf r)
where insN (n:Nat):List Nat→List Nat
  | []=> [n]
  |m::r=>if n≤m then n::m::r else m::insN n r
def zAL (res:List Nat):Nat→KCode→List (Nat×List Nat)→List Nat→KCode
 |p,.seq a b,env,out=> .seq (zAL res (2*p) a env (lv res b env out)) (zAL res (2*p+1) b env out)
 |p,.cond c a b,env,out=> .cond c (zAL res (2*p) a env out) (zAL res (2*p+1) b env out)
 |p,.block id c,env,out=> .block id (zAL res p c ((id,out)::env) out)
 |p,.loop _ _ _ c,env,_=>
  let l:=lv res c env (lv res c env (lv res c env []))
  .loop p (zHf l) ((.ret,res)::env.map fun (id,l)=>(.exit id,zHf l)) (zAL res p c env l)
 |_,c,_,_=>c
def zJV:KOp→Bool
 | .mv _| .pick ..| .load ..| .chk _| .bin ..| .beq ..| .inil ..| .un ..| .conv ..| .str _| .mkfn ..| .faddr ..| .field ..| .iaddr ..| .index ..| .slcS ..| .ext ..| .len ..| .build ..=>true
 |_=>false
def zJ2:KOp→Bool
 | .load ..=>true
 |_=>false
def zJ3 (k:KOp):Bool:=zJV k||match k with
 | .box ..| .boxN ..| .bslice ..| .mksl ..=>true
 | .call borrow ..=>borrow
 |_=>false
def zHg (o:Oper):Bool:=match o.op with
 | .alloc _=>o.guard.isNone
 | .buildSlice _ _ parts=>o.guard.isNone&&(parts.size !=0&&parts.toList.all fun p=>zHa p.2)
 |_=>false
def kAt (ks:List KOper) (i:Nat):KOp:=match ks[i]? with|some k=>k.op|none=> .mv (.k (.c .u))
def zBO (ops:Array Oper) (i:Nat) (l:List Bool) (j:Nat):Bool:=match ops[j]? with
 |some o=>o.after.any fun e=>Region.binds .any e&&(e.on==i||l.getD e.on false)
 |none=>false
def zBP (ops:Array Oper) (i:Nat):Nat→List Bool
 |0=> []
 |m+1=>zBP ops i m++ [zBO ops i (zBP ops i m) m]
def zHh {α:Type}:Bool→(Bool→α)→α
 |true,k=>k true
 |false,k=>k false
def zEl {α:Type}:List Bool→(List Bool→α)→α
 | [],k=>k []
 |b::l,k=>zHh b fun b=>zEl l fun l=>k (b::l)
def zDA {α:Type}:List (List Bool)→(List (List Bool)→α)→α
 | [],k=>k []
 |b::l,k=>zEl b fun b=>zDA l fun l=>k (b::l)
def zHi {α:Type}:Nat→(Nat→α)→α
 |0,k=>k 0
 |n+1,k=>k (n+1)
def zDB {α:Type}:List Nat→(List Nat→α)→α
 | [],k=>k []
 |b::l,k=>zHi b fun b=>zDB l fun l=>k (b::l)
theorem zGw {α:Type} (b:Bool) (k:Bool→α):zHh b k=k b:=by cases b<;>rfl
theorem zD3 {α:Type}:∀(l:List Bool) (k:List Bool→α),zEl l k=k l
 | [],k=>rfl
 |b::l,k=>by simp only [zEl,zGw,zD3 l]
theorem zBw {α:Type}:∀(l:List (List Bool)) (k:List (List Bool)→α),zDA l k=k l
 | [],k=>rfl
 |b::l,k=>by simp only [zDA,zD3,zBw l]
theorem zGx {α:Type} (n:Nat) (k:Nat→α):zHi n k=k n:=by cases n<;>rfl
theorem zBx {α:Type}:∀(l:List Nat) (k:List Nat→α),zDB l k=k l
 | [],k=>rfl
 |b::l,k=>by simp only [zDB,zGx,zBx l]
abbrev DT:=List (List Bool)
def zE9 (ops:Array Oper):DT:=(List.range ops.size).map fun i=>zBP ops i ops.size
def zEm (dt:DT) (j i:Nat):Bool:=(dt.getD i []).getD j false
def zFw (ks:List KOper):Nat→Nat→Option Nat
 |0,_=>none
 |m+1,t=>match ks.find? (fun k=>k.dst==some t) with
  |none=>some t
  |some k=>match k.op with
   | .mv (.t y)=>zFw ks m y
   | .faddr _ (.t y)=>zFw ks m y
   |_=>none
def zJg:KOp→Option Nat
 | .store _ (.t n) _=>some n
 | .call false _ (.t n::_)=>some n
 |_=>none
def zJ4:KOp→Option Nat
 | .load _ _ _ (.t n)=>some n
 |_=>none
def zI1 (ks:List KOper) (j:Nat):Bool:=match ks[j]? with|some k=>k.guard.isSome|none=>true
def zJh (ks:List KOper) (j:Nat):Option Nat:=if zI1 ks j=true then none else (zJg (kAt ks j)).bind (zFw ks ks.length)
def zJ5 (ops:Array Oper) (ks:List KOper) (dt:DT) (ex:Bool) (listed:Array Bool) (i:Nat):Bool:=
 let l:=dt.getD i []
 zJV (kAt ks i)&&Region.free .any ops listed i&&
 (List.range ops.size).all (fun j=>!l.getD j false||(zBO ops i l j&&!listed.getD j false))&&
 (!zJ2 (kAt ks i)||(List.range ops.size).all fun j=>j==i||listed.getD j true||l.getD j false||zJ3 (kAt ks j)||(ex&&(zJ4 (kAt ks i)).isSome&&(zJh ks j).isSome))
def zBy (ops:Array Oper) (listed:Array Bool) (but:Option Nat):Array Bool:=
 ((List.range ops.size).map fun j=>listed.getD j true||(some j !=but&&((ops[j]?).map zHg).getD false)).toArray
def zFA (ops:Array Oper) (ks:List KOper) (dt:DT) (ex:Bool):Nat→Array Bool→Option (List Nat)
 |0,listed=>if listed.all id=true then some [] else none
 |n+1,listed=>
  let r:=Region.ready .any ops listed
  match r.find? (zJ5 ops ks dt ex listed) with
  |some i=>(zFA ops ks dt ex n (listed.setIfInBounds i true)).map (i:: ·)
  |none=>match (Region.ready .any ops (zBy ops listed none)).filter r.contains with
   | [i]=>if ((Region.ready .any ops (zBy ops listed none)).all (· ==i))=true then (zFA ops ks dt ex n (listed.setIfInBounds i true)).map (i:: ·) else none
   |_=>match r.find? (fun i=>((ops[i]?).map zHg).getD false) with
    |some i=>if (Region.ready .any ops (zBy ops listed (some i))).all (fun j=>j==i)=true then (zFA ops ks dt ex n (listed.setIfInBounds i true)).map (i:: ·) else none
    |none=>none
def zHj (ops:Array Oper) (ks:List KOper) (dt:DT):List Nat:=if 60<ops.size then List.range ops.size else match zFA ops ks dt false ops.size (Array.replicate ops.size false) with
 |some l=>l
 |none=>match zFA ops ks dt true ops.size (Array.replicate ops.size false) with
  |some l=>l
  |none=>List.range ops.size
def zGS:KOp→Bool
 | .mv _| .pick ..| .build ..| .bin ..| .eqs ..| .beq ..| .inil ..| .un ..| .conv ..| .str _| .mkfn ..| .slcS ..| .slc ..| .field ..| .index ..| .ext ..| .mm ..=>true
 |_=>false
def roK (k:KOp):Bool:=zGS k||match k with
 | .load ..| .chk _| .faddr ..| .iaddr ..| .len ..| .toStr _| .rel ..=>true
 |_=>false
def kOf (ks:List KOper) (i:Nat):KOper:=(ks[i]?).getD ⟨none,.mv (.k (.c .u)),none⟩
def zBz (a b:KOper):Bool:=(match a.dst with|some d=>!b.rd.contains d&&b.dst !=some d|none=>true)&&(match b.dst with|some d=>!a.rd.contains d|none=>true)
def zFB (ops:Array Oper) (j i:Nat):Bool:=match ops[j]? with
 |some o=>o.after.any fun e=>Region.binds .any e&&e.on==i
 |none=>false
def zGT (ops:Array Oper) (j:Nat):Bool:=match ops[j]? with
 |some o=>o.after.all fun e=>!Region.binds .any e||(decide (e.on<ops.size)&&e.on !=j)
 |none=>false
def zJW (ops:Array Oper) (ks:List KOper) (dt:DT) (i j:Nat):Bool:=!zFB ops i j&&(zEm dt j i||zBz (kOf ks i) (kOf ks j))
def zEn (ops:Array Oper) (ks:List KOper) (dt:DT):List Nat→Bool
 | []=>true
 |i::r=>zGT ops i&&r.all (zJW ops ks dt i)&&zEn ops ks dt r
def zCr (ks:List KOper) (dt:DT) (j i:Nat):Bool:=!zEm dt j i&&!(zGS (kOf ks i).op||zGS (kOf ks j).op||(roK (kOf ks i).op&&roK (kOf ks j).op))
def zDL (ks:List KOper) (dt:DT):List Nat→List Nat→List (KOper×List Bool)
 |_,[]=> []
 |p,j::r=>(kOf ks j,p.map (zCr ks dt j))::zDL ks dt (j::p) r
def zBQ:List Nat→Bool
 | []=>true
 |n::l=>!l.contains n&&zBQ l
def zHk (n:Nat) (l:List Nat):Bool:=l.length==n&&zBQ l&&l.all (fun j=>decide (j<n))&&(List.range n).all l.contains
def zGU (ops:Array Oper) (ks:List KOper):Option KCode:=zDA (zE9 ops) fun dt=>zDB (zHj ops ks dt) fun l=>
 if zHk ops.size l&&zEn ops ks dt l then some (.draw (zDL ks dt [] l)) else none
def zS (P:Program) (h:Hints) (self:FuncId):Code→Option KCode
 | .skip=>some .skip
 | .region _ ops draws=>(zAm P h self ops).bind fun ks=>if draws=true then
   (if P.follows .mixedOrders=true∧Region.noSelect ops=true then zGU ops ks else none)
  else some (.ops ks)
 | .seq a b=>(zS P h self a).bind fun a=>(zS P h self b).map fun b=> .seq a b
 | .cond c a b=>(kx c).bind fun c=>(zS P h self a).bind fun a=>(zS P h self b).map fun b=> .cond c a b
 | .block id c=>(zS P h self c).map fun c=> .block id c
 | .loop c=>(zS P h self c).map fun c=> .loop 0 [] [] c
 | .exit id=>some (.exit id)
 | .ret=>some .ret
 | .scope c=>zS P h self c
 |_=>none
def zCC (P:Program) (r:ResultVar):Option (Nat⊕(Nat×Bool×Nat)):=
 match r with
 | .tmp t=>some (.inl t)
 | .cell a t=>(zAd P t).map fun g=> .inr (a,g,P.cellsOf t)
def zDC (P:Program) (h:Hints) (self:FuncId) (fn:Func):Option KFun:=
 fn.body.bind fun b=>(zS P h self b).bind fun c=>(fn.results.toList.mapM (zCC P)).map fun rs=>
  let res:=rs.map fun| .inl t=>t| .inr x=>x.1
  ⟨List.range (fn.params.size+fn.nfree),rs,!h.own.contains self,zAL res 1 c [] []⟩
def zBR (P:Program) (h:Hints) (self:FuncId) (kf:KFun):Prop:=
 ∃ fn, P.funcs[self]? = some fn ∧ (fn.name == "runtime.NumGoroutine") = false ∧ zDC P h self fn = some kf ∧ bnd (max fn.ntmps kf.params.length) kf.body = true
end Go.Eng

