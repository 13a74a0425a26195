import Derived.Test.YthhngmnbcmkhpaaGreatDoorE1
import GoSem.Core.Layout
import GoSem.Core.Region
import GoSem.Op.Equal
import Derived.Orders
set_option linter.unusedVariables false
namespace Go.Eng
structure Hints where
 pass:List FuncId--calls of these are made with the caller's own blocks in reach
 passIn:List FuncId--in these all calls of function values are
 own:List FuncId--these hand their rows on,not frozen
 grow:List TypeId:= []--boxes of these have a slice that grows
 passN:List FuncId:= []--calls of these are made with such a box in reach
 deriving Inhabited
def zDC:Value→Option PV
 | .bool x=>some (.b x)
 | .int k n=>some (.i k n)
 | .string s=>some (.s s)
 | .nilIface=>some .nif
 | .slice none 0 0=>some .nl
 |_=>none
def zG7:Value→Option CV
 | .nilFunc=>some .nfn
 |v=>(zDC v).map .p
def zG8:Value→Option AV
 | .agg cs=>(cs.toList.mapM zG7).map .agg
 | .tuple _=>some (.c .u)
 | .pointer none=>some (.c .u)
 |v=>(zG7 v).map .c
def zB7:Operand→Bool
 | .const v=>(zDC v).isSome
 |_=>false
def zE6 (P:Program) (e:TypeId) (len:Nat) (parts:Array (Nat×Operand)):Bool:=parts.toList.any fun p=>zB7 p.2&&!(decide (p.1<len)&&P.cellsOf e==1)
def kx:Operand→Option KX
 | .tmp t=>some (.t t)
 | .const v=>(zG8 v).map .k
 | .func f=>some (.k (.c (.fn f [])))
 | .global _=>none
def kxo:Option Operand→Option (Option KX)
 |none=>some none
 |some x=>(kx x).map some
def zFi (P:Program) (t:TypeId):Bool:=match P.underlying t with|some (.struct _)|some (.array _ _)=>true|_=>false
def zAo (P:Program) (t:TypeId):Option Bool:=match P.underlying t with|some (.struct _)|some (.array _ _)=>some true|some _=>some false|none=>none
def zAi (P:Program) (t:TypeId):Option (List PV):=(P.info? t).bind fun i=>i.zero.bind fun z=>z.cells.toList.mapM zDC
def zIp:PV→Nat
 | .b _=>0
 | .i .i64 _=>1
 | .s _=>2
 | .nl=>3
 | .nif=>4
 | .i .u8 _=>6
 |_=>9
def zIA (P:Program) (t:TypeId):List Nat:=match zAi P t with|some l=>l.map zIp|none=> []
def zCH (P:Program) (e:TypeId):Bool:=match P.info? e with
 |some i=>match i.zero with
  |some z=>decide (z.cells.size=i.size∧0<i.size)
  |none=>false
 |none=>false
def zG9 (P:Program) (q:TypeId→Option (List Nat)):List Field→Nat→Option (List Nat)
 | [],off=>some []
 | f :: r, off => if f.name ≠ "_" ∧ f.offset = off then (q f.type).bind fun a => if a.length = P.cellsOf f.type ∧ 0 < a.length then (zG9 P q r (off + P.cellsOf f.type)).map (a ++ ·) else none else none
def zGY (P:Program):Nat→TypeId→Option (List Nat)
 |0,_=>none
 |n+1,t=>match P.underlying t with
  |some .bool=>some [0]
  |some (.int _)=>some [1]
  |some .string=>some [2]
  |some (.struct fs)=>if P.stoodInHeld t=true then none else zG9 P (zGY P n) fs.toList 0
  |_=>none
def zIe:List PV→Nat→Option Nat
 | [],_=>none
 | .nl::_,i=>some i
 |_::r,i=>zIe r (i+1)
def zC2 (P:Program) (e:TypeId) (x:KX):Option KOp:=match P.underlying e with
 |some (.struct fs)=>(zAi P e).bind fun z=>(zIe z 0).bind fun col=>(fs.toList.find? fun f=>f.offset==col).bind fun f=>match P.underlying f.type with
  |some (.slice t)=>some (.boxN e (P.cellsOf e) x col t (P.cellsOf t))
  |_=>none
 |_=>none
def zIq (h:Hints):Operand→Bool
 | .func k=>h.passN.contains k
 |_=>false
def zIB (h:Hints) (self:FuncId):Operand→Bool
 | .func k=>!h.pass.contains k
 |_=>!h.passIn.contains self
def zCa (h:Hints) (self:FuncId) (f:Operand) (g:KX) (xs:List KX):KOp:=if zIq h f=true then .callN g xs else .call (zIB h self f) g xs
def zK (P:Program) (h:Hints) (self:FuncId) (o:Oper):Option KOp:=
 match o.op with
 | .assign (.const (.slice none 0 0))=>match P.underlying o.type with
  |some (.slice e)=>some (.nil e (P.cellsOf e))
  |_=>none
 | .move x| .assign x=>(kx x).map .mv
 | .pick c a b=>(kx c).bind fun c=>(kx a).bind fun a=>(kx b).map fun b=> .pick c a b
 | .alloc e=>(P.info? e).bind fun i=>i.zero.bind fun z=>(zG8 z).map fun a=> .box e (P.cellsOf e) (.k a)
 | .box e x=>(kx x).bind fun x=>if h.grow.contains e=true then zC2 P e x else some (.box e (P.cellsOf e) x)
 | .build t parts=>match P.underlying t with
  |some (.struct fs)=>if fs.toList.all (fun f=>(P.info? f.type).isSome)=false then none else (zAi P t).bind fun z=>(parts.toList.mapM fun (p:Nat×Operand)=>(fs[p.1]?).bind fun f=>(kx p.2).map fun x=>(f.offset,P.cellsOf f.type,x)).map fun ps=> .build z ps
  |_=>none
 | .buildSlice t len parts=>match P.underlying t with
  |some (.slice e)=>if zCH P e=false∨len*P.cellsOf e>2^24 then none else if zE6 P e len parts=true then none else (zAi P e).bind fun z=>(parts.toList.mapM fun (p:Nat×Operand)=>(kx p.2).map fun x=>(p.1,x)).map fun ps=> .bslice e (P.cellsOf e) len z ps
  |_=>none
 | .load t a=>(kx a).bind fun a=>(zAo P t).map fun g=> .load g (P.cellsOf t) (zIA P t) a
 | .store t a x=>(kx a).bind fun a=>(kx x).bind fun x=>(P.info? t).map fun _=> .store (P.cellsOf t) a x
 | .nilCheck x=>(kx x).map .chk
 | .binOp op xt x y _=>(kx x).bind fun kx'=>(kx y).bind fun ky=>match P.underlying xt with
  |some (.struct _)=>if (op= .eql∨op= .neq)∧P.eqGuardType P.depth xt=false then (zGY P 20 xt).map fun tags=> .eqs (op== .neq) tags kx' ky else none
  |some (.int _)|some .string=>some (.bin op kx' ky)
  |some .bool=>if op= .eql∨op= .neq then some (.beq (op== .neq) kx' ky) else none
  |some (.interface _)=>match y with
   | .const .nilIface=>if op= .eql∨op= .neq then some (.inil (op== .neq) kx') else none
   |_=>none
  |_=>none
 | .unOp op _ x=>(kx x).map fun x=> .un op x
 | .convert src dst x=>match P.underlying src,P.underlying dst with
  |some (.int _),some (.int k)=>(kx x).map fun x=> .conv k x
  |some .string,some .string=>(kx x).map .str
  |some (.slice e),some .string=>match P.underlying e with
   |some (.int .u8)=>(kx x).map .toStr
   |_=>none
  |_,_=>none
 | .makeFunc (.func f) first caps=>if first.size=0 then (caps.toList.mapM kx).map fun cs=> .mkfn f cs else none
 | .makeSlice t l c=>match P.underlying t with
  |some (.slice e)=>if zCH P e=false then none else (zAi P e).bind fun z=>(kx l).bind fun l=>(kx c).map fun c=> .mksl e (P.cellsOf e) (P.bytesOf e) z l c
  |_=>none
 | .slice t x lo hi none=>match P.underlying t with
  |some .string=>(kx x).bind fun x=>(kxo lo).bind fun lo=>(kxo hi).map fun hi=> .slcS x lo hi
  |some (.slice e)=>(P.info? e).bind fun _=>(kx x).bind fun x=>(kxo lo).bind fun lo=>(kxo hi).map fun hi=> .slc (P.cellsOf e) x lo hi
  |_=>none
 | .fieldAddr s x f=>match P.underlying s with
  |some (.struct fs)=>(fs[f]?).bind fun g=>if P.cellsOf g.type=0 then none else (kx x).map fun x=> .faddr g.offset x
  |_=>none
 | .field s x f=>match P.underlying s with
  |some (.struct fs)=>(fs[f]?).bind fun g=>(zAo P g.type).bind fun q=>(kx x).map fun x=> .field q g.offset (P.cellsOf g.type) x
  |_=>none
 | .indexAddr t x i=>match P.underlying t with
  |some (.slice e)=>(P.info? e).bind fun _=>(kx x).bind fun x=>(kx i).map fun i=> .iaddr (P.cellsOf e) x i
  |_=>none
 | .index t x i=>match P.underlying t with
  |some .string=>(kx x).bind fun x=>(kx i).map fun i=> .index x i
  |_=>none
 | .extract x i=>(kx x).map fun x=> .ext x i
 | .call c=>match c.callee with
  | .builtin .append=>match c.args.toList,c.argTypes.toList with
   | [s,x],st::xt::_=>match P.underlying st,P.underlying xt with
    |some (.slice e),some (.slice _)=>if st=xt∧c.argTypes.size=2∧zCH P e=true then (kx s).bind fun s=>(kx x).map fun x=> .app e (P.cellsOf e) (P.bytesOf e) s x else none
    |_,_=>none
   |_,_=>none
  | .builtin .len=>match c.args.toList,c.argTypes.toList with
   | [x],t::_=>match P.underlying t with
    |some .string=>(kx x).map (.len true)
    |some (.slice _)=>(kx x).map (.len false)
    |_=>none
   |_,_=>none
  | .builtin .max=>(c.args.toList.mapM kx).map fun xs=> .mm true xs
  | .builtin .min=>(c.args.toList.mapM kx).map fun xs=> .mm false xs
  | .value f=>(kx f).bind fun g=>(c.args.toList.mapM kx).map fun xs=>zCa h self f g xs
  |_=>none
 |_=>none
def zAB (P:Program) (h:Hints) (self:FuncId) (ops:Array Oper):Option (List KOper):=
 ops.toList.mapM fun o=>(zK P h self o).bind fun k=>match o.guard with
  |none=>some ⟨o.dst,k,none⟩
  |some (j,want)=>((ops[j]?).bind (·.dst)).map fun t=>⟨o.dst,k,some (t,want)⟩
def bnd (T:Nat):KCode→Bool
 | .ops l=>l.all fun o=>match o.dst with|some t=>decide (t<T)|none=>true
 | .seq a b| .cond _ a b=>bnd T a&&bnd T b
 | .block _ c| .loop _ _ _ c=>bnd T c
 |_=>true
def KX.uses:KX→List Nat
 | .t n=> [n]
 | .k _=> []
def KOp.uses:KOp→List Nat
 | .mv x| .inil _ x| .box _ _ x| .load _ _ _ x| .chk x| .un _ x| .conv _ x| .str x| .toStr x| .faddr _ x| .field _ _ _ x| .ext x _| .len _ x=>x.uses
 | .pick a b c=>a.uses++b.uses++c.uses
 | .nil _ _=> []
 | .boxN _ _ x _ _ _=>x.uses
 | .build _ ps=>ps.flatMap fun p=>p.2.2.uses
 | .bslice _ _ _ _ ps=>ps.flatMap fun p=>p.2.uses
 | .rel _ a x| .store _ a x| .bin _ a x| .eqs _ _ a x| .beq _ a x| .mksl _ _ _ _ a x| .iaddr _ a x| .index a x| .app _ _ _ a x=>a.uses++x.uses
 | .mkfn _ xs| .mm _ xs=>xs.flatMap KX.uses
 | .slcS x l h| .slc _ x l h=>x.uses++(match l with|some l=>l.uses|none=> [])++(match h with|some h=>h.uses|none=> [])
 | .callN f xs| .call _ f xs=>f.uses++xs.flatMap KX.uses
def zIf:List KOper→List Nat→List Nat
 | [],out=>out
 |o::r,out=>
  let q:=zIf r out
  let q:=match o.dst with|some t=>q.filter (· !=t)|none=>q
  zCp (zCp q o.op.uses) (match o.guard with|some (t,_)=> [t]|none=> [])
def lv (res:List Nat):KCode→List (Nat×List Nat)→List Nat→List Nat
 | .skip,_,out=>out
 | .ops l,_,out=>zIf l out
 | .seq a b,env,out=>lv res a env (lv res b env out)
 | .cond c a b,env,out=>zCp (zCp (lv res a env out) (lv res b env out)) c.uses
 | .block id c,env,out=>lv res c ((id,out)::env) out
 | .loop _ _ _ c,env,_=>lv res c env (lv res c env (lv res c env []))
 | .exit id,env,_=>(zG id env).getD []
 | .ret,_,_=>res
def zHA:List Nat→List Nat
 | []=> []
 |n::r=>insN n (zHA r)
where insN (n:Nat):List Nat→List Nat
  | []=> [n]
  |m::r=>if n≤m then n::m::r else m::insN n r
def zAQ (res:List Nat):Nat→KCode→List (Nat×List Nat)→List Nat→KCode
 |p,.seq a b,env,out=> .seq (zAQ res (2*p) a env (lv res b env out)) (zAQ res (2*p+1) b env out)
 |p,.cond c a b,env,out=> .cond c (zAQ res (2*p) a env out) (zAQ res (2*p+1) b env out)
 |p,.block id c,env,out=> .block id (zAQ res p c ((id,out)::env) out)
 |p,.loop _ _ _ c,env,_=>
  let l:=lv res c env (lv res c env (lv res c env []))
  .loop p (zHA l) ((.ret,res)::env.map fun (id,l)=>(.exit id,zHA l)) (zAQ res p c env l)
 |_,c,_,_=>c
def zg:KOp→Bool
 | .mv _| .pick ..| .load ..| .chk _| .bin ..| .beq ..| .inil ..| .un ..| .conv ..| .str _| .mkfn ..| .faddr ..| .field ..| .iaddr ..| .index ..| .slcS ..| .ext ..| .len ..| .build ..=>true
 |_=>false
def zI9:KOp→Bool
 | .load ..=>true
 |_=>false
def zAb (k:KOp):Bool:=zg k||match k with
 | .box ..| .boxN ..| .bslice ..| .mksl ..=>true
 | .call borrow ..=>borrow
 |_=>false
def zm (o:Oper):Bool:=match o.op with
 | .alloc _=>o.guard.isNone
 | .buildSlice _ _ parts=>o.guard.isNone&&(parts.size !=0&&parts.toList.all fun p=>zB7 p.2)
 |_=>false
def kAt (ks:List KOper) (i:Nat):KOp:=match ks[i]? with|some k=>k.op|none=> .mv (.k (.c .u))
def zBW (ops:Array Oper) (i:Nat) (l:List Bool) (j:Nat):Bool:=match ops[j]? with
 |some o=>o.after.any fun e=>Region.binds .any e&&(e.on==i||l.getD e.on false)
 |none=>false
def zCI (ops:Array Oper) (i:Nat):Nat→List Bool
 |0=>List.replicate ops.size false
 |n+1=>(List.range ops.size).map (zBW ops i (zCI ops i n))
def zDD (ks:List KOper):Nat→Nat→Option Nat
 |0,_=>none
 |m+1,t=>match ks.find? (fun k=>k.dst==some t) with
  |none=>some t
  |some k=>match k.op with
   | .mv (.t y)=>zDD ks m y
   | .faddr _ (.t y)=>zDD ks m y
   |_=>none
def zB8:KOp→Option Nat
 | .store _ (.t n) _=>some n
 | .call false _ (.t n::_)=>some n
 |_=>none
def zGB:KOp→Option Nat
 | .load _ _ _ (.t n)=>some n
 |_=>none
def zIC (ks:List KOper) (j:Nat):Bool:=match ks[j]? with|some k=>k.guard.isSome|none=>true
def zCb (ks:List KOper) (j:Nat):Option Nat:=if zIC ks j=true then none else (zB8 (kAt ks j)).bind (zDD ks ks.length)
def zIg (ops:Array Oper) (ks:List KOper) (ex:Bool) (listed:Array Bool) (i:Nat):Bool:=
 let l:=zCI ops i ops.size
 zg (kAt ks i)&&Region.free .any ops listed i&&
 (List.range ops.size).all (fun j=>!l.getD j false||(zBW ops i l j&&!listed.getD j false))&&
 (!zI9 (kAt ks i)||(List.range ops.size).all fun j=>j==i||listed.getD j true||l.getD j false||zAb (kAt ks j)||(ex&&(zGB (kAt ks i)).isSome&&(zCb ks j).isSome))
def zID (ops:Array Oper) (ks:List KOper) (ex:Bool) (listed:Array Bool) (i:Nat):List KOper:=
 if ex=false then [] else match zGB (kAt ks i) with
  |none=> []
  |some n=>((List.range ops.size).filter fun j=>!(j==i||listed.getD j true||(zCI ops i ops.size).getD j false||zAb (kAt ks j))).filterMap fun j=>(zCb ks j).map fun s=>⟨none,.rel false (.t n) (.t s),none⟩
def zIE (ks:List KOper) (ex:Bool) (i:Nat):List KOper:=
 if ex=false then [] else match zB8 (kAt ks i),zCb ks i with
  |some n,some s=> [⟨none,.rel true (.t n) (.t s),none⟩]
  |_,_=> []
def kq (ks:List KOper) (i:Nat):List KOper:=match ks[i]? with|some k=> [k]|none=> []
def zAC (ops:Array Oper) (listed:Array Bool) (but:Option Nat):Array Bool:=
 ((List.range ops.size).map fun j=>listed.getD j true||(some j !=but&&((ops[j]?).map zm).getD false)).toArray
def zCJ (ops:Array Oper) (ks:List KOper) (ex:Bool):Nat→Array Bool→Option (List KOper)
 |0,listed=>if listed.all id=true then some [] else none
 |n+1,listed=>
  let r:=Region.ready .any ops listed
  match r.find? (zIg ops ks ex listed) with
  |some i=>(zCJ ops ks ex n (listed.setIfInBounds i true)).map fun l=>zID ops ks ex listed i++(kq ks i++l)
  |none=>match (Region.ready .any ops (zAC ops listed none)).filter r.contains with
   | [i]=>if ((Region.ready .any ops (zAC ops listed none)).all (· ==i))=true then (zCJ ops ks ex n (listed.setIfInBounds i true)).map fun l=>zIE ks ex i++(kq ks i++l) else none
   |_=>match r.find? (fun i=>((ops[i]?).map zm).getD false) with
    |some i=>if (Region.ready .any ops (zAC ops listed (some i))).all (fun j=>j==i)=true then (zCJ ops ks ex n (listed.setIfInBounds i true)).map fun l=>kq ks i++l else none
    |none=>none
def zEd (ops:Array Oper) (ks:List KOper):Option (List KOper):=
 match zCJ ops ks false ops.size (Array.replicate ops.size false) with
 |some l=>some l
 |none=>zCJ ops ks true ops.size (Array.replicate ops.size false)
def zBB (ops:Array Oper):Bool:=(List.range ops.size).all fun i=>(List.range ops.size).all fun j=>i==j||match (ops[i]?).bind (·.dst),(ops[j]?).bind (·.dst) with
 |some d,some e=>d !=e
 |_,_=>true
def zDE (ops:Array Oper):List KOper:=(ops.toList.filter zm).map fun o=>⟨o.dst,.mv (.k (.c .u)),none⟩
def zIh (ops:Array Oper):Bool:=(List.range ops.size).all fun i=>match ops[i]? with
 |some o=>o.after.all fun e=>!Region.binds .any e||decide (e.on<i)
 |none=>true
def zHB (ops:Array Oper):Bool:=(List.range ops.size).all fun j=>match ops[j]? with
 |some oj=>(List.range j).all fun i=>oj.after.any (fun e=>Region.binds .any e&&e.on==i)||match ops[i]? with
  |some oi=>oi.apart ops oj
  |none=>true
 |none=>true
def zEe (ops:Array Oper) (ks:List KOper):Bool:=decide (60<ops.size)&&(ks.all (fun k=>zg k.op)&&(zIh ops&&zHB ops))
def zW (P:Program) (h:Hints) (self:FuncId):Code→Option KCode
 | .skip=>some .skip
 | .region _ ops draws=>(zAB P h self ops).bind fun ks=>if draws=true then
   (if P.follows .mixedOrders=true∧Region.noSelect ops=true∧zBB ops=true then if zEe ops ks=true then some (.ops ks) else (zEd ops ks).map fun l=> .ops (zDE ops++l) else none)
  else some (.ops ks)
 | .seq a b=>(zW P h self a).bind fun a=>(zW P h self b).map fun b=> .seq a b
 | .cond c a b=>(kx c).bind fun c=>(zW P h self a).bind fun a=>(zW P h self b).map fun b=> .cond c a b
 | .block id c=>(zW P h self c).map fun c=> .block id c
 | .loop c=>(zW P h self c).map fun c=> .loop 0 [] [] c
 | .exit id=>some (.exit id)
 | .ret=>some .ret
 | .scope c=>zW P h self c
 |_=>none
def zCK (P:Program) (r:ResultVar):Option (Nat⊕(Nat×Bool×Nat)):=
 match r with
 | .tmp t=>some (.inl t)
 | .cell a t=>(zAo P t).map fun g=> .inr (a,g,P.cellsOf t)
def zC3 (P:Program) (h:Hints) (self:FuncId) (fn:Func):Option KFun:=
 fn.body.bind fun b=>(zW P h self b).bind fun c=>(fn.results.toList.mapM (zCK P)).map fun rs=>
  let res:=rs.map fun| .inl t=>t| .inr x=>x.1
  ⟨List.range (fn.params.size+fn.nfree),rs,!h.own.contains self,zAQ res 1 c [] []⟩
def zBX (P:Program) (h:Hints) (self:FuncId) (kf:KFun):Prop:=
 ∃ fn, P.funcs[self]? = some fn ∧ (fn.name == "runtime.NumGoroutine") = false ∧ zC3 P h self fn = some kf ∧ bnd (max fn.ntmps kf.params.length) kf.body = true
end Go.Eng

