import GoSem.Core.Code
import GoSem.Op.IntArith
import GoSem.Op.String
set_option linter.unusedVariables false
namespace Go.Eng
theorem zL {α β:Type _} {x:Option α} {f:α→β} {b:β}:x.map f=some b↔∃a,x=some a∧f a=b:=Option.map_eq_some_iff
theorem zN {α β:Type _} {x:Option α} {f:α→Option β} {b:β}:x.bind f=some b↔∃a,x=some a∧f a=some b:=Option.bind_eq_some_iff
theorem zM {α:Type _} (a b:α):(some a=some b)=(a=b):=Option.some.injEq a b
theorem zb {α:Type _} {l:List α} {i:Nat} (h:i<l.length):l[i]?=some l[i]:=List.getElem?_eq_getElem h
theorem zAQ {α:Type _} {l:List α} (h:l.length=0):l= []:=List.eq_nil_of_length_eq_zero h
theorem zn {α:Type _} {l:List α} {i:Nat} {a:α} (h:l[i]?=some a):a∈l:=List.mem_of_getElem? h
theorem zo {p:Prop} [inst:Decidable p] (h:p):decide p=true:=decide_eq_true h
theorem zAJ {p:Prop} [inst:Decidable p] (h:¬p):decide p=false:=decide_eq_false h
theorem zG {α β:Type _} (a:α) (f:α→Option β):(some a).bind f=f a:=rfl
theorem zLT {a b:ByteArray}:(a++b).size=a.size+b.size:=ByteArray.size_append
inductive PV where
 |b (x:Bool)
 |i (k:IntKind) (n:Int)
 |s (x:ByteArray)
 |nif
 |ifc
 |nl
 |ls (rows:List (List PV))
 |op
 |np
 deriving Inhabited
inductive Cap where
 |p (x:PV)
 |ptr (d t g:Nat)
 |rp (row:List PV)
 deriving Inhabited
def KO:Nat:=1000003
inductive CV where
 |p (x:PV)
 |own (d t g n:Nat)
 |ptr (d t g j o:Nat)
 |rp (row:List PV) (o:Nat)
 |sub (d n g j o m esz:Nat)
 |fn (f:FuncId) (caps:List Cap)
 |nfn
 |u
 deriving Inhabited
inductive AV where
 |c (x:CV)
 |agg (cs:List CV)
 |tup (vs:List (Bool×List CV))
 deriving Inhabited
inductive BK where
 |box (cells:List CV)
 |row (rows:List (List PV))
 |deep (cols:List (Nat×Nat×TypeId)) (rows:List (List PV))--the slices in these cells of an element are own rows too (of so many cells,of this type)
 |dead
 deriving Inhabited
def BK.isRow:BK→Bool
 | .row _| .deep _ _=>true
 |_=>false
structure Blk where
 g:Nat
 sz:Nat
 ty:TypeId
 k:BK
 deriving Inhabited
abbrev Frame:=List (Nat×Blk)
structure St where
 t:List (Nat×AV)
 fr:Frame
 up:List Frame
def look {α:Type} (n:Nat):List (Nat×α)→Option α
 | []=>none
 |(m,a)::r=>if m=n then some a else look n r
def upd {α:Type} (n:Nat) (x:α):List (Nat×α)→List (Nat×α)
 | []=> [(n,x)]
 |(m,a)::r=>if m=n then (m,x)::r else (m,a)::upd n x r
def zB (d n:Nat):List Frame→Option Blk
 | []=>none
 |f::r=>if d=r.length then look n f else zB d n r
def zAD (d n:Nat) (B:Blk):List Frame→List Frame
 | []=> []
 |f::r=>if d=r.length then upd n B f::r else f::zAD d n B r
def St.get (st:St) (d n:Nat):Option Blk:=zB d n (st.fr::st.up)
def St.set (st:St) (d n:Nat) (B:Blk):St:=if d=st.up.length then {st with fr:=upd n B st.fr} else {st with up:=zAD d n B st.up}
inductive KX where
 |t (n:Nat)
 |k (a:AV)
 deriving Inhabited
inductive KOp where
 |mv (x:KX)
 |mvR (x:KX)--an own row moves into the slot that it is assigned to
 |nil (ty sz:Nat) (cols:List (Nat×Nat×TypeId))
 |pick (c a b:KX)
 |box (ty sz:Nat) (x:KX)
 |boxN (ty sz:Nat) (x:KX) (col ety esz:Nat)--a box;the nil slice in its cell col is an empty own row
 |build (zero:List PV) (parts:List (Nat×Nat×KX))
 |bslice (ty sz len:Nat) (cols:List (Nat×Nat×TypeId)) (zero:List PV) (parts:List (Nat×KX))--cols:cells whose slices are not made plain
 |load (agg:Bool) (n:Nat) (kinds:List Nat) (a:KX)
 |store (n:Nat) (a x:KX)
 |storeB (base ety:Nat) (a x:KX)--a builder of texts that is new:its cells are nil or its own address,and an empty row
 |storeN (n base:Nat) (cols:List (Nat×TypeId×Nat)) (a x:KX)--nil slices in some cells become empty own rows
 |chk (x:KX)
 |bin (op:BinOp) (x y:KX)
 |eqs (neg:Bool) (tags:List Nat) (x y:KX)
 |beq (neg:Bool) (x y:KX)
 |inil (neg:Bool) (x:KX)
 |un (op:UnOp) (x:KX)
 |conv (k:IntKind) (x:KX)
 |str (x:KX)
 |toStr (x:KX)
 |mkfn (f:FuncId) (caps:List KX)
 |mksl (ty sz bytes:Nat) (cols:List (Nat×Nat×TypeId)) (zero:List PV) (l c:KX)--cols:cells whose slices will be own rows
 |slcS (x:KX) (lo hi:Option KX)
 |slc (sz:Nat) (x:KX) (lo hi:Option KX)
 |faddr (off:Nat) (x:KX)
 |field (agg:Bool) (off n:Nat) (x:KX)
 |iaddr (sz:Nat) (x i:KX)
 |index (x i:KX)
 |ext (x:KX) (i:Nat)
 |app (ty sz bytes:Nat) (x y:KX)
 |len (str:Bool) (x:KX)
 |mm (max:Bool) (xs:List KX)
 |call (borrow:Bool) (f:KX) (args:List KX)
 |callN (f:KX) (args:List KX)--lent a box with one own row in it
 |rel (same:Bool) (x y:KX)--asked of the state alone:addresses in one block,or not
 deriving Inhabited
structure KOper where
 dst:Option Nat
 op:KOp
 guard:Option (Nat×Bool)
 deriving Inhabited
inductive Ex where
 |normal|exit (id:Nat)|ret
 deriving DecidableEq,Inhabited
inductive KCode where
 |skip
 |ops (l:List KOper)
 |draw (l:List (KOper×List Bool))--any order will do;with each the earlier ones (the last one first) that it must be qHJ apart from
 |seq (a b:KCode)
 |cond (c:KX) (a b:KCode)
 |block (id:Nat) (c:KCode)
 |loop (mk:Nat) (keep:List Nat) (zAC:List (Ex×List Nat)) (c:KCode)
 |exit (id:Nat)
 |ret
 deriving Inhabited
structure KFun where
 params:List Nat--slots of the parameters and of what is captured:0,1,..
 results:List (Nat⊕(Nat×Bool×Nat))--a slot;or a slot that holds an address,aggregate or not,cells
 frozen:Bool
 body:KCode
 nil1:Bool--nil is handed back for nil at once:that is not told in the body
 deriving Inhabited
def PV.weak:PV→PV
 | .nl=> .ls []
 |x=>x
def CV.dep:CV→Nat→Bool--every block that is named lies at depth d or below
 | .own d' _ _ _,d| .ptr d' _ _ _ _,d| .sub d' _ _ _ _ _ _,d=>decide (d'≤d)
 | .fn _ caps,d=>caps.all fun| .ptr d' _ _=>decide (d'≤d)|_=>true
 | .u,_=>false
 |_,_=>true
def AV.cvs:AV→List CV
 | .c x=> [x]
 | .agg cs=>cs
 | .tup vs=>vs.flatMap (·.2)
def AV.map (f:CV→CV):AV→AV
 | .c x=> .c (f x)
 | .agg cs=> .agg (cs.map f)
 | .tup vs=> .tup (vs.map fun (p,cs)=>(p,cs.map f))
def AV.dep (a:AV) (d:Nat):Bool:=a.cvs.all (·.dep d)
def CV.pure:CV→Bool
 | .nfn| .rp _ _=>true
 |_=>false
def CV.known:CV→Bool
 | .u=>false
 |_=>true
def CV.flat:CV→Bool
 | .p (.b _)| .p (.i _ _)| .p (.s _)| .p .nif| .p .ifc=>true
 |_=>false
def St.eval (st:St):KX→AV
 | .t n=>match look n st.t with|some a=>a|none=> .c .u
 | .k a=>a
def zBW:Bool→List CV→Option AV
 |true,cs=>some (.agg cs)
 |false,[x]=>some (.c x)
 |_,_=>none
def zAH (st:St):CV→Option (PV×St)
 | .p x=>some (x.weak,st)
 | .own d n g m=>match st.get d n with
  |some ⟨g',sz,ty,.row rows⟩=>if g=g'∧m=rows.length then some (.ls rows,st.set d n ⟨g+1,sz,ty,.dead⟩) else none
  |_=>none
 |_=>none
def zq (st:St):List CV→Option (List PV×St)
 | []=>some ([],st)
 |x::r=>(zAH st x).bind fun (a,st)=>(zq st r).bind fun (b,st)=>some (a::b,st)
def zDB (st:St):CV→Option (PV×Bool)
 | .p x=>some (x.weak,false)
 | .own d n g m=>match st.get d n with
  |some ⟨g',_,_,.row rows⟩=>if g=g'∧m=rows.length then some (.ls rows,true) else none
  |_=>none
 |_=>none
def zA8 (st:St):List CV→Option (List PV×Bool)
 | []=>some ([],false)
 |x::r=>(zDB st x).bind fun (a,p)=>(zA8 st r).bind fun (b,q)=>some (a::b,p||q)
def zAz (st:St):Cap→Option (Cap×Bool)
 | .ptr d n g=>match st.get d n with
  |some ⟨g',_,_,.box cells⟩=>if g=g' then (zA8 st cells).map fun (r,p)=>(.rp r,p) else none
  |_=>none
 |c=>some (c,false)
def zAK (st:St):List Cap→Option (List Cap×Bool)
 | []=>some ([],false)
 |x::r=>(zAz st x).bind fun (a,p)=>(zAK st r).bind fun (b,q)=>some (a::b,p||q)
def St.subB (st:St) (d n g j o m esz:Nat):Option (TypeId×List (List PV)):=match st.get d n with
 |some ⟨g',sz,_,.deep cols rows⟩=>match look o cols,rows[j]? with
  |some (esz',ety),some e=>match e[o]? with
   |some (.ls inner)=>if g=g'∧esz'=esz∧m=inner.length∧o<sz then some (ety,inner) else none
   |_=>none
  |_,_=>none
 |_=>none
def zAo (st:St):CV→Option (CV×Bool)
 | .own d n g m=>match st.get d n with
  |some ⟨g',_,_,.row rows⟩|some ⟨g',_,_,.deep _ rows⟩=>if g=g'∧m=rows.length then some (.p (.ls rows),true) else none
  |_=>none
 | .sub d n g j o m esz=>(st.subB d n g j o m esz).map fun q=>(.p (.ls q.2),true)
 | .p x=>some (.p x.weak,false)
 | .fn f caps=>(zAK st caps).map fun (l,p)=>(.fn f l,p)
 |x=>if x.pure then some (x,false) else none
def zBy (st:St):List CV→Option (List CV×Bool)
 | []=>some ([],false)
 |x::r=>(zAo st x).bind fun (a,p)=>(zBy st r).bind fun (b,q)=>some (a::b,p||q)
def zBS (st:St):AV→Option (AV×Bool)
 | .c x=>(zAo st x).map fun (a,p)=>(.c a,p)
 | .agg cs=>(zBy st cs).map fun (a,p)=>(.agg a,p)
 | .tup _=>none
def zA9 (st:St):List AV→Option (List AV×Bool)
 | []=>some ([],false)
 |x::r=>(zBS st x).bind fun (a,p)=>(zA9 st r).bind fun (b,q)=>some (a::b,p||q)
def zKn:PV→Nat
 | .ls l=>l.length
 |_=>0
def zAB (d m g j:Nat) (cols:List (Nat×Nat×TypeId)):Nat→List PV→List CV
 |_,[]=> []
 |o,x::r=>(match look o cols with|some q=> .sub d m g j o (zKn x) q.1|none=> .p x)::zAB d m g j cols (o+1) r
def zGa (cols:List (Nat×Nat×TypeId)):Nat→List CV→Option (List PV×Option (Nat×Nat×TypeId×Nat×Nat×Nat×Nat))
 |_,[]=>some ([],none)
 |o,x::r=>(zGa cols (o+1) r).bind fun (l,q)=>match look o cols,x,q with
  |none,.p y,q=>some (y.weak::l,q)
  |some (esz,ety),.own d n g m,none=>some (.nl::l,some (o,esz,ety,d,n,g,m))
  |_,_,_=>none
def St.fresh (st:St) (n:Nat):Nat:=match look n st.fr with|some B=>B.g+1|none=>0
def St.new (st:St) (n sz ty:Nat) (k:BK):CV×St:=(.ptr st.up.length n (st.fresh n) 0 0,{st with fr:=upd n ⟨st.fresh n,sz,ty,k⟩ st.fr})
def zA {α:Type} (l:List α) (o:Nat) (xs:List α):List α:=l.take o++xs++l.drop (o+xs.length)
def St.read (st:St) (a:AV) (n:Nat):Option (List CV):=
 match a with
 | .c (.ptr d m g j o)=>match st.get d m with
  |some ⟨g',sz,_,.box cells⟩=>if g=g'∧j*sz+o+n≤cells.length∧o≠KO then some ((cells.drop (j*sz+o)).take n) else none
  |some ⟨g',_,_,.row rows⟩=>if g=g'∧o≠KO then match rows[j]? with
    |some e=>if o+n≤e.length then some (((e.drop o).take n).map .p) else none
    |none=>none
   else none
  |some ⟨g',_,_,.deep cols rows⟩=>if g=g'∧o≠KO then match rows[j]? with
    |some e=>if o+n≤e.length then some (zAB d m g j cols o ((e.drop o).take n)) else none
    |none=>none
   else none
  |_=>none
 | .c (.rp e o)=>if o+n≤e.length then some (((e.drop o).take n).map .p) else none
 |_=>none
def St.blk (st:St):AV→Option (Option (Nat×Nat))
 | .c (.ptr d n g _ _)=>if (st.get d n).map (·.g)=some g then some (some (d,n)) else none
 | .c (.rp (_::_) _)=>some none
 |_=>none
def St.write (st:St) (a:AV) (xs:List CV):Option St:=
 match a with
 | .c (.ptr d m g j o)=>match st.get d m with
  |some ⟨g',sz,ty,.box cells⟩=>if g=g'∧j*sz+o+xs.length≤cells.length∧xs.all (·.dep d)∧o≠KO then some (st.set d m ⟨g',sz,ty,.box (zA cells (j*sz+o) xs)⟩) else none
  |some ⟨_,_,_,.row _⟩=>(zq st xs).bind fun (ys,st)=>match st.get d m with
   |some ⟨g',sz,ty,.row rows⟩=>if g=g'∧o≠KO then match rows[j]? with
     |some e=>if o+ys.length≤e.length then some (st.set d m ⟨g',sz,ty,.row (rows.set j (zA e o ys))⟩) else none
     |none=>none
    else none
   |_=>none
  |some ⟨g',sz,ty,.deep cols rows⟩=>(zGa cols o xs).bind fun (ys,q)=>if g=g'∧o≠KO then match rows[j]? with
    |some e=>if o+ys.length≤e.length then match q with
      |none=>some (st.set d m ⟨g',sz,ty,.deep cols (rows.set j (zA e o ys))⟩)
      |some (k,esz,ety,d2,n2,g2,m2)=>match st.get d2 n2,e[k]? with
       |some ⟨g2',esz',ety',.row rows2⟩,some .nl=>if g2=g2'∧esz'=esz∧ety'=ety∧m2=rows2.length then
         some ((st.set d2 n2 ⟨g2+1,esz,ety,.dead⟩).set d m ⟨g',sz,ty,.deep cols (rows.set j ((zA e o ys).set k (.ls rows2)))⟩) else none
       |_,_=>none
     else none
    |none=>none
   else none
  |_=>none
 |_=>none
def zFE (op:BinOp) (k:IntKind) (x y:Int):Option PV:=
 match op with
 | .add=>some (.i k (k.wrap (x+y)))
 | .sub=>some (.i k (k.wrap (x-y)))
 | .mul=>some (.i k (k.wrap (x*y)))
 | .quo=>if y=0 then none else some (.i k (k.wrap (x.tdiv y)))
 | .rem=>if y=0 then none else some (.i k (x.tmod y))
 | .shl=>if y<0 then none else some (.i k (k.wrap (x*2^min y.toNat k.bits)))
 | .shr=>if y<0 then none else some (.i k (x.fdiv (2^min y.toNat k.bits)))
 | .and=>some (.i k (k.wrap (BitVec.ofInt k.bits x&&&BitVec.ofInt k.bits y).toNat))
 | .or=>some (.i k (k.wrap (BitVec.ofInt k.bits x|||BitVec.ofInt k.bits y).toNat))
 | .xor=>some (.i k (k.wrap (BitVec.ofInt k.bits x^^^BitVec.ofInt k.bits y).toNat))
 | .eql=>some (.b (x==y))
 | .neq=>some (.b (x !=y))
 | .lss=>some (.b (decide (x<y)))
 | .leq=>some (.b (decide (x≤y)))
 | .gtr=>some (.b (decide (x>y)))
 | .geq=>some (.b (decide (x≥y)))
 |_=>none
def zIU (op:BinOp) (x y:ByteArray):Option PV:=
 match op with
 | .add=>if x.size+y.size≤9223372036854775807 then some (.s (x++y)) else none
 | .eql=>some (.b (x.toList==y.toList))
 | .neq=>some (.b (!(x.toList==y.toList)))
 | .lss=>some (.b (Op.bytesLess x.toList y.toList))
 | .leq=>some (.b (Op.bytesLess x.toList y.toList||x.toList==y.toList))
 | .gtr=>some (.b (!(Op.bytesLess x.toList y.toList||x.toList==y.toList)))
 | .geq=>some (.b (!(Op.bytesLess x.toList y.toList)))
 |_=>none
def zGb (op:BinOp):PV→PV→Option PV
 | .i k x,.i k' y=>if k=k' then zFE op k x y else none
 | .s x,.s y=>zIU op x y
 |_,_=>none
def eqP:Nat→PV→PV→Option Bool
 |0,.b x,.b y=>some (x==y)
 |1,.i k x,.i k' y=>if k=k' then some (x==y) else none
 |2,.s x,.s y=>some (x.toList==y.toList)
 |_,_,_=>none
def eqC:List Nat→List CV→List CV→Option Bool
 | [],[],[]=>some true
 |t::l,.p x::r,.p y::q=>(eqP t x y).bind fun e=>(eqC l r q).map fun f=>(e&&f)
 |_,_,_=>none
def unP (op:UnOp):PV→Option PV
 | .b x=>match op with| .not=>some (.b (!x))|_=>none
 | .i k n=>match op with| .neg=>some (.i k (k.wrap (0-n)))|_=>none
 |_=>none
def zAZ:AV→Option Int
 | .c (.p (.i .i64 n))=>some n
 |_=>none
def bytesOf:List (List PV)→Option (List UInt8)
 | []=>some []
 | [.i .u8 n]::r=>(bytesOf r).map (UInt8.ofNat n.toNat:: ·)
 |_=>none
def St.rows (st:St):AV→Option (List (List PV))
 | .c (.p .nl)=>some []
 | .c (.p (.ls rows))=>some rows
 | .c (.own d n g m)=>match st.get d n with
  |some ⟨g',_,_,.row rows⟩=>if g=g'∧m=rows.length then some rows else none
  |_=>none
 |_=>none
def zBX:List AV→Option (List Cap)
 | []=>some []
 | .c (.p x)::r=>(zBX r).map (.p x.weak:: ·)
 | .c (.ptr d n g 0 0)::r=>(zBX r).map (.ptr d n g:: ·)
 | .c (.rp row 0)::r=>(zBX r).map (.rp row:: ·)
 |_=>none
def Cap.av:Cap→AV
 | .p x=> .c (.p x)
 | .ptr d n g=> .c (.ptr d n g 0 0)
 | .rp row=> .c (.rp row 0)
def zCN (zero:List CV):List (Nat×Nat×AV)→Option (List CV)
 | []=>some zero
 |(off,n,a)::r=>match a with
  | .tup _=>none
  |a=>if a.cvs.length=n∧off+n≤zero.length∧a.cvs.all (·.known)=true then zCN (zA zero off a.cvs) r else none
def zAL (rows:List (List CV)) (sz:Nat):List (Nat×AV)→Option (List (List CV))
 | []=>some rows
 |(j,a)::r=>match a with
  | .tup _=>none
  |a=>if a.cvs.length=sz∧j<rows.length∧a.cvs.all (·.known)=true then zAL (rows.set j a.cvs) sz r else none
def zZ (st:St):List (List CV)→Option (List (List PV)×St)
 | []=>some ([],st)
 |x::r=>(zq st x).bind fun (a,st)=>(zZ st r).bind fun (b,st)=>some (a::b,st)
def St.bound (st:St) (d:Int):Option KX→Option Int
 |none=>some d
 |some x=>zAZ (st.eval x)
def zB6 (mx:Bool):List AV→Option Int
 | []=>none
 |a::r=>(zAZ a).bind fun x=>go mx x r
where go (mx:Bool) (x:Int):List AV→Option Int
 | []=>some x
 |a::r=>(zAZ a).bind fun y=>go mx (if mx then (if y>x then y else x) else (if y<x then y else x)) r
def zHr:Option CV→Bool
 |some (.p .nl)=>true
 |_=>false
def zS (base:Nat):List (Nat×TypeId×Nat)→Nat→List CV→St→List CV×St
 | [],_,cs,st=>(cs,st)
 |(col,ty,sz)::r,i,cs,st=>if zHr (cs[col]?)=true then zS base r (i+1) (cs.set col (.own st.up.length (base+i) (st.fresh (base+i)) 0)) (st.new (base+i) sz ty (.row [])).2
  else zS base r (i+1) cs st
structure Res where
 v:AV
 up:List Frame
 rows:List Blk
abbrev zh:=FuncId→List AV→List Frame→Option Res
def z9 (fr:Frame) (n:Nat):Nat:=match look n fr with|some B=>B.g+1|none=>0
def z7 (d n:Nat) (fr:Frame):CV→CV
 | .own _ i _ m=> .own d (n*64+40+i) (z9 fr (n*64+40+i)) m
 | .ptr _ i _ _ _=> .ptr d (n*64+40+i) (z9 fr (n*64+40+i)) 0 0
 |x=>x
def zu (n:Nat):List Blk→Nat→Frame→Frame
 | [],_,fr=>fr
 |B::r,i,fr=>zu n r (i+1) (upd (n*64+40+i) {B with g:=z9 fr (n*64+40+i)} fr)
def zGc:List CV→Option (List CV)
 | []=>some []
 | .p x::r=>(zGc r).map (.p x.weak:: ·)
 |_::_=>none
def PV.opq:PV→Bool
 | .op=>true
 |_=>false
def zCq:AV→Option AV
 | .c (.p x)=>if x.opq=true then none else some (.c (.p x.weak))
 | .agg cs=>(zGc cs).map .agg
 |_=>none
def zCO:List AV→Option (List AV)
 | []=>some []
 |a::r=>(zCq a).bind fun a=>(zCO r).map (a:: ·)
def isP:CV→Bool
 | .p _=>true
 |_=>false
def zBA (st:St):AV→Option (AV×Nat×Nat×Option (Nat×Nat)×Blk)
 | .c (.own d n g m)=>match st.get d n with
  |some ⟨g',sz,ty,.row rows⟩=>if g=g'∧m=rows.length then some (.c (.own 0 0 0 m),d,n,none,⟨0,sz,ty,.row rows⟩) else none
  |some ⟨g',sz,ty,.deep cols rows⟩=>if g=g'∧m=rows.length then some (.c (.own 0 0 0 m),d,n,none,⟨0,sz,ty,.deep cols rows⟩) else none
  |_=>none
 | .c (.sub d n g j o m esz)=>(st.subB d n g j o m esz).map fun q=>(.c (.own 0 0 0 m),d,n,some (j,o),⟨0,esz,q.1,.row q.2⟩)
 | .c (.ptr d n g 0 0)=>match st.get d n with
  |some ⟨g',sz,ty,.box cells⟩=>if g=g'∧cells.all isP=true then some (.c (.ptr 0 0 0 0 0),d,n,none,⟨0,sz,ty,.box cells⟩) else none
  |_=>none
 |_=>none
def zAp (st:St):List AV→Option (List AV×Nat×Nat×Option (Nat×Nat)×Blk)
 | []=>none
 |a::r=>match zBA st a with
  |some (a,q)=>(zCO r).map fun r=>(a::r,q)
  |none=>(zCq a).bind fun a=>(zAp st r).map fun (r,q)=>(a::r,q)
def okM:BK→BK→Bool
 | .row _,.row _=>true
 | .deep cols _,.deep cols' _=>decide (cols=cols')
 | .box _,.box cells=>cells.all isP
 |_,_=>false
def zBY (st:St) (dst d n:Nat) (q:Option (Nat×Nat)) (B:Blk) (r:Res):Option (AV×St):=
 match q with
 |some (j,o)=>match r.up with
  | [fr']=>match look 0 fr',st.get d n,B.k with
   |some ⟨0,sz',ty',.row inner'⟩,some ⟨g,sz,ty,.deep cols rows⟩,.row inner=>match rows[j]? with
    |some e=>if ty'=B.ty∧sz'=B.sz∧r.rows.isEmpty=true∧r.v.cvs.all isP=true∧inner'.length=inner.length then
      some (r.v.map (z7 st.up.length dst st.fr),st.set d n ⟨g,sz,ty,.deep cols (rows.set j (e.set o (.ls inner')))⟩) else none
    |none=>none
   |_,_,_=>none
  |_=>none
 |none=>match r.up with
 | [fr']=>match look 0 fr',st.get d n with
  |some B',some B0=>if B'.g=0∧B'.ty=B0.ty∧B'.sz=B0.sz∧r.rows.isEmpty=true∧r.v.cvs.all isP=true∧okM B.k B'.k=true then some (r.v.map (z7 st.up.length dst st.fr),st.set d n {B0 with k:=B'.k}) else none
  |_,_=>none
 |_=>none
def zBT (d0 n0 g0:Nat):List CV→Option (List CV×Nat×Nat×Nat×Nat)
 | []=>none
 | .p x::r=>(zBT d0 n0 g0 r).map fun (l,q)=>(.p x::l,q)
 | .ptr d n g j o::r=>if d=d0∧n=n0∧g=g0∧j=0∧o=KO then (zBT d0 n0 g0 r).map fun (l,q)=>(.ptr 0 0 0 0 KO::l,q) else none
 | .own d n g m::r=>if r.all isP=true then some (.own 0 1 1 m::r,d,n,g,m) else none
 |_::_=>none
def zCP (st:St):AV→Option (AV×(Nat×Nat×Blk)×Nat×Nat×Blk)
 | .c (.ptr d n g 0 0)=>match st.get d n with
  |some ⟨g',sz,ty,.box cells⟩=>(zBT d n g cells).bind fun (l,d2,n2,g2,m2)=>match st.get d2 n2 with
   |some ⟨g2',sz2,ty2,.row rows⟩=>if g=g'∧g2=g2' then some (.c (.ptr 0 0 0 0 0),(d,n,⟨0,sz,ty,.box l⟩),d2,n2,⟨1,sz2,ty2,.row rows⟩) else none
   |_=>none
  |_=>none
 |_=>none
def z8 (st:St):AV→Option (AV×St)
 | .c x=>(zAH st x).map fun (a,st)=>(.c (.p a),st)
 | .agg cs=>(zq st cs).map fun (l,st)=>(.agg (l.map .p),st)
 | .tup _=>none
def zw (st:St):List AV→Option (List AV×St)
 | []=>some ([],st)
 |x::r=>(z8 st x).bind fun (a,st)=>(zw st r).map fun (l,st)=>(a::l,st)
def zDi (d0 n0 g0 d n g:Nat) (g1:Nat):List CV→Option (List CV)
 | []=>some []
 | .p x::r=>(zDi d0 n0 g0 d n g g1 r).map (.p x:: ·)
 | .own 0 1 g' m::r=>if g'=g1 then (zDi d0 n0 g0 d n g g1 r).map (.own d n g m:: ·) else none
 | .ptr 0 0 0 0 o::r=>if o=KO then (zDi d0 n0 g0 d n g g1 r).map (.ptr d0 n0 g0 0 KO:: ·) else none
 |_::_=>none
def zDC (st:St) (q q2:Nat×Nat×Blk) (r:Res):Option (AV×St):=
 match r.up with
 | [fr']=>match look 0 fr',look 1 fr',st.get q.1 q.2.1,st.get q2.1 q2.2.1 with
  |some ⟨0,sz,ty,.box cells⟩,some ⟨g1,sz2,ty2,.row rows⟩,some B0,some R0=>
   if sz=B0.sz∧ty=B0.ty∧r.rows.isEmpty=true∧r.v.cvs.all isP=true then
    (zDi q.1 q.2.1 B0.g q2.1 q2.2.1 (R0.g+1) g1 cells).map fun l=>(r.v,(st.set q2.1 q2.2.1 ⟨R0.g+1,sz2,ty2,.row rows⟩).set q.1 q.2.1 {B0 with k:= .box l})
   else none
  |_,_,_,_=>none
 |_=>none
def callN (run:zh) (st:St) (f:FuncId):List AV→Option (AV×St)
 |a::r=>(zw st r).bind fun (r,st)=>(zCP st a).bind fun (a,q,q2)=>(run f (a::r) [[(0,q.2.2),(1,q2.2.2)]]).bind fun res=>zDC st q q2 res
 | []=>none
def zDj (cols:List (Nat×Nat×TypeId)):Nat→List PV→Bool
 |_,[]=>true
 |o,x::r=>(match look o cols with|some _=>(match x with| .nl=>true| .ls l=>l.all fun e=>e.all fun y=>(CV.p y).flat|_=>false)|none=>(CV.p x).flat)&&zDj cols (o+1) r
def zEZ (B:Blk):Bool:=match B.k with
 | .row rows=>rows.all fun e=>e.all fun x=>(CV.p x).flat
 | .deep cols rows=>rows.all fun e=>zDj cols 0 e
 |_=>false
def zHD:CV→Bool
 | .own ..=>true
 |x=>x.flat
def zc (r:Res):Bool:=r.v.cvs.all zHD&&r.rows.all zEZ
def zJy:CV→Bool
 | .own _ 0 _ _| .ptr _ 0 _ _ _=>true
 | .own ..| .ptr ..=>false
 |_=>true
def zCr (r:Res):Bool:=(match r.rows with| []| [_]=>true|_=>false)&&r.v.cvs.all zJy
def zAq (run:zh) (st:St) (dst:Nat) (borrow:Bool) (f:FuncId) (args:List AV):Option (AV×St):=
 if borrow then
  (zA9 st args).bind fun (args',lent)=>(run f args' []).bind fun r=>
   if (lent=false∨zc r=true)∧zCr r=true then some (r.v.map (z7 st.up.length dst st.fr),{st with fr:=zu dst r.rows 0 st.fr}) else none
 else
  (zAp st args).bind fun (args',d,n,q,B)=>(run f args' [[(0,B)]]).bind fun r=>zBY st dst d n q B r
def zIV (cols:List (Nat×Nat×TypeId)) (zero:List PV):Bool:=cols.all fun q=>zHr ((zero[q.1]?).map .p)
def zDk (cols:List (Nat×Nat×TypeId)) (rows:List (List PV)):BK:=if cols.isEmpty=true then .row rows else .deep cols rows
def frz (cols:List (Nat×Nat×TypeId)) (len:Nat) (st:St) (rows:List (List CV)):Option (List (List PV)×St):=if cols.isEmpty=true∨len=0 then zZ st rows else none
def bsK (cols:List (Nat×Nat×TypeId)) (len:Nat) (rs:List (List PV)):BK:=if len=0 then zDk cols rs else .row rs
def zAS (zero:List PV) (n:Nat):List (List PV):=List.replicate n zero
def zFF (cols:List (Nat×Nat×TypeId)):Nat→List CV→Option (List PV×Option (Nat×Nat×TypeId×Nat×Nat×Nat×Nat))
 |_,[]=>some ([],none)
 |o,x::r=>(zFF cols (o+1) r).bind fun (l,q)=>match look o cols,x,q with
  |none,.p y,q=>some (y.weak::l,q)
  |some _,.p .nl,q=>some (.ls []::l,q)
  |some (esz,ety),.own d n g m,none=>some (.nl::l,some (o,esz,ety,d,n,g,m))
  |_,_,_=>none
def zEX (st:St) (d n g m ty sz bytes:Nat) (y:AV):Option (AV×St):=match y with
 | .c (.own d2 n2 g2 m2)=>match st.get d n,st.get d2 n2 with
  |some ⟨g',sz',ty',.deep cols rows⟩,some ⟨g2',_,_,.box cells⟩=>
   if g=g'∧sz'=sz∧ty'=ty∧g2=g2'∧m2=1∧cells.length=sz∧0<sz∧0<bytes∧m=rows.length∧(m+1)*bytes≤140737488355328 then
    (zFF cols 0 cells).bind fun (ys,q)=>match q with
     |none=>some (.c (.own d n (g+1) (m+1)),st.set d n ⟨g+1,sz,ty,.deep cols (rows++ [ys])⟩)
     |some (k,esz,ety,d3,n3,g3,m3)=>match st.get d3 n3 with
      |some ⟨g3',esz',ety',.row rows3⟩=>if g3=g3'∧esz'=esz∧ety'=ety∧m3=rows3.length then
        some (.c (.own d n (g+1) (m+1)),(st.set d3 n3 ⟨g3+1,esz,ety,.dead⟩).set d n ⟨g+1,sz,ty,.deep cols (rows++ [ys.set k (.ls rows3)])⟩) else none
      |_=>none
   else none
  |_,_=>none
 |_=>none
def zC (run:zh) (st:St) (dst:Nat):KOp→Option (AV×St)
 | .mv x=>some (st.eval x,st)
 | .mvR x=>match st.eval x with
  | .c (.own d n g m)=>if d=st.up.length∧n≠dst*64 then (match st.get d n with
    |some ⟨g',sz,ty,k⟩=>if g=g'∧k.isRow=true then
      some (.c (.own st.up.length (dst*64) ((st.set d n ⟨g+1,sz,ty,.dead⟩).fresh (dst*64)) m),((st.set d n ⟨g+1,sz,ty,.dead⟩).new (dst*64) sz ty k).2) else none
    |none=>none) else some (.c (.own d n g m),st)
  |v=>some (v,st)
 | .nil ty sz cols=>some (.c (.own st.up.length (dst*64) (st.fresh (dst*64)) 0),(st.new (dst*64) sz ty (zDk cols [])).2)
 | .pick c a b=>match st.eval c with
  | .c (.p (.b x))=>some (if x then st.eval a else st.eval b,st)
  |_=>none
 | .box ty sz x=>match st.eval x with
  | .tup _=>none
  |a=>if a.cvs.length=sz∧a.dep st.up.length=true then some (.c (st.new (dst*64) sz ty (.box a.cvs)).1,(st.new (dst*64) sz ty (.box a.cvs)).2) else none
 | .boxN ty sz x col ety esz=>match st.eval x with
  | .tup _=>none
  |a=>if a.cvs.length=sz∧zHr (a.cvs[col]?)=true∧a.dep st.up.length=true then
    some (.c ((st.new (dst*64+1) esz ety (.row [])).2.new (dst*64) sz ty (.box (a.cvs.set col (.own st.up.length (dst*64+1) (st.fresh (dst*64+1)) 0)))).1,
     ((st.new (dst*64+1) esz ety (.row [])).2.new (dst*64) sz ty (.box (a.cvs.set col (.own st.up.length (dst*64+1) (st.fresh (dst*64+1)) 0)))).2) else none
 | .build zero parts=>(zCN (zero.map .p) (parts.map fun (o,n,x)=>(o,n,st.eval x))).map fun cs=>(.agg cs,st)
 | .bslice ty sz len cols zero parts=>(zAL ((List.replicate len zero).map (·.map .p)) sz (parts.map fun (j,x)=>(j,st.eval x))).bind fun rows=>
   match frz cols len st rows with
   |some (rs,st)=>some (.c (.own st.up.length (dst*64) (st.fresh (dst*64)) len),(st.new (dst*64) sz ty (bsK cols len rs)).2)
   |none=>if (rows.flatten).all (·.dep st.up.length)=true then some (.c (.own st.up.length (dst*64) (st.fresh (dst*64)) len),(st.new (dst*64) sz ty (.box rows.flatten)).2) else none
 | .load g n _ a=>(st.read (st.eval a) n).bind fun cs=>(zBW g cs).map fun v=>(v,st)
 | .store n a x=>match st.eval x with
  | .tup _=>none
  |v=>if v.cvs.length=n∧v.cvs.all (·.known)=true then (st.write (st.eval a) v.cvs).map fun st=>(.c .u,st) else none
 | .storeN n base cols a x=>match st.eval x with
  | .tup _=>none
  |v=>if v.cvs.length=n∧v.cvs.all (·.known)=true then ((zS base cols 1 v.cvs st).2.write (st.eval a) (zS base cols 1 v.cvs st).1).map fun st=>(.c .u,st) else none
 | .storeB base ety a x=>match st.eval a,st.eval x with
  | .c (.ptr d n g 0 0),.agg [.p .np,.p .nl]=>((zS base [(1,ety,1)] 1 [.p .np,.p .nl] st).2.write (.c (.ptr d n g 0 0)) ((zS base [(1,ety,1)] 1 [.p .np,.p .nl] st).1.set 0 (.ptr d n g 0 KO))).map fun st=>(.c .u,st)
  |_,_=>none
 | .chk x=>match st.eval x with
  | .c (.ptr d n g j o)=>if (st.get d n).map (·.g)=some g∧o≠KO then some (.c (.ptr d n g j o),st) else none
  | .c (.rp e o)=>some (.c (.rp e o),st)
  | .c (.fn f cs)=>some (.c (.fn f cs),st)
  |_=>none
 | .bin op x y=>match st.eval x,st.eval y with
  | .c (.p a),.c (.p b)=>(zGb op a b).map fun r=>(.c (.p r),st)
  |_,_=>none
 | .eqs neg tags x y=>match st.eval x,st.eval y with
  | .agg a,.agg b=>(eqC tags a b).map fun r=>(.c (.p (.b (if neg then !r else r))),st)
  |_,_=>none
 | .beq neg x y=>match st.eval x,st.eval y with
  | .c (.p (.b a)),.c (.p (.b b))=>some (.c (.p (.b (if neg then !(a==b) else a==b))),st)
  |_,_=>none
 | .inil neg x=>match st.eval x with
  | .c (.p .nif)=>some (.c (.p (.b (!neg))),st)
  | .c (.p .ifc)=>some (.c (.p (.b neg)),st)
  |_=>none
 | .un op x=>match st.eval x with
  | .c (.p a)=>(unP op a).map fun r=>(.c (.p r),st)
  |_=>none
 | .conv k x=>match st.eval x with
  | .c (.p (.i _ n))=>some (.c (.p (.i k (k.wrap n))),st)
  |_=>none
 | .str x=>match st.eval x with
  | .c (.p (.s s))=>some (.c (.p (.s s)),st)
  |_=>none
 | .toStr x=>(st.rows (st.eval x)).bind fun rows=>(bytesOf rows).map fun l=>(.c (.p (.s ⟨l.toArray⟩)),st)
 | .mkfn f caps=>(zBX (caps.map st.eval)).map fun cs=>(.c (.fn f cs),st)
 | .mksl ty sz bytes cols zero l c=>(zAZ (st.eval l)).bind fun l=>(zAZ (st.eval c)).bind fun c=>
   if 0≤l∧l=c∧bytes*l≤140737488355328∧l≤9223372036854775807∧zero.length=sz∧zIV cols zero=true then
    some (.c (.own st.up.length (dst*64) (st.fresh (dst*64)) l.toNat),(st.new (dst*64) sz ty (zDk cols (zAS zero l.toNat))).2) else none
 | .slcS x lo hi=>match st.eval x with
  | .c (.p (.s s))=>
   (st.bound 0 lo).bind fun l=>(st.bound s.size hi).bind fun h=>
    if 0≤l∧l≤h∧h≤s.size then some (.c (.p (.s (s.extract l.toNat h.toNat))),st) else none
  |_=>none
 | .slc sz x lo hi=>match st.eval x with
  | .c (.p (.ls rows))=>
   (st.bound 0 lo).bind fun l=>(st.bound rows.length hi).bind fun h=>
    if 0≤l∧l≤h∧h≤rows.length∧rows.all (fun e=>e.length==sz)=true then some (.c (.p (.ls ((rows.take h.toNat).drop l.toNat))),st) else none
  |_=>none
 | .faddr off x=>match st.eval x with
  | .c (.ptr d n g j o)=>if (st.get d n).map (·.g)=some g∧o≠KO∧o+off≠KO then some (.c (.ptr d n g j (o+off)),st) else none
  | .c (.rp e o)=>some (.c (.rp e (o+off)),st)
  |_=>none
 | .field g off n x=>match st.eval x with
  | .agg cs=>if off+n≤cs.length then (zBW g ((cs.drop off).take n)).map fun v=>(v,st) else none
  |_=>none
 | .iaddr sz x i=>(zAZ (st.eval i)).bind fun i=>match st.eval x with
  | .c (.p (.ls rows))=>if 0≤i∧i<rows.length then match rows[i.toNat]? with
    |some e=>if e.length=sz then some (.c (.rp e 0),st) else none
    |none=>none
   else none
  | .c (.own d n g m)=>match st.get d n with
   |some ⟨g',sz',_,.row rows⟩=>if g=g'∧sz'=sz∧m=rows.length∧0≤i∧i<m then some (.c (.ptr d n g i.toNat 0),st) else none
   |some ⟨g',sz',_,.deep _ rows⟩=>if g=g'∧sz'=sz∧m=rows.length∧0≤i∧i<m then some (.c (.ptr d n g i.toNat 0),st) else none
   |some ⟨g',sz',_,.box cells⟩=>if g=g'∧sz'=sz∧m*sz=cells.length∧0≤i∧i<m then some (.c (.ptr d n g i.toNat 0),st) else none
   |_=>none
  |_=>none
 | .index x i=>(zAZ (st.eval i)).bind fun i=>match st.eval x with
  | .c (.p (.s s))=>if 0≤i then (match s.toList[i.toNat]? with|some c=>some (.c (.p (.i .u8 c.toNat)),st)|none=>none) else none
  |_=>none
 | .ext x i=>match st.eval x with
  | .tup vs=>match vs[i]? with
   |some (g,cs)=>(zBW g cs).map fun v=>(v,st)
   |none=>none
  |_=>none
 | .app ty sz bytes x y=>match st.eval x,st.rows (st.eval y) with
  | .c (.p .nl),some ys=>if 0<sz∧0<bytes∧ys.length*bytes≤140737488355328∧ys.all (fun e=>e.length==sz)=true then
    some (.c (.own st.up.length (dst*64) (st.fresh (dst*64)) ys.length),(st.new (dst*64) sz ty (.row ys)).2) else none
  | .c (.own d n g m),some ys=>match st.get d n with
   |some ⟨g',sz',ty',.row rows⟩=>if g=g'∧sz'=sz∧ty'=ty∧m=rows.length∧0<sz∧0<bytes∧(m+ys.length)*bytes≤140737488355328∧ys.all (fun e=>e.length==sz)=true then
     some (.c (.own d n (g+1) (m+ys.length)),st.set d n ⟨g+1,sz,ty,.row (rows++ys)⟩) else none
   |_=>none
  | .c (.own d n g m),none=>zEX st d n g m ty sz bytes (st.eval y)
  |_,_=>none
 | .len true x=>match st.eval x with
  | .c (.p (.s s))=>some (.c (.p (.i .i64 s.size)),st)
  |_=>none
 | .len false x=>match st.eval x with
  | .c (.p .nl)=>some (.c (.p (.i .i64 0)),st)
  | .c (.p (.ls rows))=>some (.c (.p (.i .i64 rows.length)),st)
  | .c (.own d n g m)=>if (st.get d n).map (·.g)=some g then some (.c (.p (.i .i64 m)),st) else none
  | .c (.sub d n g _ _ m _)=>if (st.get d n).map (·.g)=some g then some (.c (.p (.i .i64 m)),st) else none
  |_=>none
 | .mm mx xs=>(zB6 mx (xs.map st.eval)).map fun r=>(.c (.p (.i .i64 r)),st)
 | .call borrow f args=>match st.eval f with
  | .c (.fn f caps)=>zAq run st dst borrow f (args.map st.eval++caps.map Cap.av)
  |_=>none
 | .callN f args=>match st.eval f with
  | .c (.fn f caps)=>callN run st f (args.map st.eval++caps.map Cap.av)
  |_=>none
 | .rel same x y=>match st.blk (st.eval x),st.blk (st.eval y) with
  |some p,some (some q)=>if (p==some q)=same then some (.tup [],st) else none
  |_,_=>none
def zAy (t:List (Nat×AV)):Option Nat→AV→List (Nat×AV)
 |some n,a=>(n,a)::t
 |none,_=>t
def zQ (run:zh) (st:St) (o:KOper):Option St:=
 match o.guard with
 |none=>(zC run st (o.dst.getD 0) o.op).map fun (a,st)=>{st with t:=zAy st.t o.dst a}
 |some (j,want)=>match look j st.t with
  |some (.c (.p (.b x)))=>if x=want then (zC run st (o.dst.getD 0) o.op).map fun (a,st)=>{st with t:=zAy st.t o.dst a} else some {st with t:=zAy st.t o.dst (.tup [])}
  |some (.tup [])=>some {st with t:=zAy st.t o.dst (.tup [])}
  |_=>none
def zA0 (run:zh):List KOper→St→Option St
 | [],st=>some st
 |o::r,st=>(zQ run st o).bind (zA0 run r)
def KX.uses:KX→List Nat
 | .t n=> [n]
 | .k _=> []
def KOp.uses:KOp→List Nat
 | .mv x| .mvR x| .inil _ x| .box _ _ x| .load _ _ _ x| .chk x| .un _ x| .conv _ x| .str x| .toStr x| .faddr _ x| .field _ _ _ x| .ext x _| .len _ x=>x.uses
 | .pick a b c=>a.uses++b.uses++c.uses
 | .nil _ _ _=> []
 | .boxN _ _ x _ _ _=>x.uses
 | .storeN _ _ _ a x| .storeB _ _ a x=>a.uses++x.uses
 | .build _ ps=>ps.flatMap fun p=>p.2.2.uses
 | .bslice _ _ _ _ _ ps=>ps.flatMap fun p=>p.2.uses
 | .rel _ a x| .store _ a x| .bin _ a x| .eqs _ _ a x| .beq _ a x| .mksl _ _ _ _ _ a x| .iaddr _ a x| .index a x| .app _ _ _ a x=>a.uses++x.uses
 | .mkfn _ xs| .mm _ xs=>xs.flatMap KX.uses
 | .slcS x l h| .slc _ x l h=>x.uses++(match l with|some l=>l.uses|none=> [])++(match h with|some h=>h.uses|none=> [])
 | .callN f xs| .call _ f xs=>f.uses++xs.flatMap KX.uses
def KOper.rd (o:KOper):List Nat:=(match o.guard with|some (t,_)=> [t]|none=> [])++o.op.uses
def Cap.refs:Cap→List (Nat×Nat)
 | .ptr d n _=> [(d,n)]
 |_=> []
def CV.refs:CV→List (Nat×Nat)
 | .own d n _ _| .ptr d n _ _ _| .sub d n _ _ _ _ _=> [(d,n)]
 | .fn _ caps=>caps.flatMap Cap.refs
 |_=> []
def AV.refs (a:AV):List (Nat×Nat):=a.cvs.flatMap CV.refs
def St.refs (st:St) (x:KX):List (Nat×Nat):=(st.eval x).refs
def St.within (st:St) (p:Nat×Nat):List (Nat×Nat):=match st.get p.1 p.2 with
 |some ⟨_,_,_,.box cells⟩=>cells.flatMap CV.refs
 |_=> []
def rtO (st:St):KOp→List (Nat×Nat)
 | .load _ _ _ a| .chk a| .faddr _ a| .iaddr _ a _| .len _ a| .toStr a=>st.refs a
 | .rel _ x y=>st.refs x++st.refs y
 | .app _ _ _ _ y=>st.refs y
 | .call true f args=>(f::args).flatMap st.refs++((f::args).flatMap st.refs).flatMap st.within
 |_=> []
def wtO (st:St) (dst:Nat):KOp→List (Nat×Nat)
 | .mvR x=>(st.up.length,dst*64)::st.refs x
 | .nil ..| .box ..| .mksl ..=> [(st.up.length,dst*64)]
 | .boxN ..=> [(st.up.length,dst*64),(st.up.length,dst*64+1)]
 | .bslice _ _ _ _ _ ps=>(st.up.length,dst*64)::ps.flatMap fun p=>st.refs p.2
 | .store _ a x=>st.refs a++st.refs x
 | .storeB base _ a x=>(st.refs a++st.refs x)++ [(st.up.length,base+1)]
 | .storeN _ base cols a x=>(st.refs a++st.refs x)++(List.range cols.length).map fun i=>(st.up.length,base+(i+1))
 | .app _ _ _ x y=>(st.up.length,dst*64)::(st.refs x++(st.refs y).flatMap st.within)
 | .call true _ _=> [(st.up.length,dst*64+40)]
 | .call false f args=>(f::args).flatMap st.refs
 | .callN f args=>(f::args).flatMap st.refs++((f::args).flatMap st.refs).flatMap st.within
 |_=> []
abbrev Tch:=List (Nat×Nat)×List (Nat×Nat)
def tch (st:St) (o:KOper):Tch:=(rtO st o.op,wtO st (o.dst.getD 0) o.op)
def zFi (p:Nat×Nat):List (Nat×Nat)→Bool
 | []=>false
 |q::r=>(p.1==q.1&&p.2==q.2)||zFi p r
def apM (a b:Tch):Bool:=a.2.all (fun p=>!zFi p b.1&&!zFi p b.2)&&b.2.all fun p=>!zFi p a.1
def zIW:List Bool→List Tch→Tch→Bool
 | [],[],_=>true
 |b::bs,t::ts,x=>(!b||apM t x)&&zIW bs ts x
 |_,_,_=>false
def zDl (run:zh):List (KOper×List Bool)→List Tch→St→Option St
 | [],_,st=>some st
 |(o,bs)::r,ts,st=>if zIW bs ts (tch st o)=true then (zQ run st o).bind (zDl run r (tch st o::ts)) else none
def zDD (d:Nat) (fr:Frame) (keepB:List Nat):CV→CV
 | .own d' n g m=>if d'=d then (match look n fr with|some B=>if B.g=g∧keepB.contains n=true then .own d n 0 m else .u|none=> .u) else .own d' n g m
 | .ptr d' n g j o=>if d'=d then (match look n fr with|some B=>if B.g=g∧keepB.contains n=true then .ptr d n 0 j o else .u|none=> .u) else .ptr d' n g j o
 | .fn f caps=>if caps.all (fun| .ptr d' _ _=>decide (d'≠d)|_=>true)=true then .fn f caps else .u
 | .sub d' n g j o m esz=>if d'=d then .u else .sub d' n g j o m esz
 |x=>x
def zIX (d:Nat) (fr:Frame) (keepB:List Nat) (a:AV):AV:=a.map (zDD d fr keepB)
def zDm (d:Nat) (fr:Frame) (keepB:List Nat) (B:Blk):Blk:=
 match B.k with
 | .box cells=>if (cells.map (zDD d fr keepB)).all (·.dep d)=true then {B with g:=0,k:= .box (cells.map (zDD d fr keepB))} else {B with g:=1,k:= .dead}
 |_=>{B with g:=0}
def zCQ (d:Nat) (fr:Frame) (keepB:List Nat):List Nat→Frame
 | []=> []
 |n::r=>match look n fr with
  |some B=>(n,zDm d fr keepB B)::zCQ d fr keepB r
  |none=>zCQ d fr keepB r
def zKd (d:Nat):CV→List Nat
 | .own d' n _ _| .ptr d' n _ _ _| .sub d' n _ _ _ _ _=>if d'=d then [n] else []
 | .fn _ caps=>caps.filterMap fun| .ptr d' n _=>if d'=d then some n else none|_=>none
 |_=> []
def zDE (l:List Nat):List Nat→List Nat
 | []=>l
 |n::r=>if l.contains n then zDE l r else zDE (l++ [n]) r
def zIY (d:Nat) (fr:Frame):Nat→List Nat→List Nat
 |0,l=>l
 |m+1,l=>zIY d fr m (zDE l (l.flatMap fun n=>match look n fr with|some ⟨_,_,_,.box cells⟩=>cells.flatMap (zKd d)|_=> []))
def St.keepB (st:St) (keep:List Nat):List Nat:=
 zIY st.up.length st.fr 2 (zDE [] (keep.flatMap fun n=>(st.eval (.t n)).cvs.flatMap (zKd st.up.length)))
def zBZ (up:List Frame):CV→CV
 | .own d n g m=>match zB d n up with
  |some ⟨g',_,_,.row _⟩=>if g=0 then .own d n g m else if g=g' then .own d n 1 m else .u
  |_=> .own d n g m
 | .ptr d n g j o=>match zB d n up with
  |some ⟨g',_,_,.row _⟩=>if g=0 then .ptr d n g j o else if g=g' then .ptr d n 1 j o else .u
  |_=> .ptr d n g j o
 | .fn f caps=>if caps.all (fun| .ptr d n _=>(match zB d n up with|some ⟨_,_,_,.row _⟩=>false|_=>true)|_=>true)=true then .fn f caps else .u
 | .sub ..=> .u
 |x=>x
def zIZ (up:List Frame) (B:Blk):Blk:=match B.k with
 | .box cells=>{B with k:= .box (cells.map (zBZ up))}
 |_=>B
def zHs (up:List Frame) (B:Blk):Blk:=match B.k with
 | .box cells=>{B with k:= .box (cells.map (zBZ up))}
 | .row _=>{B with g:=min B.g 1}
 |_=>B
def zLF (f:Frame):Bool:=f.all fun p=>match p.2.k with
 | .row _=>decide (p.2.g≤1)
 |_=>true
def zLG (up:List Frame) (f:Frame):Bool:=f.all fun p=>match p.2.k with
 | .box cells=>(cells.map (zBZ up)).all (·.known)
 |_=>true
def St.low (st:St):St:=
 if st.up.all zLF=true then st
 else if (st.fr::st.up).all (zLG st.up)=true then
  {t:=st.t.map fun (n,a)=>(n,a.map (zBZ st.up)),fr:=st.fr.map fun (n,B)=>(n,zIZ st.up B),up:=st.up.map fun f=>f.map fun (n,B)=>(n,zHs st.up B)}
 else st
def St.norm0 (st:St) (keep:List Nat):St:=
 let kb:=st.keepB keep
 {t:=keep.map fun n=>(n,zIX st.up.length st.fr kb (st.eval (.t n))),fr:=zCQ st.up.length st.fr kb kb,up:=st.up}
def St.norm (st:St) (keep:List Nat):St:=(st.norm0 keep).low
def zGd (body:St→Option (Ex×St)) (keep:List Nat):Nat→St→Option (Ex×St)
 |0,_=>none
 |m+1,st=>(body (st.norm keep)).bind fun (e,st)=>match e with
  | .normal=>zGd body keep m st
  |e=>some (e,st)
def zBz (e:Ex):List (Ex×List Nat)→List Nat
 | []=> []
 |(e',l)::r=>if e'=e then l else zBz e r
def zm (run:zh) (N:Nat):KCode→St→Option (Ex×St)
 | .skip,st=>some (.normal,st)
 | .ops l,st=>(zA0 run l st).map fun st=>(.normal,st)
 | .draw l,st=>(zDl run l [] st).map fun st=>(.normal,st)
 | .seq a b,st=>(zm run N a st).bind fun (e,st)=>match e with
  | .normal=>zm run N b st
  |e=>some (e,st)
 | .cond c a b,st=>match st.eval c with
  | .c (.p (.b x))=>if x then zm run N a st else zm run N b st
  |_=>none
 | .block id c,st=>(zm run N c st).map fun (e,st)=>(if e= .exit id then .normal else e,st)
 | .loop _ keep zAC c,st=>(zGd (zm run N c) keep N st).map fun (e,st)=>(e,st.norm (zBz e zAC))
 | .exit id,st=>some (.exit id,st)
 | .ret,st=>some (.ret,st)
def zBU (st:St):List (Nat⊕(Nat×Bool×Nat))→Option (List (Bool×List CV))
 | []=>some []
 | .inl n::r=>match st.eval (.t n) with
  | .c x=>(zBU st r).map ((false,[x]):: ·)
  | .agg cs=>(zBU st r).map ((true,cs):: ·)
  | .tup _=>none
 | .inr (n,g,m)::r=>(st.read (st.eval (.t n)) m).bind fun cs=>(zBW g cs).bind fun _=>(zBU st r).map ((g,cs):: ·)
def zAC (st:St):List (Bool×List CV)→Option (List (Bool×List CV)×St)
 | []=>some ([],st)
 |(g,cs)::r=>(zq st cs).bind fun (ps,st)=>(zAC st r).map fun (l,st')=>((g,ps.map CV.p)::l,st')
def zAF:List (Bool×List CV)→AV
 | [(true,cs)]=> .agg cs
 | [(false,[x])]=> .c x
 |l=> .tup l
def zDn:List AV→Nat→List (Nat×AV)
 | [],_=> []
 |a::r,n=>(n,a)::zDn r (n+1)
def zFj (st:St):CV→Option (CV×Blk)
 | .ptr d n g 0 0=>if d=st.up.length then (match st.get d n with
   |some ⟨g',sz,ty,.box cells⟩=>if g=g'∧cells.all isP=true then some (.ptr 0 0 0 0 0,⟨0,sz,ty,.box cells⟩) else none
   |_=>none) else none
 | .own d n g m=>if d=st.up.length then (match st.get d n with
   |some ⟨g',sz,ty,.row rows⟩=>if g=g' then some (.own 0 0 0 m,⟨0,sz,ty,.row rows⟩) else none
   |some ⟨g',sz,ty,.deep cols rows⟩=>if g=g' then some (.own 0 0 0 m,⟨0,sz,ty,.deep cols rows⟩) else none
   |_=>none) else none
 |_=>none
def zHE (st:St):List CV→Option (List CV×Blk)
 | []=>none
 |c::r=>if isP c=true then (zHE st r).map fun (l,B)=>(c::l,B) else if r.all isP=true then (zFj st c).map fun (c',B)=>(c'::r,B) else none
def zHF (st:St):List (Bool×List CV)→Option (List (Bool×List CV)×Blk)
 | []=>none
 |(g,cs)::r=>if cs.all isP=true then (zHF st r).map fun (l,B)=>((g,cs)::l,B) else match g,cs with
  |false,[c]=>if r.all (fun x=>x.2.all isP)=true then (zFj st c).map fun (c',B)=>((false,[c'])::r,B) else none
  |true,cs=>if r.all (fun x=>x.2.all isP)=true then (zHE st cs).map fun (cs',B)=>((true,cs')::r,B) else none
  |_,_=>none
def zKo (l:List (Bool×List CV)):Bool:=l.all fun x=>x.2.all isP
def zGe (st:St) (l:List (Bool×List CV)):Option Res:=if zKo l=true then some ⟨zAF l,st.up,[]⟩ else (zHF st l).map fun (l,B)=>⟨zAF l,st.up,[B]⟩
def zCs (kf:KFun) (e:Ex) (st:St):Option Res:=
 if (e= .normal∨e= .ret)∧kf.frozen=true then (zBU st kf.results).bind fun l=>(zAC st l).map fun (l,st)=>⟨zAF l,st.up,[]⟩
 else if e= .normal∨e= .ret then (zBU st kf.results).bind (zGe st)
 else none
def zB7 (r:Res):Bool:=r.up.isEmpty&&match r.v,r.rows with
 | .c (.p (.ls x)),[]=>x.isEmpty
 | .c (.own 0 0 0 m),[⟨0,_,_,.row x⟩]=>m==0&&x.isEmpty
 |_,_=>false
def zGf (kf:KFun) (args:List AV) (up:List Frame) (r:Res):Option Res:=
 if kf.nil1=true then match args,up with
  | [.c (.p (.ls rows))],[]=>if (!rows.isEmpty||zB7 r)=true then some r else none
  |_,_=>none
 else some r
def zB8 (KP:FuncId→Option KFun) (lib:zh):Nat→zh
 |0=>fun _ _ _=>none
 |n+1=>fun f args up=>match KP f with
  |some kf=>if args.length=kf.params.length then (zm (zB8 KP lib n) n kf.body {t:=zDn args 0,fr:= [],up:=up}).bind fun (e,st)=>(zCs kf e st.low).bind (zGf kf args up) else none
  |none=>lib f args up
end Go.Eng

