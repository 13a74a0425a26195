import GoSem.Core.Code
import GoSem.Op.IntArith
import GoSem.Op.String
import GoSem.Core.Layout
import GoSem.Core.Region
import GoSem.Op.Equal
import Derived.Orders
import Derived.Below
import Derived.Calls
import Derived.RowKit3
import Derived.Laws.AppendOwn
import Derived.Tactics
import Derived.Maps.AppendAt
import Derived.WalkKit
import Derived.WideLaws
import Derived.Laws.Cells
import Derived.Laws.CopyRow
import Derived.Laws.StructEq
import Derived.Laws.BytesArg
import Derived.Laws.Tables
import Derived.Great.BuildSlice
import Derived.Laws.MakeOwn
import Derived.Laws.OwnMore
import Derived.Laws.AppendOwnNone
import Derived.Laws.BytesString
set_option linter.unusedVariables false
namespace Go.Eng
theorem zD {α β:Type _} {x:Option α} {f:α->β} {b:β}:x.map f=some b↔∃a,x=some a/\f a=b:=Option.map_eq_some_iff
theorem zK {α β:Type _} {x:Option α} {f:α->Option β} {b:β}:x.bind f=some b↔∃a,x=some a/\f a=some b:=Option.bind_eq_some_iff
theorem zS {α:Type _} (a b:α):(some a=some b)=(a=b):=Option.some.injEq a b
theorem zh {α:Type _} {l:List α} {i:Nat} (h:i<l.length):l[i]?=some l[i]:=List.getElem?_eq_getElem h
theorem bR {α:Type _} {l:List α} (h:l.length=0):l= []:=List.eq_nil_of_length_eq_zero h
theorem aC {α:Type _} {l:List α} {i:Nat} {a:α} (h:l[i]?=some a):a∈l:=List.mem_of_getElem? h
theorem zC {p:Prop} [inst:Decidable p] (h:p):decide p=true:=decide_eq_true h
theorem aA {p:Prop} [inst:Decidable p] (h:¬p):decide p=false:=decide_eq_false h
theorem aN {α β:Type _} (a:α) (f:α->Option β):(some a).bind f=f a:=rfl
theorem ze {a b:ByteArray}:(a++b).size=a.size+b.size:=ByteArray.size_append
abbrev zL:= @Bool.and_eq_true
abbrev zH:= @Nat.le_refl
abbrev zU:= @Nat.le_trans
abbrev aG:= @decide_eq_true_eq
abbrev bX:= @Bool.eq_false_iff
abbrev dN:= @Nat.mul_le_mul_right
abbrev cT:= @Int.toNat_natCast
abbrev dO:= @Bool.false_eq_true
abbrev dV:= @Nat.lt_of_lt_of_le
abbrev zamJ.{u}:= @List.getElem?_eq_some_iff.{u}
abbrev zamK.{u}:= @List.all_eq_true.{u}
abbrev zamL.{u,v}:= @Prod.mk.injEq.{u,v}
abbrev zamM.{u}:= @List.length_cons.{u}
abbrev zamN.{u}:= @List.mem_cons_self.{u}
abbrev zamO.{u}:= @List.length_append.{u}
abbrev zamP.{u,v}:= @List.mem_flatMap.{u,v}
abbrev zamQ.{u}:= @List.mem_singleton.{u}
abbrev zamR.{u}:= @List.mem_cons_of_mem.{u}
abbrev zamS.{u,v}:= @List.getElem?_map.{u,v}
abbrev zamT.{u}:= @List.mem_cons.{u}
abbrev zamU.{u}:= @List.mem_append_left.{u}
abbrev zamV.{u,v}:= @List.length_map.{u,v}
abbrev zamW.{u,v}:= @Option.map_some.{u,v}
abbrev zamX.{u}:= @Array.getElem?_eq_some_iff.{u}
abbrev zamY.{u}:= @List.getElem?_eq_none.{u}
abbrev zamZ.{u}:= @List.mem_append_right.{u}
abbrev zanA.{u}:= @List.getElem?_append_left.{u}
abbrev zanB.{u}:= @List.getElem?_append_right.{u}
abbrev zanC.{u}:= @List.all_cons.{u}
abbrev zanD.{u}:= @List.length_nil.{u}
abbrev zanE.{u,v}:= @List.map_cons.{u,v}
abbrev zanF.{u}:= @beq_eq_false_iff_ne.{u}
abbrev zanG.{u}:= @beq_iff_eq.{u}
inductive PV where
 |b (x:Bool)
 |i (k:IntKind) (n:Int)
 |s (x:ByteArray)
 |nif
 |ifc
 |nl
 |ls (rows:List (List PV))
 |op
 |np
 deriving Inhabited
inductive Cap where
 |p (x:PV)
 |ptr (d t g:Nat)
 |rp (row:List PV)
 deriving Inhabited
def KO:Nat:=1000003
inductive CV where
 |p (x:PV)
 |own (d t g n:Nat)
 |ptr (d t g j o:Nat)
 |rp (row:List PV) (o:Nat)
 |sub (d n g j o m esz:Nat)
 |fn (f:FuncId) (caps:List Cap)
 |nfn
 |u
 deriving Inhabited
inductive AV where
 |c (x:CV)
 |agg (cs:List CV)
 |tup (vs:List (Bool×List CV))
 deriving Inhabited
inductive BK where
 |box (cells:List CV)
 |row (rows:List (List PV))
 |deep (cols:List (Nat×Nat×TypeId)) (rows:List (List PV))--the slices in these cells of an element are own rows too (of so many cells,of this type)
 |dead
 deriving Inhabited
def BK.isRow:BK->Bool
 | .row _| .deep _ _=>true
 |_=>false
structure Blk where
 g:Nat
 sz:Nat
 ty:TypeId
 k:BK
 deriving Inhabited
abbrev Frame:=List (Nat×Blk)
structure St where
 t:List (Nat×AV)
 fr:Frame
 up:List Frame
def zE {α:Type} (n:Nat):List (Nat×α)->Option α
 | []=>none
 |(m,a)::r=>if m=n then some a else zE n r
def upd {α:Type} (n:Nat) (x:α):List (Nat×α)->List (Nat×α)
 | []=> [(n,x)]
 |(m,a)::r=>if m=n then (m,x)::r else (m,a)::upd n x r
def zA (d n:Nat):List Frame->Option Blk
 | []=>none
 |f::r=>if d=r.length then zE n f else zA d n r
def bN (d n:Nat) (B:Blk):List Frame->List Frame
 | []=> []
 |f::r=>if d=r.length then upd n B f::r else f::bN d n B r
def St.get (st:St) (d n:Nat):Option Blk:=zA d n (st.fr::st.up)
def St.set (st:St) (d n:Nat) (B:Blk):St:=if d=st.up.length then {st with fr:=upd n B st.fr} else {st with up:=bN d n B st.up}
inductive KX where
 |t (n:Nat)
 |k (a:AV)
 deriving Inhabited
inductive KOp where
 |mv (x:KX)
 |mvR (x:KX)--an own row moves into the slot that it is assigned to
 |nil (ty sz:Nat) (cols:List (Nat×Nat×TypeId))
 |pick (c a b:KX)
 |box (ty sz:Nat) (x:KX)
 |boxN (ty sz:Nat) (x:KX) (col ety esz:Nat)--a box;the nil slice in its cell col is an empty own row
 |build (zero:List PV) (parts:List (Nat×Nat×KX))
 |bslice (ty sz len:Nat) (cols:List (Nat×Nat×TypeId)) (zero:List PV) (parts:List (Nat×KX))--cols:cells whose slices are not made plain
 |load (agg:Bool) (n:Nat) (kinds:List Nat) (a:KX)
 |store (n:Nat) (a x:KX)
 |storeB (base ety:Nat) (a x:KX)--a builder of texts that is new:its cells are nil or its own address,and an empty row
 |storeN (n base:Nat) (cols:List (Nat×TypeId×Nat)) (a x:KX)--nil slices in some cells become empty own rows
 |chk (x:KX)
 |bin (op:BinOp) (x y:KX)
 |eqs (neg:Bool) (tags:List Nat) (x y:KX)
 |beq (neg:Bool) (x y:KX)
 |inil (neg:Bool) (x:KX)
 |un (op:UnOp) (x:KX)
 |conv (k:IntKind) (x:KX)
 |str (x:KX)
 |toStr (x:KX)
 |mkfn (f:FuncId) (caps:List KX)
 |mksl (ty sz bytes:Nat) (cols:List (Nat×Nat×TypeId)) (zero:List PV) (l c:KX)--cols:cells whose slices will be own rows
 |slcS (x:KX) (lo hi:Option KX)
 |slc (sz:Nat) (x:KX) (lo hi:Option KX)
 |faddr (off:Nat) (x:KX)
 |field (agg:Bool) (off n:Nat) (x:KX)
 |iaddr (sz:Nat) (x i:KX)
 |index (x i:KX)
 |ext (x:KX) (i:Nat)
 |app (ty sz bytes:Nat) (x y:KX)
 |len (str:Bool) (x:KX)
 |mm (max:Bool) (xs:List KX)
 |call (borrow:Bool) (f:KX) (args:List KX)
 |callN (f:KX) (args:List KX)--lent a box with one own row in it
 |rel (same:Bool) (x y:KX)--asked of the state alone:addresses in one block,or not
 deriving Inhabited
structure KOper where
 dst:Option Nat
 op:KOp
 guard:Option (Nat×Bool)
 deriving Inhabited
inductive Ex where
 |normal|exit (id:Nat)|ret
 deriving DecidableEq,Inhabited
inductive KCode where
 |skip
 |ops (l:List KOper)
 |draw (l:List (KOper×List Bool))--any order will do;with each the earlier ones (the last one first) that it must be rh apart from
 |seq (a b:KCode)
 |cond (c:KX) (a b:KCode)
 |block (id:Nat) (c:KCode)
 |loop (mk:Nat) (keep:List Nat) (bM:List (Ex×List Nat)) (c:KCode)
 |exit (id:Nat)
 |ret
 deriving Inhabited
structure KFun where
 params:List Nat--slots of the parameters and of what is captured:0,1,..
 results:List (Nat⊕(Nat×Bool×Nat))--a slot;or a slot that holds an address,aggregate or not,cells
 frozen:Bool
 body:KCode
 nil1:Bool--nil is handed back for nil at once:that is not told in the body
 deriving Inhabited
def PV.weak:PV->PV
 | .nl=> .ls []
 |x=>x
def CV.dep:CV->Nat->Bool--every block that is named lies at depth d or below
 | .own d' _ _ _,d| .ptr d' _ _ _ _,d| .sub d' _ _ _ _ _ _,d=>decide (d'<=d)
 | .fn _ caps,d=>caps.all fun| .ptr d' _ _=>decide (d'<=d)|_=>true
 | .u,_=>false
 |_,_=>true
def AV.cvs:AV->List CV
 | .c x=> [x]
 | .agg cs=>cs
 | .tup vs=>vs.flatMap (·.2)
def AV.map (f:CV->CV):AV->AV
 | .c x=> .c (f x)
 | .agg cs=> .agg (cs.map f)
 | .tup vs=> .tup (vs.map λ(p,cs)=>(p,cs.map f))
def AV.dep (a:AV) (d:Nat):Bool:=a.cvs.all (·.dep d)
def CV.pure:CV->Bool
 | .nfn| .rp _ _=>true
 |_=>false
def CV.known:CV->Bool
 | .u=>false
 |_=>true
def CV.flat:CV->Bool
 | .p (.b _)| .p (.i _ _)| .p (.s _)| .p .nif| .p .ifc=>true
 |_=>false
def St.eval (st:St):KX->AV
 | .t n=>match zE n st.t with|some a=>a|none=> .c .u
 | .k a=>a
def fR:Bool->List CV->Option AV
 |true,cs=>some (.agg cs)
 |false,[x]=>some (.c x)
 |_,_=>none
def cD (st:St):CV->Option (PV×St)
 | .p x=>some (x.weak,st)
 | .own d n g m=>match st.get d n with
  |some ⟨g',sz,ty,.row rows⟩=>if g=g'/\m=rows.length then some (.ls rows,st.set d n ⟨g+1,sz,ty,.dead⟩) else none
  |_=>none
 |_=>none
def aP (st:St):List CV->Option (List PV×St)
 | []=>some ([],st)
 |x::r=>(cD st x).bind λ(a,st)=>(aP st r).bind λ(b,st)=>some (a::b,st)
def kT (st:St):CV->Option (PV×Bool)
 | .p x=>some (x.weak,false)
 | .own d n g m=>match st.get d n with
  |some ⟨g',_,_,.row rows⟩=>if g=g'/\m=rows.length then some (.ls rows,true) else none
  |_=>none
 |_=>none
def eP (st:St):List CV->Option (List PV×Bool)
 | []=>some ([],false)
 |x::r=>(kT st x).bind λ(a,p)=>(eP st r).bind λ(b,q)=>some (a::b,p||q)
def eH (st:St):Cap->Option (Cap×Bool)
 | .ptr d n g=>match st.get d n with
  |some ⟨g',_,_,.box cells⟩=>if g=g' then (eP st cells).map λ(r,p)=>(.rp r,p) else none
  |_=>none
 |c=>some (c,false)
def cK (st:St):List Cap->Option (List Cap×Bool)
 | []=>some ([],false)
 |x::r=>(eH st x).bind λ(a,p)=>(cK st r).bind λ(b,q)=>some (a::b,p||q)
def St.subB (st:St) (d n g j o m esz:Nat):Option (TypeId×List (List PV)):=match st.get d n with
 |some ⟨g',sz,_,.deep cols rows⟩=>match zE o cols,rows[j]? with
  |some (esz',ety),some e=>match e[o]? with
   |some (.ls inner)=>if g=g'/\esz'=esz/\m=inner.length/\o<sz then some (ety,inner) else none
   |_=>none
  |_,_=>none
 |_=>none
def dW (st:St):CV->Option (CV×Bool)
 | .own d n g m=>match st.get d n with
  |some ⟨g',_,_,.row rows⟩|some ⟨g',_,_,.deep _ rows⟩=>if g=g'/\m=rows.length then some (.p (.ls rows),true) else none
  |_=>none
 | .sub d n g j o m esz=>(st.subB d n g j o m esz).map λq=>(.p (.ls q.2),true)
 | .p x=>some (.p x.weak,false)
 | .fn f caps=>(cK st caps).map λ(l,p)=>(.fn f l,p)
 |x=>if x.pure then some (x,false) else none
def hO (st:St):List CV->Option (List CV×Bool)
 | []=>some ([],false)
 |x::r=>(dW st x).bind λ(a,p)=>(hO st r).bind λ(b,q)=>some (a::b,p||q)
def fO (st:St):AV->Option (AV×Bool)
 | .c x=>(dW st x).map λ(a,p)=>(.c a,p)
 | .agg cs=>(hO st cs).map λ(a,p)=>(.agg a,p)
 | .tup _=>none
def eQ (st:St):List AV->Option (List AV×Bool)
 | []=>some ([],false)
 |x::r=>(fO st x).bind λ(a,p)=>(eQ st r).bind λ(b,q)=>some (a::b,p||q)
def C2:PV->Nat
 | .ls l=>l.length
 |_=>0
def bK (d m g j:Nat) (cols:List (Nat×Nat×TypeId)):Nat->List PV->List CV
 |_,[]=> []
 |o,x::r=>(match zE o cols with|some q=> .sub d m g j o (C2 x) q.1|none=> .p x)::bK d m g j cols (o+1) r
def uC (cols:List (Nat×Nat×TypeId)):Nat->List CV->Option (List PV×Option (Nat×Nat×TypeId×Nat×Nat×Nat×Nat))
 |_,[]=>some ([],none)
 |o,x::r=>(uC cols (o+1) r).bind λ(l,q)=>match zE o cols,x,q with
  |none,.p y,q=>some (y.weak::l,q)
  |some (esz,ety),.own d n g m,none=>some (.nl::l,some (o,esz,ety,d,n,g,m))
  |_,_,_=>none
def St.fresh (st:St) (n:Nat):Nat:=match zE n st.fr with|some B=>B.g+1|none=>0
def St.new (st:St) (n sz ty:Nat) (k:BK):CV×St:=(.ptr st.up.length n (st.fresh n) 0 0,{st with fr:=upd n ⟨st.fresh n,sz,ty,k⟩ st.fr})
def zb {α:Type} (l:List α) (o:Nat) (xs:List α):List α:=l.take o++xs++l.drop (o+xs.length)
def St.read (st:St) (a:AV) (n:Nat):Option (List CV):=
 match a with
 | .c (.ptr d m g j o)=>match st.get d m with
  |some ⟨g',sz,_,.box cells⟩=>if g=g'/\j*sz+o+n<=cells.length/\o≠KO then some ((cells.drop (j*sz+o)).take n) else none
  |some ⟨g',_,_,.row rows⟩=>if g=g'/\o≠KO then match rows[j]? with
    |some e=>if o+n<=e.length then some (((e.drop o).take n).map .p) else none
    |none=>none
   else none
  |some ⟨g',_,_,.deep cols rows⟩=>if g=g'/\o≠KO then match rows[j]? with
    |some e=>if o+n<=e.length then some (bK d m g j cols o ((e.drop o).take n)) else none
    |none=>none
   else none
  |_=>none
 | .c (.rp e o)=>if o+n<=e.length then some (((e.drop o).take n).map .p) else none
 |_=>none
def St.blk (st:St):AV->Option (Option (Nat×Nat))
 | .c (.ptr d n g _ _)=>if (st.get d n).map (·.g)=some g then some (some (d,n)) else none
 | .c (.rp (_::_) _)=>some none
 |_=>none
def St.write (st:St) (a:AV) (xs:List CV):Option St:=
 match a with
 | .c (.ptr d m g j o)=>match st.get d m with
  |some ⟨g',sz,ty,.box cells⟩=>if g=g'/\j*sz+o+xs.length<=cells.length/\xs.all (·.dep d)/\o≠KO then some (st.set d m ⟨g',sz,ty,.box (zb cells (j*sz+o) xs)⟩) else none
  |some ⟨_,_,_,.row _⟩=>(aP st xs).bind λ(ys,st)=>match st.get d m with
   |some ⟨g',sz,ty,.row rows⟩=>if g=g'/\o≠KO then match rows[j]? with
     |some e=>if o+ys.length<=e.length then some (st.set d m ⟨g',sz,ty,.row (rows.set j (zb e o ys))⟩) else none
     |none=>none
    else none
   |_=>none
  |some ⟨g',sz,ty,.deep cols rows⟩=>(uC cols o xs).bind λ(ys,q)=>if g=g'/\o≠KO then match rows[j]? with
    |some e=>if o+ys.length<=e.length then match q with
      |none=>some (st.set d m ⟨g',sz,ty,.deep cols (rows.set j (zb e o ys))⟩)
      |some (k,esz,ety,d2,n2,g2,m2)=>match st.get d2 n2,e[k]? with
       |some ⟨g2',esz',ety',.row rows2⟩,some .nl=>if g2=g2'/\esz'=esz/\ety'=ety/\m2=rows2.length then
         some ((st.set d2 n2 ⟨g2+1,esz,ety,.dead⟩).set d m ⟨g',sz,ty,.deep cols (rows.set j ((zb e o ys).set k (.ls rows2)))⟩) else none
       |_,_=>none
     else none
    |none=>none
   else none
  |_=>none
 |_=>none
def qH (op:BinOp) (k:IntKind) (x y:Int):Option PV:=
 match op with
 | .add=>some (.i k (k.wrap (x+y)))
 | .sub=>some (.i k (k.wrap (x-y)))
 | .mul=>some (.i k (k.wrap (x*y)))
 | .quo=>if y=0 then none else some (.i k (k.wrap (x.tdiv y)))
 | .rem=>if y=0 then none else some (.i k (x.tmod y))
 | .shl=>if y<0 then none else some (.i k (k.wrap (x*2^min y.toNat k.bits)))
 | .shr=>if y<0 then none else some (.i k (x.fdiv (2^min y.toNat k.bits)))
 | .and=>some (.i k (k.wrap (BitVec.ofInt k.bits x&&&BitVec.ofInt k.bits y).toNat))
 | .or=>some (.i k (k.wrap (BitVec.ofInt k.bits x|||BitVec.ofInt k.bits y).toNat))
 | .xor=>some (.i k (k.wrap (BitVec.ofInt k.bits x^^^BitVec.ofInt k.bits y).toNat))
 | .eql=>some (.b (x==y))
 | .neq=>some (.b (x !=y))
 | .lss=>some (.b (decide (x<y)))
 | .leq=>some (.b (decide (x<=y)))
 | .gtr=>some (.b (decide (x>y)))
 | .geq=>some (.b (decide (x≥y)))
 |_=>none
def AH (op:BinOp) (x y:ByteArray):Option PV:=
 match op with
 | .add=>if x.size+y.size<=9223372036854775807 then some (.s (x++y)) else none
 | .eql=>some (.b (x.toList==y.toList))
 | .neq=>some (.b (!(x.toList==y.toList)))
 | .lss=>some (.b (Op.bytesLess x.toList y.toList))
 | .leq=>some (.b (Op.bytesLess x.toList y.toList||x.toList==y.toList))
 | .gtr=>some (.b (!(Op.bytesLess x.toList y.toList||x.toList==y.toList)))
 | .geq=>some (.b (!(Op.bytesLess x.toList y.toList)))
 |_=>none
def uD (op:BinOp):PV->PV->Option PV
 | .i k x,.i k' y=>if k=k' then qH op k x y else none
 | .s x,.s y=>AH op x y
 |_,_=>none
def eqP:Nat->PV->PV->Option Bool
 |0,.b x,.b y=>some (x==y)
 |1,.i k x,.i k' y=>if k=k' then some (x==y) else none
 |2,.s x,.s y=>some (x.toList==y.toList)
 |_,_,_=>none
def eqC:List Nat->List CV->List CV->Option Bool
 | [],[],[]=>some true
 |t::l,.p x::r,.p y::q=>(eqP t x y).bind λe=>(eqC l r q).map λf=>(e&&f)
 |_,_,_=>none
def unP (op:UnOp):PV->Option PV
 | .b x=>match op with| .not=>some (.b (!x))|_=>none
 | .i k n=>match op with| .neg=>some (.i k (k.wrap (0-n)))|_=>none
 |_=>none
def dB:AV->Option Int
 | .c (.p (.i .i64 n))=>some n
 |_=>none
def bytesOf:List (List PV)->Option (List UInt8)
 | []=>some []
 | [.i .u8 n]::r=>(bytesOf r).map (UInt8.ofNat n.toNat:: ·)
 |_=>none
def St.rows (st:St):AV->Option (List (List PV))
 | .c (.p .nl)=>some []
 | .c (.p (.ls rows))=>some rows
 | .c (.own d n g m)=>match st.get d n with
  |some ⟨g',_,_,.row rows⟩=>if g=g'/\m=rows.length then some rows else none
  |_=>none
 |_=>none
def fT:List AV->Option (List Cap)
 | []=>some []
 | .c (.p x)::r=>(fT r).map (.p x.weak:: ·)
 | .c (.ptr d n g 0 0)::r=>(fT r).map (.ptr d n g:: ·)
 | .c (.rp row 0)::r=>(fT r).map (.rp row:: ·)
 |_=>none
def Cap.av:Cap->AV
 | .p x=> .c (.p x)
 | .ptr d n g=> .c (.ptr d n g 0 0)
 | .rp row=> .c (.rp row 0)
def iT (zero:List CV):List (Nat×Nat×AV)->Option (List CV)
 | []=>some zero
 |(off,n,a)::r=>match a with
  | .tup _=>none
  |a=>if a.cvs.length=n/\off+n<=zero.length/\a.cvs.all (·.known)=true then iT (zb zero off a.cvs) r else none
def cL (rows:List (List CV)) (sz:Nat):List (Nat×AV)->Option (List (List CV))
 | []=>some rows
 |(j,a)::r=>match a with
  | .tup _=>none
  |a=>if a.cvs.length=sz/\j<rows.length/\a.cvs.all (·.known)=true then cL (rows.set j a.cvs) sz r else none
def zl (st:St):List (List CV)->Option (List (List PV)×St)
 | []=>some ([],st)
 |x::r=>(aP st x).bind λ(a,st)=>(zl st r).bind λ(b,st)=>some (a::b,st)
def St.bound (st:St) (d:Int):Option KX->Option Int
 |none=>some d
 |some x=>dB (st.eval x)
def iE (mx:Bool):List AV->Option Int
 | []=>none
 |a::r=>(dB a).bind λx=>go mx x r
where go (mx:Bool) (x:Int):List AV->Option Int
 | []=>some x
 |a::r=>(dB a).bind λy=>go mx (if mx then (if y>x then y else x) else (if y<x then y else x)) r
def xN:Option CV->Bool
 |some (.p .nl)=>true
 |_=>false
def zZ (base:Nat):List (Nat×TypeId×Nat)->Nat->List CV->St->List CV×St
 | [],_,cs,st=>(cs,st)
 |(col,ty,sz)::r,i,cs,st=>if xN (cs[col]?)=true then zZ base r (i+1) (cs.set col (.own st.up.length (base+i) (st.fresh (base+i)) 0)) (st.new (base+i) sz ty (.row [])).2
  else zZ base r (i+1) cs st
structure Res where
 v:AV
 up:List Frame
 rows:List Blk
abbrev zo:=FuncId->List AV->List Frame->Option Res
def bD (fr:Frame) (n:Nat):Nat:=match zE n fr with|some B=>B.g+1|none=>0
def bA (d n:Nat) (fr:Frame):CV->CV
 | .own _ i _ m=> .own d (n*64+40+i) (bD fr (n*64+40+i)) m
 | .ptr _ i _ _ _=> .ptr d (n*64+40+i) (bD fr (n*64+40+i)) 0 0
 |x=>x
def aU (n:Nat):List Blk->Nat->Frame->Frame
 | [],_,fr=>fr
 |B::r,i,fr=>aU n r (i+1) (upd (n*64+40+i) {B with g:=bD fr (n*64+40+i)} fr)
def uE:List CV->Option (List CV)
 | []=>some []
 | .p x::r=>(uE r).map (.p x.weak:: ·)
 |_::_=>none
def PV.opq:PV->Bool
 | .op=>true
 |_=>false
def jV:AV->Option AV
 | .c (.p x)=>if x.opq=true then none else some (.c (.p x.weak))
 | .agg cs=>(uE cs).map .agg
 |_=>none
def iU:List AV->Option (List AV)
 | []=>some []
 |a::r=>(jV a).bind λa=>(iU r).map (a:: ·)
def isP:CV->Bool
 | .p _=>true
 |_=>false
def eT (st:St):AV->Option (AV×Nat×Nat×Option (Nat×Nat)×Blk)
 | .c (.own d n g m)=>match st.get d n with
  |some ⟨g',sz,ty,.row rows⟩=>if g=g'/\m=rows.length then some (.c (.own 0 0 0 m),d,n,none,⟨0,sz,ty,.row rows⟩) else none
  |some ⟨g',sz,ty,.deep cols rows⟩=>if g=g'/\m=rows.length then some (.c (.own 0 0 0 m),d,n,none,⟨0,sz,ty,.deep cols rows⟩) else none
  |_=>none
 | .c (.sub d n g j o m esz)=>(st.subB d n g j o m esz).map λq=>(.c (.own 0 0 0 m),d,n,some (j,o),⟨0,esz,q.1,.row q.2⟩)
 | .c (.ptr d n g 0 0)=>match st.get d n with
  |some ⟨g',sz,ty,.box cells⟩=>if g=g'/\cells.all isP=true then some (.c (.ptr 0 0 0 0 0),d,n,none,⟨0,sz,ty,.box cells⟩) else none
  |_=>none
 |_=>none
def dX (st:St):List AV->Option (List AV×Nat×Nat×Option (Nat×Nat)×Blk)
 | []=>none
 |a::r=>match eT st a with
  |some (a,q)=>(iU r).map λr=>(a::r,q)
  |none=>(jV a).bind λa=>(dX st r).map λ(r,q)=>(a::r,q)
def okM:BK->BK->Bool
 | .row _,.row _=>true
 | .deep cols _,.deep cols' _=>decide (cols=cols')
 | .box _,.box cells=>cells.all isP
 |_,_=>false
def fU (st:St) (dst d n:Nat) (q:Option (Nat×Nat)) (B:Blk) (r:Res):Option (AV×St):=
 match q with
 |some (j,o)=>match r.up with
  | [fr']=>match zE 0 fr',st.get d n,B.k with
   |some ⟨0,sz',ty',.row inner'⟩,some ⟨g,sz,ty,.deep cols rows⟩,.row inner=>match rows[j]? with
    |some e=>if ty'=B.ty/\sz'=B.sz/\r.rows.isEmpty=true/\r.v.cvs.all isP=true/\inner'.length=inner.length then
      some (r.v.map (bA st.up.length dst st.fr),st.set d n ⟨g,sz,ty,.deep cols (rows.set j (e.set o (.ls inner')))⟩) else none
    |none=>none
   |_,_,_=>none
  |_=>none
 |none=>match r.up with
 | [fr']=>match zE 0 fr',st.get d n with
  |some B',some B0=>if B'.g=0/\B'.ty=B0.ty/\B'.sz=B0.sz/\r.rows.isEmpty=true/\r.v.cvs.all isP=true/\okM B.k B'.k=true then some (r.v.map (bA st.up.length dst st.fr),st.set d n {B0 with k:=B'.k}) else none
  |_,_=>none
 |_=>none
def fP (d0 n0 g0:Nat):List CV->Option (List CV×Nat×Nat×Nat×Nat)
 | []=>none
 | .p x::r=>(fP d0 n0 g0 r).map λ(l,q)=>(.p x::l,q)
 | .ptr d n g j o::r=>if d=d0/\n=n0/\g=g0/\j=0/\o=KO then (fP d0 n0 g0 r).map λ(l,q)=>(.ptr 0 0 0 0 KO::l,q) else none
 | .own d n g m::r=>if r.all isP=true then some (.own 0 1 1 m::r,d,n,g,m) else none
 |_::_=>none
def iV (st:St):AV->Option (AV×(Nat×Nat×Blk)×Nat×Nat×Blk)
 | .c (.ptr d n g 0 0)=>match st.get d n with
  |some ⟨g',sz,ty,.box cells⟩=>(fP d n g cells).bind λ(l,d2,n2,g2,m2)=>match st.get d2 n2 with
   |some ⟨g2',sz2,ty2,.row rows⟩=>if g=g'/\g2=g2' then some (.c (.ptr 0 0 0 0 0),(d,n,⟨0,sz,ty,.box l⟩),d2,n2,⟨1,sz2,ty2,.row rows⟩) else none
   |_=>none
  |_=>none
 |_=>none
def bB (st:St):AV->Option (AV×St)
 | .c x=>(cD st x).map λ(a,st)=>(.c (.p a),st)
 | .agg cs=>(aP st cs).map λ(l,st)=>(.agg (l.map .p),st)
 | .tup _=>none
def aV (st:St):List AV->Option (List AV×St)
 | []=>some ([],st)
 |x::r=>(bB st x).bind λ(a,st)=>(aV st r).map λ(l,st)=>(a::l,st)
def mG (d0 n0 g0 d n g:Nat) (g1:Nat):List CV->Option (List CV)
 | []=>some []
 | .p x::r=>(mG d0 n0 g0 d n g g1 r).map (.p x:: ·)
 | .own 0 1 g' m::r=>if g'=g1 then (mG d0 n0 g0 d n g g1 r).map (.own d n g m:: ·) else none
 | .ptr 0 0 0 0 o::r=>if o=KO then (mG d0 n0 g0 d n g g1 r).map (.ptr d0 n0 g0 0 KO:: ·) else none
 |_::_=>none
def kU (st:St) (q q2:Nat×Nat×Blk) (r:Res):Option (AV×St):=
 match r.up with
 | [fr']=>match zE 0 fr',zE 1 fr',st.get q.1 q.2.1,st.get q2.1 q2.2.1 with
  |some ⟨0,sz,ty,.box cells⟩,some ⟨g1,sz2,ty2,.row rows⟩,some B0,some R0=>
   if sz=B0.sz/\ty=B0.ty/\r.rows.isEmpty=true/\r.v.cvs.all isP=true then
    (mG q.1 q.2.1 B0.g q2.1 q2.2.1 (R0.g+1) g1 cells).map λl=>(r.v,(st.set q2.1 q2.2.1 ⟨R0.g+1,sz2,ty2,.row rows⟩).set q.1 q.2.1 {B0 with k:= .box l})
   else none
  |_,_,_,_=>none
 |_=>none
def callN (run:zo) (st:St) (f:FuncId):List AV->Option (AV×St)
 |a::r=>(aV st r).bind λ(r,st)=>(iV st a).bind λ(a,q,q2)=>(run f (a::r) [[(0,q.2.2),(1,q2.2.2)]]).bind λres=>kU st q q2 res
 | []=>none
def rP (cols:List (Nat×Nat×TypeId)):Nat->List PV->Bool
 |_,[]=>true
 |o,x::r=>(match zE o cols with|some _=>(match x with| .nl=>true| .ls l=>l.all λe=>e.all λy=>(CV.p y).flat|_=>false)|none=>(CV.p x).flat)&&rP cols (o+1) r
def vZ (B:Blk):Bool:=match B.k with
 | .row rows=>rows.all λe=>e.all λx=>(CV.p x).flat
 | .deep cols rows=>rows.all λe=>rP cols 0 e
 |_=>false
def AI:CV->Bool
 | .own ..=>true
 |x=>x.flat
def cI (r:Res):Bool:=r.v.cvs.all AI&&r.rows.all vZ
def CB:CV->Bool
 | .own _ 0 _ _| .ptr _ 0 _ _ _=>true
 | .own ..| .ptr ..=>false
 |_=>true
def jW (r:Res):Bool:=(match r.rows with| []| [_]=>true|_=>false)&&r.v.cvs.all CB
def dY (run:zo) (st:St) (dst:Nat) (borrow:Bool) (f:FuncId) (args:List AV):Option (AV×St):=
 if borrow then
  (eQ st args).bind λ(args',lent)=>(run f args' []).bind λr=>
   if (lent=false\/cI r=true)/\jW r=true then some (r.v.map (bA st.up.length dst st.fr),{st with fr:=aU dst r.rows 0 st.fr}) else none
 else
  (dX st args).bind λ(args',d,n,q,B)=>(run f args' [[(0,B)]]).bind λr=>fU st dst d n q B r
def AJ (cols:List (Nat×Nat×TypeId)) (zero:List PV):Bool:=cols.all λq=>xN ((zero[q.1]?).map .p)
def mH (cols:List (Nat×Nat×TypeId)) (rows:List (List PV)):BK:=if cols.isEmpty=true then .row rows else .deep cols rows
def frz (cols:List (Nat×Nat×TypeId)) (len:Nat) (st:St) (rows:List (List CV)):Option (List (List PV)×St):=if cols.isEmpty=true\/len=0 then zl st rows else none
def bsK (cols:List (Nat×Nat×TypeId)) (len:Nat) (rs:List (List PV)):BK:=if len=0 then mH cols rs else .row rs
def rQ (zero:List PV) (n:Nat):List (List PV):=List.replicate n zero
def qJ (cols:List (Nat×Nat×TypeId)):Nat->List CV->Option (List PV×Option (Nat×Nat×TypeId×Nat×Nat×Nat×Nat))
 |_,[]=>some ([],none)
 |o,x::r=>(qJ cols (o+1) r).bind λ(l,q)=>match zE o cols,x,q with
  |none,.p y,q=>some (y.weak::l,q)
  |some _,.p .nl,q=>some (.ls []::l,q)
  |some (esz,ety),.own d n g m,none=>some (.nl::l,some (o,esz,ety,d,n,g,m))
  |_,_,_=>none
def oK (st:St) (d n g m ty sz bytes:Nat) (y:AV):Option (AV×St):=match y with
 | .c (.own d2 n2 g2 m2)=>match st.get d n,st.get d2 n2 with
  |some ⟨g',sz',ty',.deep cols rows⟩,some ⟨g2',_,_,.box cells⟩=>
   if g=g'/\sz'=sz/\ty'=ty/\g2=g2'/\m2=1/\cells.length=sz/\0<sz/\0<bytes/\m=rows.length/\(m+1)*bytes<=140737488355328 then
    (qJ cols 0 cells).bind λ(ys,q)=>match q with
     |none=>some (.c (.own d n (g+1) (m+1)),st.set d n ⟨g+1,sz,ty,.deep cols (rows++ [ys])⟩)
     |some (k,esz,ety,d3,n3,g3,m3)=>match st.get d3 n3 with
      |some ⟨g3',esz',ety',.row rows3⟩=>if g3=g3'/\esz'=esz/\ety'=ety/\m3=rows3.length then
        some (.c (.own d n (g+1) (m+1)),(st.set d3 n3 ⟨g3+1,esz,ety,.dead⟩).set d n ⟨g+1,sz,ty,.deep cols (rows++ [ys.set k (.ls rows3)])⟩) else none
      |_=>none
   else none
  |_,_=>none
 |_=>none
def zB (run:zo) (st:St) (dst:Nat):KOp->Option (AV×St)
 | .mv x=>some (st.eval x,st)
 | .mvR x=>match st.eval x with
  | .c (.own d n g m)=>if d=st.up.length/\n≠dst*64 then (match st.get d n with
    |some ⟨g',sz,ty,k⟩=>if g=g'/\k.isRow=true then
      some (.c (.own st.up.length (dst*64) ((st.set d n ⟨g+1,sz,ty,.dead⟩).fresh (dst*64)) m),((st.set d n ⟨g+1,sz,ty,.dead⟩).new (dst*64) sz ty k).2) else none
    |none=>none) else some (.c (.own d n g m),st)
  |v=>some (v,st)
 | .nil ty sz cols=>some (.c (.own st.up.length (dst*64) (st.fresh (dst*64)) 0),(st.new (dst*64) sz ty (mH cols [])).2)
 | .pick c a b=>match st.eval c with
  | .c (.p (.b x))=>some (if x then st.eval a else st.eval b,st)
  |_=>none
 | .box ty sz x=>match st.eval x with
  | .tup _=>none
  |a=>if a.cvs.length=sz/\a.dep st.up.length=true then some (.c (st.new (dst*64) sz ty (.box a.cvs)).1,(st.new (dst*64) sz ty (.box a.cvs)).2) else none
 | .boxN ty sz x col ety esz=>match st.eval x with
  | .tup _=>none
  |a=>if a.cvs.length=sz/\xN (a.cvs[col]?)=true/\a.dep st.up.length=true then
    some (.c ((st.new (dst*64+1) esz ety (.row [])).2.new (dst*64) sz ty (.box (a.cvs.set col (.own st.up.length (dst*64+1) (st.fresh (dst*64+1)) 0)))).1,
     ((st.new (dst*64+1) esz ety (.row [])).2.new (dst*64) sz ty (.box (a.cvs.set col (.own st.up.length (dst*64+1) (st.fresh (dst*64+1)) 0)))).2) else none
 | .build zero parts=>(iT (zero.map .p) (parts.map λ(o,n,x)=>(o,n,st.eval x))).map λcs=>(.agg cs,st)
 | .bslice ty sz len cols zero parts=>(cL ((List.replicate len zero).map (·.map .p)) sz (parts.map λ(j,x)=>(j,st.eval x))).bind λrows=>
   match frz cols len st rows with
   |some (rs,st)=>some (.c (.own st.up.length (dst*64) (st.fresh (dst*64)) len),(st.new (dst*64) sz ty (bsK cols len rs)).2)
   |none=>if (rows.flatten).all (·.dep st.up.length)=true then some (.c (.own st.up.length (dst*64) (st.fresh (dst*64)) len),(st.new (dst*64) sz ty (.box rows.flatten)).2) else none
 | .load g n _ a=>(st.read (st.eval a) n).bind λcs=>(fR g cs).map λv=>(v,st)
 | .store n a x=>match st.eval x with
  | .tup _=>none
  |v=>if v.cvs.length=n/\v.cvs.all (·.known)=true then (st.write (st.eval a) v.cvs).map λst=>(.c .u,st) else none
 | .storeN n base cols a x=>match st.eval x with
  | .tup _=>none
  |v=>if v.cvs.length=n/\v.cvs.all (·.known)=true then ((zZ base cols 1 v.cvs st).2.write (st.eval a) (zZ base cols 1 v.cvs st).1).map λst=>(.c .u,st) else none
 | .storeB base ety a x=>match st.eval a,st.eval x with
  | .c (.ptr d n g 0 0),.agg [.p .np,.p .nl]=>((zZ base [(1,ety,1)] 1 [.p .np,.p .nl] st).2.write (.c (.ptr d n g 0 0)) ((zZ base [(1,ety,1)] 1 [.p .np,.p .nl] st).1.set 0 (.ptr d n g 0 KO))).map λst=>(.c .u,st)
  |_,_=>none
 | .chk x=>match st.eval x with
  | .c (.ptr d n g j o)=>if (st.get d n).map (·.g)=some g/\o≠KO then some (.c (.ptr d n g j o),st) else none
  | .c (.rp e o)=>some (.c (.rp e o),st)
  | .c (.fn f cs)=>some (.c (.fn f cs),st)
  |_=>none
 | .bin op x y=>match st.eval x,st.eval y with
  | .c (.p a),.c (.p b)=>(uD op a b).map λr=>(.c (.p r),st)
  |_,_=>none
 | .eqs neg tags x y=>match st.eval x,st.eval y with
  | .agg a,.agg b=>(eqC tags a b).map λr=>(.c (.p (.b (if neg then !r else r))),st)
  |_,_=>none
 | .beq neg x y=>match st.eval x,st.eval y with
  | .c (.p (.b a)),.c (.p (.b b))=>some (.c (.p (.b (if neg then !(a==b) else a==b))),st)
  |_,_=>none
 | .inil neg x=>match st.eval x with
  | .c (.p .nif)=>some (.c (.p (.b (!neg))),st)
  | .c (.p .ifc)=>some (.c (.p (.b neg)),st)
  |_=>none
 | .un op x=>match st.eval x with
  | .c (.p a)=>(unP op a).map λr=>(.c (.p r),st)
  |_=>none
 | .conv k x=>match st.eval x with
  | .c (.p (.i _ n))=>some (.c (.p (.i k (k.wrap n))),st)
  |_=>none
 | .str x=>match st.eval x with
  | .c (.p (.s s))=>some (.c (.p (.s s)),st)
  |_=>none
 | .toStr x=>(st.rows (st.eval x)).bind λrows=>(bytesOf rows).map λl=>(.c (.p (.s ⟨l.toArray⟩)),st)
 | .mkfn f caps=>(fT (caps.map st.eval)).map λcs=>(.c (.fn f cs),st)
 | .mksl ty sz bytes cols zero l c=>(dB (st.eval l)).bind λl=>(dB (st.eval c)).bind λc=>
   if 0<=l/\l=c/\bytes*l<=140737488355328/\l<=9223372036854775807/\zero.length=sz/\AJ cols zero=true then
    some (.c (.own st.up.length (dst*64) (st.fresh (dst*64)) l.toNat),(st.new (dst*64) sz ty (mH cols (rQ zero l.toNat))).2) else none
 | .slcS x lo hi=>match st.eval x with
  | .c (.p (.s s))=>
   (st.bound 0 lo).bind λl=>(st.bound s.size hi).bind λh=>
    if 0<=l/\l<=h/\h<=s.size then some (.c (.p (.s (s.extract l.toNat h.toNat))),st) else none
  |_=>none
 | .slc sz x lo hi=>match st.eval x with
  | .c (.p (.ls rows))=>
   (st.bound 0 lo).bind λl=>(st.bound rows.length hi).bind λh=>
    if 0<=l/\l<=h/\h<=rows.length/\rows.all (λe=>e.length==sz)=true then some (.c (.p (.ls ((rows.take h.toNat).drop l.toNat))),st) else none
  |_=>none
 | .faddr off x=>match st.eval x with
  | .c (.ptr d n g j o)=>if (st.get d n).map (·.g)=some g/\o≠KO/\o+off≠KO then some (.c (.ptr d n g j (o+off)),st) else none
  | .c (.rp e o)=>some (.c (.rp e (o+off)),st)
  |_=>none
 | .field g off n x=>match st.eval x with
  | .agg cs=>if off+n<=cs.length then (fR g ((cs.drop off).take n)).map λv=>(v,st) else none
  |_=>none
 | .iaddr sz x i=>(dB (st.eval i)).bind λi=>match st.eval x with
  | .c (.p (.ls rows))=>if 0<=i/\i<rows.length then match rows[i.toNat]? with
    |some e=>if e.length=sz then some (.c (.rp e 0),st) else none
    |none=>none
   else none
  | .c (.own d n g m)=>match st.get d n with
   |some ⟨g',sz',_,.row rows⟩=>if g=g'/\sz'=sz/\m=rows.length/\0<=i/\i<m then some (.c (.ptr d n g i.toNat 0),st) else none
   |some ⟨g',sz',_,.deep _ rows⟩=>if g=g'/\sz'=sz/\m=rows.length/\0<=i/\i<m then some (.c (.ptr d n g i.toNat 0),st) else none
   |some ⟨g',sz',_,.box cells⟩=>if g=g'/\sz'=sz/\m*sz=cells.length/\0<=i/\i<m then some (.c (.ptr d n g i.toNat 0),st) else none
   |_=>none
  |_=>none
 | .index x i=>(dB (st.eval i)).bind λi=>match st.eval x with
  | .c (.p (.s s))=>if 0<=i then (match s.toList[i.toNat]? with|some c=>some (.c (.p (.i .u8 c.toNat)),st)|none=>none) else none
  |_=>none
 | .ext x i=>match st.eval x with
  | .tup vs=>match vs[i]? with
   |some (g,cs)=>(fR g cs).map λv=>(v,st)
   |none=>none
  |_=>none
 | .app ty sz bytes x y=>match st.eval x,st.rows (st.eval y) with
  | .c (.p .nl),some ys=>if 0<sz/\0<bytes/\ys.length*bytes<=140737488355328/\ys.all (λe=>e.length==sz)=true then
    some (.c (.own st.up.length (dst*64) (st.fresh (dst*64)) ys.length),(st.new (dst*64) sz ty (.row ys)).2) else none
  | .c (.own d n g m),some ys=>match st.get d n with
   |some ⟨g',sz',ty',.row rows⟩=>if g=g'/\sz'=sz/\ty'=ty/\m=rows.length/\0<sz/\0<bytes/\(m+ys.length)*bytes<=140737488355328/\ys.all (λe=>e.length==sz)=true then
     some (.c (.own d n (g+1) (m+ys.length)),st.set d n ⟨g+1,sz,ty,.row (rows++ys)⟩) else none
   |_=>none
  | .c (.own d n g m),none=>oK st d n g m ty sz bytes (st.eval y)
  |_,_=>none
 | .len true x=>match st.eval x with
  | .c (.p (.s s))=>some (.c (.p (.i .i64 s.size)),st)
  |_=>none
 | .len false x=>match st.eval x with
  | .c (.p .nl)=>some (.c (.p (.i .i64 0)),st)
  | .c (.p (.ls rows))=>some (.c (.p (.i .i64 rows.length)),st)
  | .c (.own d n g m)=>if (st.get d n).map (·.g)=some g then some (.c (.p (.i .i64 m)),st) else none
  | .c (.sub d n g _ _ m _)=>if (st.get d n).map (·.g)=some g then some (.c (.p (.i .i64 m)),st) else none
  |_=>none
 | .mm mx xs=>(iE mx (xs.map st.eval)).map λr=>(.c (.p (.i .i64 r)),st)
 | .call borrow f args=>match st.eval f with
  | .c (.fn f caps)=>dY run st dst borrow f (args.map st.eval++caps.map Cap.av)
  |_=>none
 | .callN f args=>match st.eval f with
  | .c (.fn f caps)=>callN run st f (args.map st.eval++caps.map Cap.av)
  |_=>none
 | .rel same x y=>match st.blk (st.eval x),st.blk (st.eval y) with
  |some p,some (some q)=>if (p==some q)=same then some (.tup [],st) else none
  |_,_=>none
def eF (t:List (Nat×AV)):Option Nat->AV->List (Nat×AV)
 |some n,a=>(n,a)::t
 |none,_=>t
def zW (run:zo) (st:St) (o:KOper):Option St:=
 match o.guard with
 |none=>(zB run st (o.dst.getD 0) o.op).map λ(a,st)=>{st with t:=eF st.t o.dst a}
 |some (j,want)=>match zE j st.t with
  |some (.c (.p (.b x)))=>if x=want then (zB run st (o.dst.getD 0) o.op).map λ(a,st)=>{st with t:=eF st.t o.dst a} else some {st with t:=eF st.t o.dst (.tup [])}
  |some (.tup [])=>some {st with t:=eF st.t o.dst (.tup [])}
  |_=>none
def eI (run:zo):List KOper->St->Option St
 | [],st=>some st
 |o::r,st=>(zW run st o).bind (eI run r)
def KX.uses:KX->List Nat
 | .t n=> [n]
 | .k _=> []
def KOp.uses:KOp->List Nat
 | .mv x| .mvR x| .inil _ x| .box _ _ x| .load _ _ _ x| .chk x| .un _ x| .conv _ x| .str x| .toStr x| .faddr _ x| .field _ _ _ x| .ext x _| .len _ x=>x.uses
 | .pick a b c=>a.uses++b.uses++c.uses
 | .nil _ _ _=> []
 | .boxN _ _ x _ _ _=>x.uses
 | .storeN _ _ _ a x| .storeB _ _ a x=>a.uses++x.uses
 | .build _ ps=>ps.flatMap λp=>p.2.2.uses
 | .bslice _ _ _ _ _ ps=>ps.flatMap λp=>p.2.uses
 | .rel _ a x| .store _ a x| .bin _ a x| .eqs _ _ a x| .beq _ a x| .mksl _ _ _ _ _ a x| .iaddr _ a x| .index a x| .app _ _ _ a x=>a.uses++x.uses
 | .mkfn _ xs| .mm _ xs=>xs.flatMap KX.uses
 | .slcS x l h| .slc _ x l h=>x.uses++(match l with|some l=>l.uses|none=> [])++(match h with|some h=>h.uses|none=> [])
 | .callN f xs| .call _ f xs=>f.uses++xs.flatMap KX.uses
def KOper.rd (o:KOper):List Nat:=(match o.guard with|some (t,_)=> [t]|none=> [])++o.op.uses
def Cap.refs:Cap->List (Nat×Nat)
 | .ptr d n _=> [(d,n)]
 |_=> []
def CV.refs:CV->List (Nat×Nat)
 | .own d n _ _| .ptr d n _ _ _| .sub d n _ _ _ _ _=> [(d,n)]
 | .fn _ caps=>caps.flatMap Cap.refs
 |_=> []
def AV.refs (a:AV):List (Nat×Nat):=a.cvs.flatMap CV.refs
def St.refs (st:St) (x:KX):List (Nat×Nat):=(st.eval x).refs
def St.within (st:St) (p:Nat×Nat):List (Nat×Nat):=match st.get p.1 p.2 with
 |some ⟨_,_,_,.box cells⟩=>cells.flatMap CV.refs
 |_=> []
def rtO (st:St):KOp->List (Nat×Nat)
 | .load _ _ _ a| .chk a| .faddr _ a| .iaddr _ a _| .len _ a| .toStr a=>st.refs a
 | .rel _ x y=>st.refs x++st.refs y
 | .app _ _ _ _ y=>st.refs y
 | .call true f args=>(f::args).flatMap st.refs++((f::args).flatMap st.refs).flatMap st.within
 |_=> []
def wtO (st:St) (dst:Nat):KOp->List (Nat×Nat)
 | .mvR x=>(st.up.length,dst*64)::st.refs x
 | .nil ..| .box ..| .mksl ..=> [(st.up.length,dst*64)]
 | .boxN ..=> [(st.up.length,dst*64),(st.up.length,dst*64+1)]
 | .bslice _ _ _ _ _ ps=>(st.up.length,dst*64)::ps.flatMap λp=>st.refs p.2
 | .store _ a x=>st.refs a++st.refs x
 | .storeB base _ a x=>(st.refs a++st.refs x)++ [(st.up.length,base+1)]
 | .storeN _ base cols a x=>(st.refs a++st.refs x)++(List.range cols.length).map λi=>(st.up.length,base+(i+1))
 | .app _ _ _ x y=>(st.up.length,dst*64)::(st.refs x++(st.refs y).flatMap st.within)
 | .call true _ _=> [(st.up.length,dst*64+40)]
 | .call false f args=>(f::args).flatMap st.refs
 | .callN f args=>(f::args).flatMap st.refs++((f::args).flatMap st.refs).flatMap st.within
 |_=> []
abbrev Tch:=List (Nat×Nat)×List (Nat×Nat)
def tch (st:St) (o:KOper):Tch:=(rtO st o.op,wtO st (o.dst.getD 0) o.op)
def rR (p:Nat×Nat):List (Nat×Nat)->Bool
 | []=>false
 |q::r=>(p.1==q.1&&p.2==q.2)||rR p r
def apM (a b:Tch):Bool:=a.2.all (λp=>!rR p b.1&&!rR p b.2)&&b.2.all λp=>!rR p a.1
def AK:List Bool->List Tch->Tch->Bool
 | [],[],_=>true
 |b::bs,t::ts,x=>(!b||apM t x)&&AK bs ts x
 |_,_,_=>false
def mI (run:zo):List (KOper×List Bool)->List Tch->St->Option St
 | [],_,st=>some st
 |(o,bs)::r,ts,st=>if AK bs ts (tch st o)=true then (zW run st o).bind (mI run r (tch st o::ts)) else none
def kV (d:Nat) (fr:Frame) (keepB:List Nat):CV->CV
 | .own d' n g m=>if d'=d then (match zE n fr with|some B=>if B.g=g/\keepB.contains n=true then .own d n 0 m else .u|none=> .u) else .own d' n g m
 | .ptr d' n g j o=>if d'=d then (match zE n fr with|some B=>if B.g=g/\keepB.contains n=true then .ptr d n 0 j o else .u|none=> .u) else .ptr d' n g j o
 | .fn f caps=>if caps.all (fun| .ptr d' _ _=>decide (d'≠d)|_=>true)=true then .fn f caps else .u
 | .sub d' n g j o m esz=>if d'=d then .u else .sub d' n g j o m esz
 |x=>x
def AL (d:Nat) (fr:Frame) (keepB:List Nat) (a:AV):AV:=a.map (kV d fr keepB)
def mJ (d:Nat) (fr:Frame) (keepB:List Nat) (B:Blk):Blk:=
 match B.k with
 | .box cells=>if (cells.map (kV d fr keepB)).all (·.dep d)=true then {B with g:=0,k:= .box (cells.map (kV d fr keepB))} else {B with g:=1,k:= .dead}
 |_=>{B with g:=0}
def iW (d:Nat) (fr:Frame) (keepB:List Nat):List Nat->Frame
 | []=> []
 |n::r=>match zE n fr with
  |some B=>(n,mJ d fr keepB B)::iW d fr keepB r
  |none=>iW d fr keepB r
def Ct (d:Nat):CV->List Nat
 | .own d' n _ _| .ptr d' n _ _ _| .sub d' n _ _ _ _ _=>if d'=d then [n] else []
 | .fn _ caps=>caps.filterMap fun| .ptr d' n _=>if d'=d then some n else none|_=>none
 |_=> []
def kW (l:List Nat):List Nat->List Nat
 | []=>l
 |n::r=>if l.contains n then kW l r else kW (l++ [n]) r
def AM (d:Nat) (fr:Frame):Nat->List Nat->List Nat
 |0,l=>l
 |m+1,l=>AM d fr m (kW l (l.flatMap λn=>match zE n fr with|some ⟨_,_,_,.box cells⟩=>cells.flatMap (Ct d)|_=> []))
def St.keepB (st:St) (keep:List Nat):List Nat:=
 AM st.up.length st.fr 2 (kW [] (keep.flatMap λn=>(st.eval (.t n)).cvs.flatMap (Ct st.up.length)))
def fV (up:List Frame):CV->CV
 | .own d n g m=>match zA d n up with
  |some ⟨g',_,_,.row _⟩=>if g=0 then .own d n g m else if g=g' then .own d n 1 m else .u
  |_=> .own d n g m
 | .ptr d n g j o=>match zA d n up with
  |some ⟨g',_,_,.row _⟩=>if g=0 then .ptr d n g j o else if g=g' then .ptr d n 1 j o else .u
  |_=> .ptr d n g j o
 | .fn f caps=>if caps.all (fun| .ptr d n _=>(match zA d n up with|some ⟨_,_,_,.row _⟩=>false|_=>true)|_=>true)=true then .fn f caps else .u
 | .sub ..=> .u
 |x=>x
def AN (up:List Frame) (B:Blk):Blk:=match B.k with
 | .box cells=>{B with k:= .box (cells.map (fV up))}
 |_=>B
def xO (up:List Frame) (B:Blk):Blk:=match B.k with
 | .box cells=>{B with k:= .box (cells.map (fV up))}
 | .row _=>{B with g:=min B.g 1}
 |_=>B
def Dc (f:Frame):Bool:=f.all λp=>match p.2.k with
 | .row _=>decide (p.2.g<=1)
 |_=>true
def Dd (up:List Frame) (f:Frame):Bool:=f.all λp=>match p.2.k with
 | .box cells=>(cells.map (fV up)).all (·.known)
 |_=>true
def St.low (st:St):St:=
 if st.up.all Dc=true then st
 else if (st.fr::st.up).all (Dd st.up)=true then
  {t:=st.t.map λ(n,a)=>(n,a.map (fV st.up)),fr:=st.fr.map λ(n,B)=>(n,AN st.up B),up:=st.up.map λf=>f.map λ(n,B)=>(n,xO st.up B)}
 else st
def St.norm0 (st:St) (keep:List Nat):St:=
 let kb:=st.keepB keep
 {t:=keep.map λn=>(n,AL st.up.length st.fr kb (st.eval (.t n))),fr:=iW st.up.length st.fr kb kb,up:=st.up}
def St.norm (st:St) (keep:List Nat):St:=(st.norm0 keep).low
def uF (body:St->Option (Ex×St)) (keep:List Nat):Nat->St->Option (Ex×St)
 |0,_=>none
 |m+1,st=>(body (st.norm keep)).bind λ(e,st)=>match e with
  | .normal=>uF body keep m st
  |e=>some (e,st)
def kX (e:Ex):List (Ex×List Nat)->List Nat
 | []=> []
 |(e',l)::r=>if e'=e then l else kX e r
def aK (run:zo) (N:Nat):KCode->St->Option (Ex×St)
 | .skip,st=>some (.normal,st)
 | .ops l,st=>(eI run l st).map λst=>(.normal,st)
 | .draw l,st=>(mI run l [] st).map λst=>(.normal,st)
 | .seq a b,st=>(aK run N a st).bind λ(e,st)=>match e with
  | .normal=>aK run N b st
  |e=>some (e,st)
 | .cond c a b,st=>match st.eval c with
  | .c (.p (.b x))=>if x then aK run N a st else aK run N b st
  |_=>none
 | .block id c,st=>(aK run N c st).map λ(e,st)=>(if e= .exit id then .normal else e,st)
 | .loop _ keep bM c,st=>(uF (aK run N c) keep N st).map λ(e,st)=>(e,st.norm (kX e bM))
 | .exit id,st=>some (.exit id,st)
 | .ret,st=>some (.ret,st)
def fQ (st:St):List (Nat⊕(Nat×Bool×Nat))->Option (List (Bool×List CV))
 | []=>some []
 | .inl n::r=>match st.eval (.t n) with
  | .c x=>(fQ st r).map ((false,[x]):: ·)
  | .agg cs=>(fQ st r).map ((true,cs):: ·)
  | .tup _=>none
 | .inr (n,g,m)::r=>(st.read (st.eval (.t n)) m).bind λcs=>(fR g cs).bind λ_=>(fQ st r).map ((g,cs):: ·)
def bM (st:St):List (Bool×List CV)->Option (List (Bool×List CV)×St)
 | []=>some ([],st)
 |(g,cs)::r=>(aP st cs).bind λ(ps,st)=>(bM st r).map λ(l,st')=>((g,ps.map CV.p)::l,st')
def bS:List (Bool×List CV)->AV
 | [(true,cs)]=> .agg cs
 | [(false,[x])]=> .c x
 |l=> .tup l
def mK:List AV->Nat->List (Nat×AV)
 | [],_=> []
 |a::r,n=>(n,a)::mK r (n+1)
def rS (st:St):CV->Option (CV×Blk)
 | .ptr d n g 0 0=>if d=st.up.length then (match st.get d n with
   |some ⟨g',sz,ty,.box cells⟩=>if g=g'/\cells.all isP=true then some (.ptr 0 0 0 0 0,⟨0,sz,ty,.box cells⟩) else none
   |_=>none) else none
 | .own d n g m=>if d=st.up.length then (match st.get d n with
   |some ⟨g',sz,ty,.row rows⟩=>if g=g' then some (.own 0 0 0 m,⟨0,sz,ty,.row rows⟩) else none
   |some ⟨g',sz,ty,.deep cols rows⟩=>if g=g' then some (.own 0 0 0 m,⟨0,sz,ty,.deep cols rows⟩) else none
   |_=>none) else none
 |_=>none
def wA (st:St):List CV->Option (List CV×Blk)
 | []=>none
 |c::r=>if isP c=true then (wA st r).map λ(l,B)=>(c::l,B) else if r.all isP=true then (rS st c).map λ(c',B)=>(c'::r,B) else none
def wB (st:St):List (Bool×List CV)->Option (List (Bool×List CV)×Blk)
 | []=>none
 |(g,cs)::r=>if cs.all isP=true then (wB st r).map λ(l,B)=>((g,cs)::l,B) else match g,cs with
  |false,[c]=>if r.all (λx=>x.2.all isP)=true then (rS st c).map λ(c',B)=>((false,[c'])::r,B) else none
  |true,cs=>if r.all (λx=>x.2.all isP)=true then (wA st cs).map λ(cs',B)=>((true,cs')::r,B) else none
  |_,_=>none
def mL (l:List (Bool×List CV)):Bool:=l.all λx=>x.2.all isP
def uG (st:St) (l:List (Bool×List CV)):Option Res:=if mL l=true then some ⟨bS l,st.up,[]⟩ else (wB st l).map λ(l,B)=>⟨bS l,st.up,[B]⟩
def jX (kf:KFun) (e:Ex) (st:St):Option Res:=
 if (e= .normal\/e= .ret)/\kf.frozen=true then (fQ st kf.results).bind λl=>(bM st l).map λ(l,st)=>⟨bS l,st.up,[]⟩
 else if e= .normal\/e= .ret then (fQ st kf.results).bind (uG st)
 else none
def jY (r:Res):Bool:=r.up.isEmpty&&match r.v,r.rows with
 | .c (.p (.ls x)),[]=>x.isEmpty
 | .c (.own 0 0 0 m),[⟨0,_,_,.row x⟩]=>m==0&&x.isEmpty
 |_,_=>false
def uH (kf:KFun) (args:List AV) (up:List Frame) (r:Res):Option Res:=
 if kf.nil1=true then match args,up with
  | [.c (.p (.ls rows))],[]=>if (!rows.isEmpty||jY r)=true then some r else none
  |_,_=>none
 else some r
def fC (KP:FuncId->Option KFun) (lib:zo):Nat->zo
 |0=>λ_ _ _=>none
 |n+1=>λf args up=>match KP f with
  |some kf=>if args.length=kf.params.length then (aK (fC KP lib n) n kf.body {t:=mK args 0,fr:= [],up:=up}).bind λ(e,st)=>(jX kf e st.low).bind (uH kf args up) else none
  |none=>lib f args up
structure Hints where
 pass:List FuncId--calls of these are made with the caller's own blocks in reach
 passIn:List FuncId--in these all calls of function values are
 own:List FuncId--these hand their rows on,not frozen
 grow:List TypeId:= []--boxes of these have a slice that grows
 passN:List FuncId:= []--calls of these are made with such a box in reach
 growS:List TypeId:= []--where a whole value of these is stored its nil slices become empty own rows
 deep:List FuncId:= []--in these,slices of structs that are made hold own rows
 mvr:List FuncId:= []--in these,own rows move into the slots of the variables that they are assigned to
 deriving Inhabited
def uI:Value->Option PV
 | .bool x=>some (.b x)
 | .int k n=>some (.i k n)
 | .string s=>some (.s s)
 | .nilIface=>some .nif
 | .slice none 0 0=>some .nl
 | .pointer none=>some .np
 |_=>none
def AO:Value->Option CV
 | .nilFunc=>some .nfn
 |v=>(uI v).map .p
def CC:Value->Option AV
 | .agg cs=>(cs.toList.mapM AO).map .agg
 | .tuple _=>some (.c .u)
 |v=>(AO v).map .c
def uJ:Operand->Bool
 | .const v=>(uI v).isSome
 |_=>false
def AP (P:Program) (e:TypeId) (len:Nat) (parts:Array (Nat×Operand)):Bool:=parts.toList.any λp=>uJ p.2&&!(decide (p.1<len)&&P.cellsOf e==1)
def kx:Operand->Option KX
 | .tmp t=>some (.t t)
 | .const v=>(CC v).map .k
 | .func f=>some (.k (.c (.fn f [])))
 | .global _=>none
def kxo:Option Operand->Option (Option KX)
 |none=>some none
 |some x=>(kx x).map some
def uK (P:Program) (t:TypeId):Bool:=match P.underlying t with|some (.struct _)|some (.array _ _)=>true|_=>false
def dP (P:Program) (t:TypeId):Option Bool:=match P.underlying t with|some (.struct _)|some (.array _ _)=>some true|some _=>some false|none=>none
def dQ (P:Program) (t:TypeId):Option (List PV):=(P.info? t).bind λi=>i.zero.bind λz=>z.cells.toList.mapM uI
def C3:PV->Nat
 | .b _=>0
 | .i .i64 _=>1
 | .s _=>2
 | .nl=>3
 | .nif=>4
 | .i .u8 _=>6
 |_=>9
def CE (P:Program) (t:TypeId):List Nat:=match dQ P t with|some l=>l.map C3|none=> []
def iX (P:Program) (e:TypeId):Bool:=match P.info? e with
 |some i=>match i.zero with
  |some z=>decide (z.cells.size=i.size/\0<i.size)
  |none=>false
 |none=>false
def AQ (P:Program) (q:TypeId->Option (List Nat)):List Field->Nat->Option (List Nat)
 | [],off=>some []
 | f :: r, off => if f.name ≠ "_" ∧ f.offset = off then (q f.type).bind fun a => if a.length = P.cellsOf f.type ∧ 0 < a.length then (AQ P q r (off + P.cellsOf f.type)).map (a ++ ·) else none else none
def xP (P:Program):Nat->TypeId->Option (List Nat)
 |0,_=>none
 |n+1,t=>match P.underlying t with
  |some .bool=>some [0]
  |some (.int _)=>some [1]
  |some .string=>some [2]
  |some (.struct fs)=>if P.stoodInHeld t=true then none else AQ P (xP P n) fs.toList 0
  |_=>none
def Cu:List PV->Nat->Option Nat
 | [],_=>none
 | .nl::_,i=>some i
 |_::r,i=>Cu r (i+1)
def lU (P:Program) (e:TypeId) (x:KX):Option KOp:=match P.underlying e with
 |some (.struct fs)=>(dQ P e).bind λz=>(Cu z 0).bind λcol=>(fs.toList.find? λf=>f.offset==col).bind λf=>match P.underlying f.type with
  |some (.slice t)=>some (.boxN e (P.cellsOf e) x col t (P.cellsOf t))
  |_=>none
 |_=>none
def jZ (P:Program) (t:TypeId):List (Nat×TypeId×Nat):=match P.underlying t with
 |some (.struct fs)=>fs.toList.filterMap λf=>match P.underlying f.type with
  |some (.slice e)=>some (f.offset,e,P.cellsOf e)
  |_=>none
 |_=> []
def mM (P:Program) (h:Hints) (self:FuncId) (e:TypeId):List (Nat×Nat×TypeId):=if h.deep.contains self=true then (jZ P e).map λq=>(q.1,q.2.2,q.2.1) else []
def AR (P:Program) (h:Hints) (self:FuncId) (e:TypeId) (parts:Array (Nat×Operand)):List (Nat×Nat×TypeId):=if parts.toList.any (λp=>uJ p.2)=true then [] else mM P h self e
def wC (P:Program) (h:Hints) (t:TypeId) (a x:KX):KOp:=match a with
 | .t n=>if h.growS.contains t=true then .storeN (P.cellsOf t) (n*64) (jZ P t) a x else if h.grow.contains t=true/\P.cellsOf t=2 then (match dQ P t,jZ P t with
   |some [.np,.nl],[(1,e,1)]=> .storeB (n*64) e a x
   |_,_=> .store (P.cellsOf t) a x) else .store (P.cellsOf t) a x
 |_=> .store (P.cellsOf t) a x
def C4 (h:Hints):Operand->Bool
 | .func k=>h.passN.contains k
 |_=>false
def CF (h:Hints) (self:FuncId):Operand->Bool
 | .func k=>!h.pass.contains k
 |_=>!h.passIn.contains self
def AS (h:Hints) (self:FuncId) (f:Operand) (g:KX) (xs:List KX):KOp:=if C4 h f=true then .callN g xs else .call (CF h self f) g xs
def dT (P:Program) (h:Hints) (self:FuncId) (o:Oper):Option KOp:=
 match o.op with
 | .assign (.const (.slice none 0 0))=>match P.underlying o.type with
  |some (.slice e)=>some (.nil e (P.cellsOf e) (mM P h self e))
  |_=>none
 | .move x=>(kx x).map .mv
 | .assign x=>(kx x).map λx=>if h.mvr.contains self=true then .mvR x else .mv x
 | .pick c a b=>(kx c).bind λc=>(kx a).bind λa=>(kx b).map λb=> .pick c a b
 | .alloc e=>(P.info? e).bind λi=>i.zero.bind λz=>(CC z).map λa=> .box e (P.cellsOf e) (.k a)
 | .box e x=>(kx x).bind λx=>if h.grow.contains e=true then lU P e x else some (.box e (P.cellsOf e) x)
 | .build t parts=>match P.underlying t with
  |some (.struct fs)=>if fs.toList.all (λf=>(P.info? f.type).isSome)=false then none else (dQ P t).bind λz=>(parts.toList.mapM λ(p:Nat×Operand)=>(fs[p.1]?).bind λf=>(kx p.2).map λx=>(f.offset,P.cellsOf f.type,x)).map λps=> .build z ps
  |_=>none
 | .buildSlice t len parts=>match P.underlying t with
  |some (.slice e)=>if iX P e=false\/len*P.cellsOf e>2^24 then none else if AP P e len parts=true then none else (dQ P e).bind λz=>(parts.toList.mapM λ(p:Nat×Operand)=>(kx p.2).map λx=>(p.1,x)).map λps=> .bslice e (P.cellsOf e) len (AR P h self e parts) z ps
  |_=>none
 | .load t a=>(kx a).bind λa=>(dP P t).map λg=> .load g (P.cellsOf t) (CE P t) a
 | .store t a x=>(kx a).bind λa=>(kx x).bind λx=>(P.info? t).map λ_=>wC P h t a x
 | .nilCheck x=>(kx x).map .chk
 | .binOp op xt x y _=>(kx x).bind λkx'=>(kx y).bind λky=>match P.underlying xt with
  |some (.struct _)=>if (op= .eql\/op= .neq)/\P.eqGuardType P.depth xt=false then (xP P 20 xt).map λtags=> .eqs (op== .neq) tags kx' ky else none
  |some (.int _)|some .string=>some (.bin op kx' ky)
  |some .bool=>if op= .eql\/op= .neq then some (.beq (op== .neq) kx' ky) else none
  |some (.interface _)=>match y with
   | .const .nilIface=>if op= .eql\/op= .neq then some (.inil (op== .neq) kx') else none
   |_=>none
  |_=>none
 | .unOp op _ x=>(kx x).map λx=> .un op x
 | .convert src dst x=>match P.underlying src,P.underlying dst with
  |some (.int _),some (.int k)=>(kx x).map λx=> .conv k x
  |some .string,some .string=>(kx x).map .str
  |some (.slice e),some .string=>match P.underlying e with
   |some (.int .u8)=>(kx x).map .toStr
   |_=>none
  |_,_=>none
 | .makeFunc (.func f) first caps=>if first.size=0 then (caps.toList.mapM kx).map λcs=> .mkfn f cs else none
 | .makeSlice t l c=>match P.underlying t with
  |some (.slice e)=>if iX P e=false then none else (dQ P e).bind λz=>(kx l).bind λl=>(kx c).map λc=> .mksl e (P.cellsOf e) (P.bytesOf e) (mM P h self e) z l c
  |_=>none
 | .slice t x lo hi none=>match P.underlying t with
  |some .string=>(kx x).bind λx=>(kxo lo).bind λlo=>(kxo hi).map λhi=> .slcS x lo hi
  |some (.slice e)=>(P.info? e).bind λ_=>(kx x).bind λx=>(kxo lo).bind λlo=>(kxo hi).map λhi=> .slc (P.cellsOf e) x lo hi
  |_=>none
 | .fieldAddr s x f=>match P.underlying s with
  |some (.struct fs)=>(fs[f]?).bind λg=>if P.cellsOf g.type=0 then none else (kx x).map λx=> .faddr g.offset x
  |_=>none
 | .field s x f=>match P.underlying s with
  |some (.struct fs)=>(fs[f]?).bind λg=>(dP P g.type).bind λq=>(kx x).map λx=> .field q g.offset (P.cellsOf g.type) x
  |_=>none
 | .indexAddr t x i=>match P.underlying t with
  |some (.slice e)=>(P.info? e).bind λ_=>(kx x).bind λx=>(kx i).map λi=> .iaddr (P.cellsOf e) x i
  |_=>none
 | .index t x i=>match P.underlying t with
  |some .string=>(kx x).bind λx=>(kx i).map λi=> .index x i
  |_=>none
 | .extract x i=>(kx x).map λx=> .ext x i
 | .call c=>match c.callee with
  | .builtin .append=>match c.args.toList,c.argTypes.toList with
   | [s,x],st::xt::_=>match P.underlying st,P.underlying xt with
    |some (.slice e),some (.slice _)=>if st=xt/\c.argTypes.size=2/\iX P e=true then (kx s).bind λs=>(kx x).map λx=> .app e (P.cellsOf e) (P.bytesOf e) s x else none
    |_,_=>none
   |_,_=>none
  | .builtin .len=>match c.args.toList,c.argTypes.toList with
   | [x],t::_=>match P.underlying t with
    |some .string=>(kx x).map (.len true)
    |some (.slice _)=>(kx x).map (.len false)
    |_=>none
   |_,_=>none
  | .builtin .max=>(c.args.toList.mapM kx).map λxs=> .mm true xs
  | .builtin .min=>(c.args.toList.mapM kx).map λxs=> .mm false xs
  | .value f=>(kx f).bind λg=>(c.args.toList.mapM kx).map λxs=>AS h self f g xs
  |_=>none
 |_=>none
def dC (P:Program) (h:Hints) (self:FuncId) (ops:Array Oper):Option (List KOper):=
 ops.toList.mapM λo=>(dT P h self o).bind λk=>match o.guard with
  |none=>some ⟨o.dst,k,none⟩
  |some (j,want)=>((ops[j]?).bind (·.dst)).map λt=>⟨o.dst,k,some (t,want)⟩
def bnd (T:Nat):KCode->Bool
 | .ops l=>l.all λo=>match o.dst with|some t=>decide (t<T)|none=>true
 | .draw l=>l.all λo=>match o.1.dst with|some t=>decide (t<T)|none=>true
 | .seq a b| .cond _ a b=>bnd T a&&bnd T b
 | .block _ c| .loop _ _ _ c=>bnd T c
 |_=>true
def AT:List KOper->List Nat->List Nat
 | [],out=>out
 |o::r,out=>
  let q:=AT r out
  let q:=match o.dst with|some t=>q.filter (· !=t)|none=>q
  kW (kW q o.op.uses) (match o.guard with|some (t,_)=> [t]|none=> [])
def lv (res:List Nat):KCode->List (Nat×List Nat)->List Nat->List Nat
 | .skip,_,out=>out
 | .ops l,_,out=>AT l out
 | .draw l,_,out=>AT (l.map (·.1)) out
 | .seq a b,env,out=>lv res a env (lv res b env out)
 | .cond c a b,env,out=>kW (kW (lv res a env out) (lv res b env out)) c.uses
 | .block id c,env,out=>lv res c ((id,out)::env) out
 | .loop _ _ _ c,env,_=>lv res c env (lv res c env (lv res c env []))
 | .exit id,env,_=>(zE id env).getD []
 | .ret,_,_=>res
def AU:List Nat->List Nat
 | []=> []
 |n::r=>insN n (AU r)
where insN (n:Nat):List Nat->List Nat
  | []=> [n]
  |m::r=>if n<=m then n::m::r else m::insN n r
def cN (res:List Nat):Nat->KCode->List (Nat×List Nat)->List Nat->KCode
 |p,.seq a b,env,out=> .seq (cN res (2*p) a env (lv res b env out)) (cN res (2*p+1) b env out)
 |p,.cond c a b,env,out=> .cond c (cN res (2*p) a env out) (cN res (2*p+1) b env out)
 |p,.block id c,env,out=> .block id (cN res p c ((id,out)::env) out)
 |p,.loop _ _ _ c,env,_=>
  let l:=lv res c env (lv res c env (lv res c env []))
  .loop p (AU l) ((.ret,res)::env.map λ(id,l)=>(.exit id,AU l)) (cN res p c env l)
 |_,c,_,_=>c
def Cv:KOp->Bool
 | .mv _| .pick ..| .load ..| .chk _| .bin ..| .beq ..| .inil ..| .un ..| .conv ..| .str _| .mkfn ..| .faddr ..| .field ..| .iaddr ..| .index ..| .slcS ..| .ext ..| .len ..| .build ..=>true
 |_=>false
def De:KOp->Bool
 | .load ..=>true
 |_=>false
def Df (k:KOp):Bool:=Cv k||match k with
 | .box ..| .boxN ..| .bslice ..| .mksl ..=>true
 | .call borrow ..=>borrow
 |_=>false
def AW (o:Oper):Bool:=match o.op with
 | .alloc _=>o.guard.isNone
 | .buildSlice _ _ parts=>o.guard.isNone&&(parts.size !=0&&parts.toList.all λp=>uJ p.2)
 |_=>false
def kAt (ks:List KOper) (i:Nat):KOp:=match ks[i]? with|some k=>k.op|none=> .mv (.k (.c .u))
def fW (ops:Array Oper) (i:Nat) (l:List Bool) (j:Nat):Bool:=match ops[j]? with
 |some o=>o.after.any λe=>Region.binds .any e&&(e.on==i||l.getD e.on false)
 |none=>false
def fX (ops:Array Oper) (i:Nat):Nat->List Bool
 |0=> []
 |m+1=>fX ops i m++ [fW ops i (fX ops i m) m]
def AX {α:Type}:Bool->(Bool->α)->α
 |true,k=>k true
 |false,k=>k false
def qK {α:Type}:List Bool->(List Bool->α)->α
 | [],k=>k []
 |b::l,k=>AX b λb=>qK l λl=>k (b::l)
def lV {α:Type}:List (List Bool)->(List (List Bool)->α)->α
 | [],k=>k []
 |b::l,k=>qK b λb=>lV l λl=>k (b::l)
def AY {α:Type}:Nat->(Nat->α)->α
 |0,k=>k 0
 |n+1,k=>k (n+1)
def lW {α:Type}:List Nat->(List Nat->α)->α
 | [],k=>k []
 |b::l,k=>AY b λb=>lW l λl=>k (b::l)
theorem xQ {α:Type} (b:Bool) (k:Bool->α):AX b k=k b:=by cases b<;>rfl
theorem oN {α:Type}:∀(l:List Bool) (k:List Bool->α),qK l k=k l
 | [],k=>rfl
 |b::l,k=>by simp only [qK,xQ,oN l]
theorem iF {α:Type}:∀(l:List (List Bool)) (k:List (List Bool)->α),lV l k=k l
 | [],k=>rfl
 |b::l,k=>by simp only [lV,oN,iF l]
theorem xR {α:Type} (n:Nat) (k:Nat->α):AY n k=k n:=by cases n<;>rfl
theorem iG {α:Type}:∀(l:List Nat) (k:List Nat->α),lW l k=k l
 | [],k=>rfl
 |b::l,k=>by simp only [lW,xR,iG l]
abbrev DT:=List (List Bool)
def rT (ops:Array Oper):DT:=(List.range ops.size).map λi=>fX ops i ops.size
def qM (dt:DT) (j i:Nat):Bool:=(dt.getD i []).getD j false
def uL (ks:List KOper):Nat->Nat->Option Nat
 |0,_=>none
 |m+1,t=>match ks.find? (λk=>k.dst==some t) with
  |none=>some t
  |some k=>match k.op with
   | .mv (.t y)=>uL ks m y
   | .faddr _ (.t y)=>uL ks m y
   |_=>none
def C5:KOp->Option Nat
 | .store _ (.t n) _=>some n
 | .call false _ (.t n::_)=>some n
 |_=>none
def Dh:KOp->Option Nat
 | .load _ _ _ (.t n)=>some n
 |_=>none
def CG (ks:List KOper) (j:Nat):Bool:=match ks[j]? with|some k=>k.guard.isSome|none=>true
def C6 (ks:List KOper) (j:Nat):Option Nat:=if CG ks j=true then none else (C5 (kAt ks j)).bind (uL ks ks.length)
def Di (ops:Array Oper) (ks:List KOper) (dt:DT) (ex:Bool) (listed:Array Bool) (i:Nat):Bool:=
 let l:=dt.getD i []
 Cv (kAt ks i)&&Region.free .any ops listed i&&
 (List.range ops.size).all (λj=>!l.getD j false||(fW ops i l j&&!listed.getD j false))&&
 (!De (kAt ks i)||(List.range ops.size).all λj=>j==i||listed.getD j true||l.getD j false||Df (kAt ks j)||(ex&&(Dh (kAt ks i)).isSome&&(C6 ks j).isSome))
def iH (ops:Array Oper) (listed:Array Bool) (but:Option Nat):Array Bool:=
 ((List.range ops.size).map λj=>listed.getD j true||(some j !=but&&((ops[j]?).map AW).getD false)).toArray
def rU (ops:Array Oper) (ks:List KOper) (dt:DT) (ex:Bool):Nat->Array Bool->Option (List Nat)
 |0,listed=>if listed.all id=true then some [] else none
 |n+1,listed=>
  let r:=Region.ready .any ops listed
  match r.find? (Di ops ks dt ex listed) with
  |some i=>(rU ops ks dt ex n (listed.setIfInBounds i true)).map (i:: ·)
  |none=>match (Region.ready .any ops (iH ops listed none)).filter r.contains with
   | [i]=>if ((Region.ready .any ops (iH ops listed none)).all (· ==i))=true then (rU ops ks dt ex n (listed.setIfInBounds i true)).map (i:: ·) else none
   |_=>match r.find? (λi=>((ops[i]?).map AW).getD false) with
    |some i=>if (Region.ready .any ops (iH ops listed (some i))).all (λj=>j==i)=true then (rU ops ks dt ex n (listed.setIfInBounds i true)).map (i:: ·) else none
    |none=>none
def AZ (ops:Array Oper) (ks:List KOper) (dt:DT):List Nat:=if 60<ops.size then List.range ops.size else match rU ops ks dt false ops.size (Array.replicate ops.size false) with
 |some l=>l
 |none=>match rU ops ks dt true ops.size (Array.replicate ops.size false) with
  |some l=>l
  |none=>List.range ops.size
def wD:KOp->Bool
 | .mv _| .pick ..| .build ..| .bin ..| .eqs ..| .beq ..| .inil ..| .un ..| .conv ..| .str _| .mkfn ..| .slcS ..| .slc ..| .field ..| .index ..| .ext ..| .mm ..=>true
 |_=>false
def roK (k:KOp):Bool:=wD k||match k with
 | .load ..| .chk _| .faddr ..| .iaddr ..| .len ..| .toStr _| .rel ..=>true
 |_=>false
def kOf (ks:List KOper) (i:Nat):KOper:=(ks[i]?).getD ⟨none,.mv (.k (.c .u)),none⟩
def iI (a b:KOper):Bool:=(match a.dst with|some d=>!b.rd.contains d&&b.dst !=some d|none=>true)&&(match b.dst with|some d=>!a.rd.contains d|none=>true)
def rV (ops:Array Oper) (j i:Nat):Bool:=match ops[j]? with
 |some o=>o.after.any λe=>Region.binds .any e&&e.on==i
 |none=>false
def wE (ops:Array Oper) (j:Nat):Bool:=match ops[j]? with
 |some o=>o.after.all λe=>!Region.binds .any e||(decide (e.on<ops.size)&&e.on !=j)
 |none=>false
def Cw (ops:Array Oper) (ks:List KOper) (dt:DT) (i j:Nat):Bool:=!rV ops i j&&(qM dt j i||iI (kOf ks i) (kOf ks j))
def qN (ops:Array Oper) (ks:List KOper) (dt:DT):List Nat->Bool
 | []=>true
 |i::r=>wE ops i&&r.all (Cw ops ks dt i)&&qN ops ks dt r
def kY (ks:List KOper) (dt:DT) (j i:Nat):Bool:=!qM dt j i&&!(wD (kOf ks i).op||wD (kOf ks j).op||(roK (kOf ks i).op&&roK (kOf ks j).op))
def mN (ks:List KOper) (dt:DT):List Nat->List Nat->List (KOper×List Bool)
 |_,[]=> []
 |p,j::r=>(kOf ks j,p.map (kY ks dt j))::mN ks dt (j::p) r
def fY:List Nat->Bool
 | []=>true
 |n::l=>!l.contains n&&fY l
def Aa (n:Nat) (l:List Nat):Bool:=l.length==n&&fY l&&l.all (λj=>decide (j<n))&&(List.range n).all l.contains
def wF (ops:Array Oper) (ks:List KOper):Option KCode:=lV (rT ops) λdt=>lW (AZ ops ks dt) λl=>
 if Aa ops.size l&&qN ops ks dt l then some (.draw (mN ks dt [] l)) else none
def zi (P:Program) (h:Hints) (self:FuncId):Code->Option KCode
 | .skip=>some .skip
 | .region _ ops draws=>(dC P h self ops).bind λks=>if draws=true then
   (if P.follows .mixedOrders=true/\Region.noSelect ops=true then wF ops ks else none)
  else some (.ops ks)
 | .seq a b=>(zi P h self a).bind λa=>(zi P h self b).map λb=> .seq a b
 | .cond c a b=>(kx c).bind λc=>(zi P h self a).bind λa=>(zi P h self b).map λb=> .cond c a b
 | .block id c=>(zi P h self c).map λc=> .block id c
 | .loop c=>(zi P h self c).map λc=> .loop 0 [] [] c
 | .exit id=>some (.exit id)
 | .ret=>some .ret
 | .scope c=>zi P h self c
 |_=>none
def iY (P:Program) (r:ResultVar):Option (Nat⊕(Nat×Bool×Nat)):=
 match r with
 | .tmp t=>some (.inl t)
 | .cell a t=>(dP P t).map λg=> .inr (a,g,P.cellsOf t)
def CH (o:Oper):Bool:=match o.op,o.dst,o.guard with
 | .assign (.const (.slice none 0 0)),some 2,none=>true
 |_,_,_=>false
def C7 (o:Oper):Bool:=match o.op,o.dst,o.guard with
 | .move (.tmp 0),some 3,none=>true
 |_,_,_=>false
def C8 (P:Program) (o:Oper):Bool:=match o.op,o.dst,o.guard with
 | .binOp .eql t (.tmp 3) (.const (.slice none 0 0)) _,some 4,none=>(match P.underlying t with|some (.slice _)=>true|_=>false)
 |_,_,_=>false
def fD (P:Program) (fn:Func):Option Code:=match fn.body with
 |some (.seq (.region i opx false) (.seq (.seq (.region _ ops false) (.cond (.tmp 4) (.seq (.region _ opb false) .ret) .skip)) d))=>match opx.toList,ops.toList,opb.toList,fn.results.toList with
  | [x],[m,q],[b],[.tmp 2]=>if CH x&&CH b&&C7 m&&C8 P q&&fn.params.size==1&&fn.nfree==0&&decide (4<fn.ntmps) then some (.seq (.region i opx false) d) else none
  |_,_,_,_=>none
 |_=>none
def mO (P:Program) (fn:Func):Option Code:=match fD P fn with
 |some c=>some c
 |none=>fn.body
def lX (P:Program) (h:Hints) (self:FuncId) (fn:Func):Option KFun:=
 (mO P fn).bind λb=>(zi P h self b).bind λc=>(fn.results.toList.mapM (iY P)).map λrs=>
  let res:=rs.map fun| .inl t=>t| .inr x=>x.1
  ⟨List.range (fn.params.size+fn.nfree),rs,!h.own.contains self,cN res 1 c [] [],(fD P fn).isSome⟩
def fZ (P:Program) (h:Hints) (self:FuncId) (kf:KFun):Prop:=
 ∃ fn, P.funcs[self]? = some fn ∧ (fn.name == "runtime.NumGoroutine") = false ∧ lX P h self fn = some kf ∧ bnd (max fn.ntmps kf.params.length) kf.body = true
inductive RepP (own:Nat->Prop) (w:World):Value->PV->Prop
 |b (x:Bool):RepP own w (.bool x) (.b x)
 |i (k:IntKind) (n:Int):RepP own w (.int k n) (.i k n)
 |s (x:ByteArray):RepP own w (.string x) (.s x)
 |nif:RepP own w .nilIface .nif
 |ifc (t:TypeId) (v:Value):RepP own w (.iface t v) .ifc
 |nl:RepP own w (.slice none 0 0) .nl
 |nls:RepP own w (.slice none 0 0) (.ls [])
 |op (v:Value) (h1:v.oneCell'=true):RepP own w v .op
 |np:RepP own w (.pointer none) .np
 |ls {a:Addr} {n c sz:Nat} {rows:List (List PV)} (val:Nat->Nat->Value) (hl:rows.length=n) (hc:n<=c) (hn:n<=maxLen) (ho:rows≠ []->¬own a.block/\a.block<w.heap.size)
   (hcell:∀j e,rows[j]?=some e->e.length=sz/\∀o x,e[o]?=some x->w.cell? (a.add (j*sz+o))=some (val j o))
   (hrep:∀j e o x,rows[j]?=some e->e[o]?=some x->RepP own w (val j o) x):RepP own w (.slice (some a) n c) (.ls rows)
theorem RepP.step {own own':Nat->Prop} {w w':World} (hb:∀k,k<w.heap.size->¬own k->w'.heap[k]?=w.heap[k]?) (hs:w.heap.size<=w'.heap.size) (ho':∀k,own' k->own k\/w.heap.size<=k) {v:Value} {x:PV} (h:RepP own w v x):RepP own' w' v x:=by
 induction h with
 |b x=>exact .b x
 |i k n=>exact .i k n
 |s x=>exact .s x
 |nif=>exact .nif
 |ifc t v=>exact .ifc t v
 |nl=>exact .nl
 |nls=>exact .nls
 |op v h1=>exact .op v h1
 |np=>exact .np
 | @ls a n c sz rows val hl hc hn ho hcell hrep ih=>
  refine .ls (sz:=sz) val hl hc hn (λhr=>?_) (λj e he=>?_) ih
  ·obtain ⟨h1,h2⟩:=ho hr;exact ⟨λh3=>(ho' _ h3).elim h1 (λh4=>by omega),by omega⟩
  ·have hr:rows≠ []:=by rintro rfl;simp at he
   obtain ⟨h1,h2⟩:=ho hr;obtain ⟨h3,h4⟩:=hcell j e he;refine ⟨h3,λo x hx=>?_⟩;rw [<-h4 o x hx];exact World.cell?_of_block (by
    have:(a.add (j*sz+o)).block=a.block:=by unfold Addr.add;split<;>rfl
    rw [this];exact hb _ h2 h1)
theorem RepP.weak {own:Nat->Prop} {w:World} {v:Value} {x:PV} (h:RepP own w v x):RepP own w v x.weak:=by
 cases h<;>first|exact .nls|(constructor;done)|exact .op _ ‹_› |exact .ls _ ‹_› ‹_› ‹_› ‹_› ‹_› ‹_›
theorem RepP.one {own:Nat->Prop} {w:World} {v:Value} {x:PV} (h:RepP own w v x):v.oneCell'=true/\v.cells= #[v]:=by
 cases h<;>first|exact ⟨rfl,rfl⟩|(rename_i h1;exact ⟨h1,by cases v<;>first|rfl|cases h1⟩)
abbrev Pc:=Nat->Option (Nat×Nat)
abbrev Pl:=Nat->Nat->Pc
def nop:Pc:=λ_=>none
def one (b s:Nat):Pc:=λj=>if j=0 then some (b,s) else none
theorem rW (b s:Nat):one b s 0=some (b,s):=rfl
theorem aW {b s j:Nat} {x:Nat×Nat} (h:one b s j=some x):j=0/\x=(b,s):=by
 unfold one at h;split at h
 ·rename_i e;exact ⟨e,(Option.some.inj h).symm⟩
 ·cases h
def Ext (p p':Pc):Prop:=p' 0=p 0/\∀j x,p j=some x->p' j=some x
theorem Ext.refl (p:Pc):Ext p p:=⟨rfl,λ_ _ h=>h⟩
theorem Ext.of {p p':Pc} (h:p'=p):Ext p p':=h▸Ext.refl p
theorem Ext.trans {p p' p'':Pc} (h:Ext p p') (h':Ext p' p''):Ext p p'':=⟨h'.1.trans h.1,λj x hx=>h'.2 j x (h.2 j x hx)⟩
def Own (F:Nat->Prop) (pl:Pl) (k:Nat):Prop:=F k\/∃d n j s,pl d n j=some (k,s)
def RepR (F:Nat->Prop) (pl:Pl) (w:World) (v:Value) (row:List PV) (o:Nat):Prop:=
 ∃a:Addr,v= .pointer (some (a.add o))/\(row≠ []->(∀d n j s,pl d n j≠some (a.block,s))/\a.block<w.heap.size)/\∀i x,row[i]?=some x->∃u,w.cell? (a.add i)=some u/\RepP (Own F pl) w u x
theorem RepR.step {F F':Nat->Prop} {pl pl':Pl} {w w':World} {v:Value} {row:List PV} {o:Nat} (h:RepR F pl w v row o) (hs:w.heap.size<=w'.heap.size) (hb:∀k,k<w.heap.size->(∀d n j s,pl d n j≠some (k,s))->w'.heap[k]?=w.heap[k]?)
  (hn:∀k d n j s,pl' d n j=some (k,s)->(∃d0 n0 j0 s0,pl d0 n0 j0=some (k,s0))\/w.heap.size<=k) (hP:∀{u x},RepP (Own F pl) w u x->RepP (Own F' pl') w' u x):RepR F' pl' w' v row o:=by
 obtain ⟨a,h1,h2,h3⟩:=h;refine ⟨a,h1,λhr=>?_,λi x hx=>?_⟩
 ·obtain ⟨h4,h5⟩:=h2 hr;refine ⟨λd n j s h6=>?_,dV h5 hs⟩;rcases hn _ d n j s h6 with ⟨d0,n0,j0,s0,h7⟩|h7
  ·exact h4 d0 n0 j0 s0 h7
  ·omega
 ·obtain ⟨u,h4,h5⟩:=h3 i x hx;refine ⟨u,?_,hP h5⟩;obtain ⟨h6,h7⟩:=h2 (by rintro rfl;simp at hx);rw [<-h4];exact World.cell?_of_block (by
   have:(a.add i).block=a.block:=by unfold Addr.add;split<;>rfl
   rw [this];exact hb _ h7 h6)
theorem RepR.same {F F':Nat->Prop} {pl pl':Pl} {w:World} {v:Value} {row:List PV} {o:Nat} (h:RepR F pl w v row o) (hn:∀k d n j s,pl' d n j=some (k,s)->∃d0 n0 j0 s0,pl d0 n0 j0=some (k,s0)) (hP:∀{u x},RepP (Own F pl) w u x->RepP (Own F' pl') w u x):RepR F' pl' w v row o:=
 h.step (zH _) (λ_ _ _=>rfl) (λk d n j s h=> .inl (hn k d n j s h)) hP
def fE (F:Nat->Prop) (fs:List Frame) (pl:Pl) (w:World):Value->Cap->Prop
 |v,.p x=>RepP (Own F pl) w v x
 |v,.ptr d n g=>v.oneCell'=true/\∃B,zA d n fs=some B/\g<=B.g/\(g=B.g->∃b s,pl d n 0=some (b,s)/\v= .pointer (some ⟨b,0,none⟩))
 |v,.rp row=>RepR F pl w v row 0
def cM (F:Nat->Prop) (fs:List Frame) (pl:Pl) (w:World):Value->CV->Prop
 |v,.p x=>RepP (Own F pl) w v x
 |v,.own d n g m=>v.oneCell'=true/\∃B,zA d n fs=some B/\g<=B.g/\(g=B.g->
   (v= .slice none 0 0/\m=0/\pl d n 0=none)\/∃b s cap,pl d n 0=some (b,s)/\v= .slice (some ⟨b,0,none⟩) m cap/\s=cap*B.sz/\m<=cap/\cap<=maxLen)
 |v,.ptr d n g j o=>v.oneCell'=true/\∃B,zA d n fs=some B/\g<=B.g/\(g=B.g->∃b s,pl d n 0=some (b,s)/\((o≠KO/\v= .pointer (some ⟨b,j*B.sz+o,none⟩))\/(o=KO/\(v= .pointer none\/v= .pointer (some ⟨b,0,none⟩)))))
 |v,.rp row o=>RepR F pl w v row o
 |v,.sub d n g j o m esz=>v.oneCell'=true/\∃B,zA d n fs=some B/\g<=B.g/\(g=B.g->
   (v= .slice none 0 0/\m=0)\/∃b s cap,pl d n (j*B.sz+o+1)=some (b,s)/\v= .slice (some ⟨b,0,none⟩) m cap/\s=cap*esz/\m<=cap/\cap<=maxLen)
 |v,.fn f caps=>∃vals:List Value,v= .func (.func f) #[] vals.toArray/\vals.length=caps.length/\∀(i:Nat) u c,vals[i]?=some u->caps[i]?=some c->fE F fs pl w u c
 |v,.nfn=>v= .nilFunc
 |_,.u=>True
def zT (F:Nat->Prop) (fs:List Frame) (pl:Pl) (w:World) (us:List Value) (cs:List CV):Prop:=
 us.length=cs.length/\∀(i:Nat) u c,us[i]?=some u->cs[i]?=some c->cM F fs pl w u c/\(c= .u\/u.oneCell'=true)
def zf (F:Nat->Prop) (fs:List Frame) (pl:Pl) (w:World):Value->AV->Prop
 |v,.c x=>cM F fs pl w v x
 |v,.agg cs=>∃us:List Value,v= .agg us.toArray/\zT F fs pl w us cs
 |v,.tup vs=>∃us:List Value,v= .tuple us.toArray/\us.length=vs.length/\∀(i:Nat) u c,us[i]?=some u->vs[i]?=some c->
   (c.1=true/\∃ys:List Value,u= .agg ys.toArray/\zT F fs pl w ys c.2)\/(c.1=false/\∃x,c.2= [x]/\cM F fs pl w u x)
def DeepP (F:Nat->Prop) (w:World) (pl:Pl) (q:Option (Nat×Nat)) (esz:Nat) (ety:TypeId) (v:Value) (x:PV):Prop:=
 ((x= .nl\/x= .ls [])/\v= .slice none 0 0/\q=none)\/∃inner b s cap us,x= .ls inner/\q=some (b,s)/\v= .slice (some ⟨b,0,none⟩) inner.length cap/\s=cap*esz/\inner.length<=cap/\cap<=maxLen/\
  w.heap[b]?=some (.cells us ety (0,0))/\us.size=s/\(∀e∈inner,e.length=esz)/\∀j e o y,inner[j]?=some e->e[o]?=some y->∃u,us[j*esz+o]?=some u/\RepP (Own F pl) w u y
def DCell (F:Nat->Prop) (w:World) (pl:Pl) (p:Pc) (cols:List (Nat×Nat×TypeId)) (sz j o:Nat) (v:Value) (x:PV):Prop:=
 match zE o cols with
 |some q=>DeepP F w pl (p (j*sz+o+1)) q.1 q.2 v x
 |none=>RepP (Own F pl) w v x
def zj (F:Nat->Prop) (fs:List Frame) (pl:Pl) (w:World) (d n:Nat) (B:Blk):Prop:=
 match B.k with
 | .box cells=>∃b us,pl d n=one b cells.length/\w.heap[b]?=some (.cells us B.ty (0,0))/\zT F fs pl w us.toList cells/\∀c∈cells,c.dep d=true
 | .row rows=>(rows= []/\pl d n=nop)\/∃b s us,pl d n=one b s/\w.heap[b]?=some (.cells us B.ty (0,0))/\us.size=s/\rows.length*B.sz<=s/\
   (∀e∈rows,e.length=B.sz)/\∀j e o x,rows[j]?=some e->e[o]?=some x->∃v,us[j*B.sz+o]?=some v/\RepP (Own F pl) w v x
 | .deep cols rows=>(rows= []/\pl d n=nop)\/∃b s us,pl d n 0=some (b,s)/\w.heap[b]?=some (.cells us B.ty (0,0))/\us.size=s/\rows.length*B.sz<=s/\
   (∀e∈rows,e.length=B.sz)/\(∀j e o x,rows[j]?=some e->e[o]?=some x->∃v,us[j*B.sz+o]?=some v/\DCell F w pl (pl d n) cols B.sz j o v x)/\∀c,rows.length*B.sz<=c->pl d n (c+1)=none
 | .dead=>pl d n=nop
structure Base (G:Nat->Option Obj) where
 n:Nat
structure MemOK (F:Nat->Prop) {G:Nat->Option Obj} (N0:Base G) (fs:List Frame) (pl:Pl) (w:World):Prop where
 live:∀d n j b s,pl d n j=some (b,s)->N0.n<=b/\b<w.heap.size/\¬F b/\∃B,zA d n fs=some B
 inj:∀d n j d' n' j' b s s',pl d n j=some (b,s)->pl d' n' j'=some (b,s')->d=d'/\n=n'/\j=j'
 blk:∀d n B,zA d n fs=some B->zj F fs pl w d n B
 fsz:∀k,F k->k<w.heap.size
 fix:∀k o,G k=some o->k<N0.n/\w.heap[k]?=some o
theorem cU {F:Nat->Prop} {G:Nat->Option Obj} {N0:Base G} {fs:List Frame} {pl:Pl} {w w':World} (hm:MemOK F N0 fs pl w) (hs:∀k,k<w.heap.size->(∀d n j s,pl d n j≠some (k,s))->w'.heap[k]?=w.heap[k]?):
  ∀k o,G k=some o->k<N0.n/\w'.heap[k]?=some o:=λk o h=>by
 obtain ⟨h1,h2⟩:=hm.fix k o h;exact ⟨h1,(hs k (zamX.1 h2).1 (λd n j s hp=>by have h3:N0.n<=k:=(hm.live d n j k s hp).1;omega)).trans h2⟩
structure Step (pl:Pl) (w w':World):Prop where
 os:w'.os=w.os
 tape:w'.tape=w.tape
 output:w'.output=w.output
 size:w.heap.size<=w'.heap.size
 block:∀k,k<w.heap.size->(∀d n j s,pl d n j≠some (k,s))->w'.heap[k]?=w.heap[k]?
structure Later (fs fs':List Frame) (pl pl':Pl) (B:Nat):Prop where
 len:fs'.length=fs.length
 blk:∀d n b,zA d n fs=some b->∃b',zA d n fs'=some b'/\b.g<=b'.g/\(b'.g=b.g->Ext (pl d n) (pl' d n)/\b'.sz=b.sz)
 new:∀d n j b s,pl' d n j=some (b,s)->(∃d0 n0 j0 s0,pl d0 n0 j0=some (b,s0))\/B<=b
theorem Step.refl (pl:Pl) (w:World):Step pl w w:=⟨rfl,rfl,rfl,zH _,λ_ _ _=>rfl⟩
theorem Step.trans {pl pl':Pl} {w w' w'':World} {fs fs':List Frame} (h:Step pl w w') (hl:∀d n j b s,pl' d n j=some (b,s)->(∃d0 n0 j0 s0,pl d0 n0 j0=some (b,s0))\/w.heap.size<=b) (h':Step pl' w' w''):Step pl w w'':=
 ⟨h'.os.trans h.os,h'.tape.trans h.tape,h'.output.trans h.output,zU h.size h'.size,λk hk hn=>by
  rw [h'.block k (dV hk h.size) (λd n j s hp=>by
   rcases hl d n j k s hp with ⟨d0,n0,j0,s0,h0⟩|h0
   ·exact hn d0 n0 j0 s0 h0
   ·omega),h.block k hk hn]⟩
theorem Later.refl (fs:List Frame) (pl:Pl) (B:Nat):Later fs fs pl pl B:=⟨rfl,λd n b h=>⟨b,h,zH _,λ_=>⟨Ext.refl _,rfl⟩⟩,λd n j b s h=> .inl ⟨d,n,j,s,h⟩⟩
theorem Later.trans {fs fs' fs'':List Frame} {pl pl' pl'':Pl} {B B':Nat} (h:Later fs fs' pl pl' B) (h':Later fs' fs'' pl' pl'' B') (hB:B<=B'):Later fs fs'' pl pl'' B:=
 ⟨h'.len.trans h.len,λd n b hb=>by
  obtain ⟨b1,h1,h2,h3⟩:=h.blk d n b hb;obtain ⟨b2,h4,h5,h6⟩:=h'.blk d n b1 h1;refine ⟨b2,h4,zU h2 h5,λe=>?_⟩;have e1:b1.g=b.g:=by omega
  obtain ⟨p1,s1⟩:=h3 e1;obtain ⟨p2,s2⟩:=h6 (by omega);exact ⟨p1.trans p2,s2.trans s1⟩,λd n j b s hp=>by
  rcases h'.new d n j b s hp with ⟨d0,n0,j0,s0,h0⟩|h0
  ·exact h.new d0 n0 j0 b s0 h0
  ·exact .inr (by omega)⟩
section
variable {F:Nat->Prop} {fs fs':List Frame} {pl pl':Pl} {w w':World}
structure Keep (F:Nat->Prop) (fs fs':List Frame) (pl pl':Pl) (w w':World):Prop where
 step:Step pl w w'
 later:Later fs fs' pl pl' w.heap.size
theorem Keep.repP (h:Keep F fs fs' pl pl' w w') {v:Value} {x:PV} (hr:RepP (Own F pl) w v x):RepP (Own F pl') w' v x:=
 hr.step (λk hk hn=>h.step.block k hk (λd n j s hp=>hn (.inr ⟨d,n,j,s,hp⟩))) h.step.size (λk hk=>by
  rcases hk with hk|⟨d,n,j,s,hk⟩
  ·exact .inl (.inl hk)
  ·rcases h.later.new d n j k s hk with h0|h0
   ·exact .inl (.inr h0)
   ·exact .inr h0)
theorem Keep.repR (h:Keep F fs fs' pl pl' w w') {v:Value} {row:List PV} {o:Nat} (hr:RepR F pl w v row o):RepR F pl' w' v row o:=
 hr.step h.step.size h.step.block (λk d n j s hp=>h.later.new d n j k s hp) h.repP
theorem Keep.repCap (h:Keep F fs fs' pl pl' w w') {v:Value} {c:Cap} (hr:fE F fs pl w v c):fE F fs' pl' w' v c:=by
 cases c with
 |p x=>exact h.repP hr
 |ptr d n g=>
  obtain ⟨h0,B,h1,h2,h3⟩:=hr;obtain ⟨B',h4,h5,h6⟩:=h.later.blk d n B h1;refine ⟨h0,B',h4,zU h2 h5,λe=>?_⟩;obtain ⟨p1,_⟩:=h6 (by omega);rw [p1.1];exact h3 (by omega)
 |rp row=>exact h.repR hr
theorem Keep.repC (h:Keep F fs fs' pl pl' w w') {v:Value} {c:CV} (hr:cM F fs pl w v c):cM F fs' pl' w' v c:=by
 cases c with
 |p x=>exact h.repP hr
 |own d n g m=>
  obtain ⟨h0,B,h1,h2,h3⟩:=hr;obtain ⟨B',h4,h5,h6⟩:=h.later.blk d n B h1;refine ⟨h0,B',h4,zU h2 h5,λe=>?_⟩;obtain ⟨p1,p2⟩:=h6 (by omega);rw [p1.1,p2];exact h3 (by omega)
 |ptr d n g j o=>
  obtain ⟨h0,B,h1,h2,h3⟩:=hr;obtain ⟨B',h4,h5,h6⟩:=h.later.blk d n B h1;refine ⟨h0,B',h4,zU h2 h5,λe=>?_⟩;obtain ⟨p1,p2⟩:=h6 (by omega);rw [p1.1,p2];exact h3 (by omega)
 |rp row o=>exact h.repR hr
 |sub d n g j o m esz=>
  obtain ⟨h0,B,h1,h2,h3⟩:=hr;obtain ⟨B',h4,h5,h6⟩:=h.later.blk d n B h1;refine ⟨h0,B',h4,zU h2 h5,λe=>?_⟩;obtain ⟨p1,p2⟩:=h6 (by omega);rcases h3 (by omega) with h7|⟨b,s,cap,h7,h8⟩
  ·exact .inl h7
  ·exact .inr ⟨b,s,cap,by rw [p2];exact p1.2 _ _ h7,h8⟩
 |fn f caps=>
  obtain ⟨vals,h1,h2,h3⟩:=hr;exact ⟨vals,h1,h2,λi u c hu hc=>h.repCap (h3 i u c hu hc)⟩
 |nfn=>exact hr
 |u=>trivial
theorem Keep.repCs (h:Keep F fs fs' pl pl' w w') {us:List Value} {cs:List CV} (hr:zT F fs pl w us cs):zT F fs' pl' w' us cs:=
 ⟨hr.1,λi u c hu hc=>⟨h.repC (hr.2 i u c hu hc).1,(hr.2 i u c hu hc).2⟩⟩
theorem Keep.repA (h:Keep F fs fs' pl pl' w w') {v:Value} {a:AV} (hr:zf F fs pl w v a):zf F fs' pl' w' v a:=by
 cases a with
 |c x=>exact h.repC hr
 |agg cs=>
  obtain ⟨us,h1,h2⟩:=hr;exact ⟨us,h1,h.repCs h2⟩
 |tup vs=>
  obtain ⟨us,h1,h2,h3⟩:=hr;refine ⟨us,h1,h2,λi u c hu hc=>?_⟩;rcases h3 i u c hu hc with ⟨e,ys,h4,h5⟩|⟨e,x,h4,h5⟩
  ·exact .inl ⟨e,ys,h4,h.repCs h5⟩
  ·exact .inr ⟨e,x,h4,h.repC h5⟩
theorem Keep.refl:Keep F fs fs pl pl w w:=⟨Step.refl _ _,Later.refl _ _ _⟩
theorem Keep.trans {fs'':List Frame} {pl'':Pl} {w'':World} (h:Keep F fs fs' pl pl' w w') (h':Keep F fs' fs'' pl' pl'' w' w''):Keep F fs fs'' pl pl'' w w'':=
 ⟨h.step.trans (fs:=fs) (fs':=fs') h.later.new h'.step,h.later.trans h'.later h.step.size⟩
structure LaterU (fs fs':List Frame) (pl pl':Pl) (B:Nat):Prop where
 len:fs'.length=fs.length
 blk:∀d n b,zA d n fs=some b->∃b',zA d n fs'=some b'/\(b'.g=0->b.g=0/\Ext (pl d n) (pl' d n)/\b'.sz=b.sz)
 new:∀d n j b s,pl' d n j=some (b,s)->(∃d0 n0 j0 s0,pl d0 n0 j0=some (b,s0))\/B<=b
structure KeepU (fs fs':List Frame) (pl pl':Pl) (w w':World):Prop where
 step:Step pl w w'
 later:LaterU fs fs' pl pl' w.heap.size
theorem Keep.u (h:Keep F fs fs' pl pl' w w'):KeepU fs fs' pl pl' w w':=
 ⟨h.step,h.later.len,λd n b hb=>by
  obtain ⟨b',h1,h2,h3⟩:=h.later.blk d n b hb;exact ⟨b',h1,λe=>by
   have e1:b'.g=b.g:=by omega
   obtain ⟨p1,p2⟩:=h3 e1;exact ⟨by omega,p1,p2⟩⟩,h.later.new⟩
theorem KeepU.refl:KeepU fs fs pl pl w w:=(Keep.refl (F:=λ_=>False)).u
theorem KeepU.trans {fs'':List Frame} {pl'':Pl} {w'':World} (h:KeepU fs fs' pl pl' w w') (h':KeepU fs' fs'' pl' pl'' w' w''):KeepU fs fs'' pl pl'' w w'':=
 ⟨h.step.trans (fs:=fs) (fs':=fs') h.later.new h'.step,h'.later.len.trans h.later.len,λd n b hb=>by
  obtain ⟨b1,h1,h2⟩:=h.later.blk d n b hb;obtain ⟨b2,h3,h4⟩:=h'.later.blk d n b1 h1;refine ⟨b2,h3,λe=>?_⟩;obtain ⟨e1,p1,s1⟩:=h4 e;obtain ⟨e2,p2,s2⟩:=h2 e1;exact ⟨e2,p2.trans p1,s1.trans s2⟩,λd n j b s hp=>by
  rcases h'.later.new d n j b s hp with ⟨d0,n0,j0,s0,h0⟩|h0
  ·exact h.later.new d0 n0 j0 b s0 h0
  ·have:=h.step.size;exact .inr (by omega)⟩
end
end Go.Eng
set_option linter.unusedSimpArgs false
namespace Go.Eng
structure Rel (F:Nat->Prop) {G:Nat->Option Obj} (N0:Base G) (T:Nat) (pl:Pl) (st:St) (a:Act) (w:World):Prop where
 mem:MemOK F N0 (st.fr::st.up) pl w
 tmps:∀n v,zE n st.t=some v->zf F (st.fr::st.up) pl w (a.tmps.getD n undef) v
 size:a.tmps.size=T
 defers:a.defers= []
 low:N0.n<=w.heap.size
section
variable {P:Program} {F:Nat->Prop} {G:Nat->Option Obj} {N0:Base G} {T:Nat} {pl:Pl} {st:St} {a:Act} {w:World} {fs:List Frame}
theorem Ab {v:Value} {x:PV} (h:uI v=some x) {own:Nat->Prop}:RepP own w v x:=by
 unfold uI at h;split at h<;>first|(cases h;constructor;done)|cases h
theorem uM {v:Value} {x:CV} (h:AO v=some x):cM F fs pl w v x/\v.oneCell'=true:=by
 unfold AO at h;split at h
 ·cases h;exact ⟨rfl,rfl⟩
 ·obtain ⟨y,hy,rfl⟩:=zD.1 h;have:=Ab (w:=w) (own:=Own F pl) hy;exact ⟨this,this.one.1⟩
theorem bY {α β:Type} {f:α->Option β}:∀{l:List α} {r:List β},l.mapM f=some r->r.length=l.length/\∀(i:Nat) x y,l[i]?=some x->r[i]?=some y->f x=some y
 | [],r,h=>by simp at h;subst h;simp
 |x::l,r,h=>by
  simp only [List.mapM_cons,Option.pure_def,Option.bind_eq_bind,zK,zS] at h;obtain ⟨y,hy,ys,hys,rfl⟩:=h;obtain ⟨h1,h2⟩:=bY hys;refine ⟨by simp [h1],λi a b ha hb=>?_⟩;cases i with
  |zero=>simp at ha hb;subst ha;subst hb;exact hy
  |succ i=>exact h2 i a b (by simpa using ha) (by simpa using hb)
theorem CI {us:List Value} {cs:List CV} (h:us.mapM AO=some cs):zT F fs pl w us cs:=by
 obtain ⟨h1,h2⟩:=bY h;exact ⟨h1.symm,λi u c hu hc=>⟨(uM (h2 i u c hu hc)).1,.inr (uM (F:=F) (fs:=fs) (pl:=pl) (w:=w) (h2 i u c hu hc)).2⟩⟩
theorem Ac {v:Value} {x:AV} (h:CC v=some x):zf F fs pl w v x:=by
 unfold CC at h;split at h
 ·rename_i cs;obtain ⟨y,hy,rfl⟩:=zD.1 h;exact ⟨cs.toList,by simp,CI hy⟩
 ·cases h;trivial
 ·obtain ⟨y,hy,rfl⟩:=zD.1 h;exact (uM hy).1
theorem zG (hr:Rel F N0 T pl st a w) {x:Operand} {k:KX} (h:kx x=some k):zf F (st.fr::st.up) pl w (a.eval x) (st.eval k):=by
 cases x with
 |tmp t=>
  simp only [kx,zS] at h;subst h;simp only [St.eval,Act.eval];split
  ·exact hr.tmps _ _ ‹_›
  ·trivial
 |const v=>
  simp only [kx] at h;obtain ⟨y,hy,rfl⟩:=zD.1 h;exact Ac hy
 |func f=>
  simp only [kx,zS] at h;subst h;exact ⟨[],rfl,rfl,λi u c hu=>by simp at hu⟩
 |global g=>simp [kx] at h
structure Post (F:Nat->Prop) {G:Nat->Option Obj} (N0:Base G) (pl:Pl) (st:St) (w:World) (v:AV) (st':St) (u:Value) (w':World):Prop where
 ex:∃pl',zf F (st'.fr::st'.up) pl' w' u v/\MemOK F N0 (st'.fr::st'.up) pl' w'/\Keep F (st.fr::st.up) (st'.fr::st'.up) pl pl' w w'
 t:st'.t=st.t
def Runs1 (P:Program) (o:Oper) (a:Act) (w:World) (R:Value->World->Prop):Prop:=
 ∀next:Act->World->Prop,(∀u w',R u w'->next (a.put o.dst u) w')->o.wp P a w next (λ_ _ _=>False)
theorem zg {o:Oper} {R:Value->World->Prop} {u:Value} {w':World} (h:(execOp a.eval o).run P w= .ok (.value u) w') (hr:R u w'):Runs1 P o a w R:=by
 intro next hn
 unfold Oper.wp;rw [h];exact hn u w' hr
def Grow (w w':World):Prop:=w.heap.size<=w'.heap.size/\∀k,k<w.heap.size->w'.heap[k]?=w.heap[k]?
def KeepB (S:Nat->Prop) (w w':World):Prop:=w.heap.size<=w'.heap.size/\∀k,k<w.heap.size->S k->w'.heap[k]?=w.heap[k]?
theorem KeepB.refl (S:Nat->Prop) (w:World):KeepB S w w:=⟨zH _,λ_ _ _=>rfl⟩
theorem KeepB.trans {S:Nat->Prop} {w w' w'':World} (h:KeepB S w w') (h':KeepB S w' w''):KeepB S w w'':=
 ⟨zU h.1 h'.1,λk hk hs=>(h'.2 k (dV hk h.1) hs).trans (h.2 k hk hs)⟩
theorem KeepB.sub {S S':Nat->Prop} {w w':World} (h:KeepB S w w') (hs:∀k,S' k->S k):KeepB S' w w':=⟨h.1,λk hk hk'=>h.2 k hk (hs k hk')⟩
theorem Grow.keepB {w w':World} (h:Grow w w') (S:Nat->Prop):KeepB S w w':=⟨h.1,λk hk _=>h.2 k hk⟩
def noB:Nat->Prop:=λ_=>False
def Runs2 (P:Program) (S:Nat->Prop) (o:Oper) (a:Act) (w:World) (R:Value->World->Prop):Prop:=
 ∃u,R u w/\∀w',KeepB S w w'->(execOp a.eval o).run P w'= .ok (.value u) w'
theorem Grow.refl (w:World):Grow w w:=⟨zH _,λ_ _=>rfl⟩
theorem zc {S:Nat->Prop} {o:Oper} {R:Value->World->Prop} {u:Value} (h:∀w',KeepB S w w'->(execOp a.eval o).run P w'= .ok (.value u) w') (hr:R u w):Runs2 P S o a w R:=⟨u,hr,h⟩
theorem Runs2.r1 {S:Nat->Prop} {o:Oper} {R:Value->World->Prop} (h:Runs2 P S o a w R):Runs1 P o a w R:=by
 obtain ⟨u,h1,h2⟩:=h;exact zg (h2 w (KeepB.refl S w)) h1
theorem Runs2.sub {S S':Nat->Prop} {o:Oper} {R:Value->World->Prop} (h:Runs2 P S o a w R) (hs:∀k,S k->S' k):Runs2 P S' o a w R:=by
 obtain ⟨u,h1,h2⟩:=h;exact ⟨u,h1,λw' hk=>h2 w' (hk.sub hs)⟩
theorem Runs1.mono {o:Oper} {R R':Value->World->Prop} (h:Runs1 P o a w R) (hr:∀u w',R u w'->R' u w'):Runs1 P o a w R':=λnext hn=>h next λu w' h'=>hn u w' (hr u w' h')
def rX (F:Nat->Prop) {G:Nat->Option Obj} (N0:Base G) (pl:Pl) (st:St) (w:World) (v:AV) (st':St) (u:Value) (w':World):Prop:=Post F N0 pl st w v st' u w'/\Grow w w'
theorem eU (w:World) (o:Obj):Grow w {w with heap:=w.heap.push o}:=⟨by simp,λk hk=>by simp [Array.getElem?_push,Nat.ne_of_lt hk]⟩
theorem zQ {v:AV} {u:Value} (hr:Rel F N0 T pl st a w) (h:zf F (st.fr::st.up) pl w u v):Post F N0 pl st w v st u w:=
 ⟨⟨pl,h,hr.mem,Keep.refl⟩,rfl⟩
theorem Ae {o:Oper} {x:Operand} {k:KX} (ho:o.op= .move x\/o.op= .assign x) (hx:kx x=some k) (hr:Rel F N0 T pl st a w):
  Runs2 P noB o a w (Post F N0 pl st w (st.eval k) st):=by
 refine zc (u:=a.eval x) (λw' hg'=>?_) (zQ hr (zG hr hx));rcases ho with ho|ho<;>simp [execOp,ho]
theorem mP {v:Value} {x:Bool} (h:zf F fs pl w v (.c (.p (.b x)))):v= .bool x:=by cases h;rfl
theorem Ag {v:Value} {k:IntKind} {x:Int} (h:zf F fs pl w v (.c (.p (.i k x)))):v= .int k x:=by cases h;rfl
theorem wG {v:Value} {x:ByteArray} (h:zf F fs pl w v (.c (.p (.s x)))):v= .string x:=by cases h;rfl
theorem CJ {o:Oper} {c x y:Operand} {kc ka kb:KX} (ho:o.op= .pick c x y) (hc:kx c=some kc) (hx:kx x=some ka) (hy:kx y=some kb) (hr:Rel F N0 T pl st a w) {t:Bool} (hb:st.eval kc= .c (.p (.b t))):
  Runs2 P noB o a w (Post F N0 pl st w (if t then st.eval ka else st.eval kb) st):=by
 have h1:=zG hr hc;rw [hb] at h1;have h2:=mP h1;refine zc (u:=if t then a.eval x else a.eval y) (λw' hg'=>?_) (zQ hr ?_)
 ·simp [execOp,ho,h2,asBool]
 ·cases t
  ·exact zG hr hy
  ·exact zG hr hx
theorem Ah {op:BinOp} {k:IntKind} {x y:Int} {r:PV} {t:TypeId} (h:qH op k x y=some r):∃u,(∀w,(binOp op t (.int k x) (.int k y)).run P w= .ok u w)/\∀own w,RepP own w u r:=by
 cases op<;>simp only [qH] at h
 case add=>cases h;exact ⟨_,λw=>by simp [binOp,Op.intArith],λ_ _=> .i _ _⟩
 case sub=>cases h;exact ⟨_,λw=>by simp [binOp,Op.intArith],λ_ _=> .i _ _⟩
 case mul=>cases h;exact ⟨_,λw=>by simp [binOp,Op.intArith],λ_ _=> .i _ _⟩
 case quo=>
  split at h
  ·cases h
  ·rename_i h0;cases h;exact ⟨_,λw=>by simp [binOp,Op.intDiv,h0],λ_ _=> .i _ _⟩
 case rem=>
  split at h
  ·cases h
  ·rename_i h0;cases h;exact ⟨_,λw=>by simp [binOp,Op.intDiv,h0],λ_ _=> .i _ _⟩
 case shl=>
  split at h
  ·cases h
  ·rename_i h0;cases h;exact ⟨_,λw=>by simp [binOp,Op.shift,h0],λ_ _=> .i _ _⟩
 case shr=>
  split at h
  ·cases h
  ·rename_i h0;cases h;exact ⟨_,λw=>by simp [binOp,Op.shift,h0],λ_ _=> .i _ _⟩
 case and=>cases h;exact ⟨.int k (k.wrap (BitVec.ofInt k.bits x&&&BitVec.ofInt k.bits y).toNat),λw=>by simp [binOp,Op.intBits],λ_ _=> .i _ _⟩
 case or=>cases h;exact ⟨.int k (k.wrap (BitVec.ofInt k.bits x|||BitVec.ofInt k.bits y).toNat),λw=>by simp [binOp,Op.intBits],λ_ _=> .i _ _⟩
 case xor=>cases h;exact ⟨.int k (k.wrap (BitVec.ofInt k.bits x^^^BitVec.ofInt k.bits y).toNat),λw=>by simp [binOp,Op.intBits],λ_ _=> .i _ _⟩
 case eql=>cases h;exact ⟨_,λw=>by simp [binOp,Op.intCmp],λ_ _=> .b _⟩
 case neq=>cases h;exact ⟨_,λw=>by simp [binOp,Op.intCmp],λ_ _=> .b _⟩
 case lss=>cases h;exact ⟨_,λw=>by simp [binOp,Op.intCmp],λ_ _=> .b _⟩
 case leq=>cases h;exact ⟨_,λw=>by simp [binOp,Op.intCmp],λ_ _=> .b _⟩
 case gtr=>cases h;exact ⟨_,λw=>by simp [binOp,Op.intCmp],λ_ _=> .b _⟩
 case geq=>cases h;exact ⟨_,λw=>by simp [binOp,Op.intCmp],λ_ _=> .b _⟩
 all_goals cases h
theorem Ai {op:BinOp} {x y:ByteArray} {r:PV} {t:TypeId} (h:AH op x y=some r):∃u,(∀w,(binOp op t (.string x) (.string y)).run P w= .ok u w)/\∀own w,RepP own w u r:=by
 cases op<;>simp only [AH] at h
 case add=>
  split at h
  ·rename_i h0;cases h;refine ⟨.string (x++y),λw=>?_,λ_ _=> .s _⟩;have:¬(((x.size+y.size:Nat):Int)>IntKind.i64.max):=by
    show ¬(((x.size+y.size:Nat):Int)>9223372036854775807);omega
   simp only [binOp,Op.stringOp];rw [if_neg this];rfl
  ·cases h
 case eql=>cases h;exact ⟨_,λw=>by simp [binOp,Op.stringOp],λ_ _=> .b _⟩
 case neq=>cases h;exact ⟨_,λw=>by simp [binOp,Op.stringOp],λ_ _=> .b _⟩
 case lss=>cases h;exact ⟨_,λw=>by simp [binOp,Op.stringOp],λ_ _=> .b _⟩
 case leq=>cases h;exact ⟨_,λw=>by simp [binOp,Op.stringOp],λ_ _=> .b _⟩
 case gtr=>cases h;exact ⟨.bool (!(Op.bytesLess x.toList y.toList||x.toList==y.toList)),λw=>by simp only [binOp,Op.stringOp];rfl,λ_ _=> .b _⟩
 case geq=>cases h;exact ⟨_,λw=>by simp [binOp,Op.stringOp],λ_ _=> .b _⟩
 all_goals cases h
end
end Go.Eng
namespace Go.Eng
open Go.RowKit
def aX (pl:Pl) (d n:Nat) (x:Pc):Pl:=λd' n'=>if d'=d/\n'=n then x else pl d' n'
theorem zJ (pl:Pl) (d n:Nat) (x:Pc):aX pl d n x d n=x:=by simp [aX]
theorem aQ (pl:Pl) {d n d' n':Nat} (x:Pc) (h:¬(d'=d/\n'=n)):aX pl d n x d' n'=pl d' n':=by simp [aX,h]
theorem eV {α:Type} (m n:Nat) (x:α):∀l:List (Nat×α),zE m (upd n x l)=if m=n then some x else zE m l
 | []=>by
  by_cases h:n=m
  ·subst h;simp [upd,zE]
  ·simp [upd,zE,h,Ne.symm h,λe:m=n=>h e.symm]
 |(k,a)::r=>by
  by_cases h:k=n
  ·subst h;by_cases h2:m=k
   ·subst h2;simp [upd,zE]
   ·have h3:¬k=m:=λe=>h2 e.symm
    simp [upd,zE,h2,h3]
  ·by_cases h2:k=m
   ·subst h2;simp [upd,zE,h]
   ·simp [upd,zE,h,h2,eV m n x r]
theorem zO {d n:Nat}:∀{fs:List Frame} {B:Blk},zA d n fs=some B->d<fs.length
 | [],B,h=>by simp [zA] at h
 |f::r,B,h=>by
  simp only [zA] at h;split at h
  ·rename_i e;simp;omega
  ·have:=zO h;simp;omega
theorem zX {d n:Nat} {B:Blk} (d' m:Nat):∀{fs:List Frame},d<fs.length->zA d' m (bN d n B fs)=if d'=d/\m=n then some B else zA d' m fs
 | [],h=>by simp at h
 |f::r,h=>by
  simp only [bN];have hl:∀r:List Frame,(bN d n B r).length=r.length:=by
   intro r
   induction r with
   |nil=>rfl
   |cons f r ih=>simp only [bN];split<;>simp [ih]
  by_cases e:d=r.length
  ·rw [if_pos e];simp only [zA];by_cases e':d'=r.length
   ·rw [if_pos e',if_pos e',eV];by_cases e2:m=n
    ·subst e2;simp [e,e']
    ·simp [e2]
   ·rw [if_neg e',if_neg e',if_neg (by omega)]
  ·rw [if_neg e];simp only [zA,hl];by_cases e':d'=r.length
   ·rw [if_pos e',if_pos e',if_neg (by omega)]
   ·rw [if_neg e',if_neg e',zX d' m (by simp at h;omega)]
theorem zr {d n:Nat} {B:Blk}:∀r:List Frame,(bN d n B r).length=r.length:=by
 intro r
 induction r with
 |nil=>rfl
 |cons f r ih=>simp only [bN];split<;>simp [ih]
theorem zR (st:St) (d n:Nat) (B:Blk):(st.set d n B).fr::(st.set d n B).up=bN d n B (st.fr::st.up):=by
 unfold St.set;simp only [bN];by_cases h:d=st.up.length
 ·rw [if_pos h,if_pos h]
 ·rw [if_neg h,if_neg h]
theorem aY (st:St) (d n:Nat) (B:Blk):(st.set d n B).t=st.t:=by unfold St.set;split<;>rfl
section
variable {P:Program} {F:Nat->Prop} {G:Nat->Option Obj} {N0:Base G} {T:Nat} {pl pl':Pl} {st:St} {a:Act} {w w':World} {fs fs':List Frame}
structure One (p:Pc) (w w':World):Prop where
 os:w'.os=w.os
 tape:w'.tape=w.tape
 output:w'.output=w.output
 size:w.heap.size<=w'.heap.size
 block:∀k,k<w.heap.size->(∀j s,p j≠some (k,s))->w'.heap[k]?=w.heap[k]?
theorem eW (hm:MemOK F N0 fs pl w) {d n:Nat} (hd:d<fs.length) {B:Blk} {x:Pc}
  (hg:∀B0,zA d n fs=some B0->B0.g<=B.g/\(B.g=B0.g->Ext (pl d n) x/\B.sz=B0.sz)) (hs:One (pl d n) w w')
  (hx:∀j b s,x j=some (b,s)->(∃d0 n0 j0 s0,pl d0 n0 j0=some (b,s0))\/w.heap.size<=b):Keep F fs (bN d n B fs) pl (aX pl d n x) w w':=by
 refine ⟨⟨hs.os,hs.tape,hs.output,hs.size,λk hk hn=>hs.block k hk (λj s=>hn d n j s)⟩,zr fs,λd' n' b hb=>?_,λd' n' j b s hp=>?_⟩
 ·rw [zX d' n' hd];by_cases e:d'=d/\n'=n
  ·obtain ⟨rfl,rfl⟩:=e;obtain ⟨h1,h2⟩:=hg b hb;exact ⟨B,by simp,h1,λe=>by rw [zJ];exact h2 e⟩
  ·exact ⟨b,by rw [if_neg e];exact hb,zH _,λ_=>⟨Ext.of (aQ pl x e),rfl⟩⟩
 ·by_cases e:d'=d/\n'=n
  ·obtain ⟨rfl,rfl⟩:=e;rw [zJ] at hp;exact hx j b s hp
  ·rw [aQ pl x e] at hp;exact .inl ⟨_,_,_,_,hp⟩
theorem DeepP.keep {F':Nat->Prop} {q:Option (Nat×Nat)} {esz:Nat} {ety:TypeId} {v:Value} {x:PV} (h:DeepP F w pl q esz ety v x) (hP:∀{u y},RepP (Own F pl) w u y->RepP (Own F' pl') w' u y) (hw:∀b s,q=some (b,s)->w'.heap[b]?=w.heap[b]?):DeepP F' w' pl' q esz ety v x:=by
 rcases h with h|⟨inner,b,s,cap,us,h1,h2,h3,h4,h5,h6,h7,h8,h9,h10⟩
 ·exact .inl h
 ·refine .inr ⟨inner,b,s,cap,us,h1,h2,h3,h4,h5,h6,(hw b s h2).trans h7,h8,h9,λj e o y he hy=>?_⟩;obtain ⟨u,hu,hr⟩:=h10 j e o y he hy;exact ⟨u,hu,hP hr⟩
theorem DCell.keep {F':Nat->Prop} {p:Pc} {cols:List (Nat×Nat×TypeId)} {sz j o:Nat} {v:Value} {x:PV} (h:DCell F w pl p cols sz j o v x) (hP:∀{u y},RepP (Own F pl) w u y->RepP (Own F' pl') w' u y) (hw:∀c b s,p (c+1)=some (b,s)->w'.heap[b]?=w.heap[b]?):DCell F' w' pl' p cols sz j o v x:=by
 unfold DCell at h⊢;cases hl:zE o cols with
 |some q=>
  rw [hl] at h;exact DeepP.keep h hP (λb s e=>hw _ b s e)
 |none=>
  rw [hl] at h;exact hP h
theorem bZ (hk:Keep F fs fs' pl pl' w w') {d n:Nat} {B:Blk} (hp:pl' d n=pl d n) (hw:∀j b s,pl d n j=some (b,s)->w'.heap[b]?=w.heap[b]?) (h:zj F fs pl w d n B):zj F fs' pl' w' d n B:=by
 unfold zj at h⊢;cases hB:B.k with
 |box cells=>
  rw [hB] at h;obtain ⟨b,us,h1,h2,h3,h4⟩:=h;exact ⟨b,us,hp.trans h1,(hw 0 b _ (by rw [h1];rfl)).trans h2,hk.repCs h3,h4⟩
 |row rows=>
  rw [hB] at h;rcases h with ⟨h1,h2⟩|⟨b,s,us,h1,h2,h3,h4,h5,h6⟩
  ·exact .inl ⟨h1,hp.trans h2⟩
  ·refine .inr ⟨b,s,us,hp.trans h1,(hw 0 b _ (by rw [h1];rfl)).trans h2,h3,h4,h5,λj e o x he hx=>?_⟩;obtain ⟨v,hv,hr⟩:=h6 j e o x he hx;exact ⟨v,hv,hk.repP hr⟩
 |deep cols rows=>
  rw [hB] at h;rcases h with ⟨h1,h2⟩|⟨b,s,us,h1,h2,h3,h4,h5,h6,h7⟩
  ·exact .inl ⟨h1,hp.trans h2⟩
  ·refine .inr ⟨b,s,us,by rw [hp];exact h1,(hw 0 b _ h1).trans h2,h3,h4,h5,λj e o x he hx=>?_,λj hj=>by rw [hp];exact h7 j hj⟩;obtain ⟨v,hv,hr⟩:=h6 j e o x he hx;refine ⟨v,hv,?_⟩;rw [hp];exact hr.keep (λh=>hk.repP h) (λc b s h=>hw _ b s h)
 |dead=>
  rw [hB] at h;exact hp.trans h
theorem Aj (hm:MemOK F N0 fs pl w) (hN:N0.n<=w.heap.size) {d n:Nat} (hd:d<fs.length) {B:Blk} {x:Pc}
  (hk:Keep F fs (bN d n B fs) pl (aX pl d n x) w w') (hs:One (pl d n) w w')
  (hx:∀j b s,x j=some (b,s)->((∃j0 s0,pl d n j0=some (b,s0))\/(N0.n<=b/\¬F b/\∀d' n' j' s',pl d' n' j'≠some (b,s')))/\b<w'.heap.size) (hi:∀j j' b s s',x j=some (b,s)->x j'=some (b,s')->j=j')
  (hblk:zj F (bN d n B fs) (aX pl d n x) w' d n B):MemOK F N0 (bN d n B fs) (aX pl d n x) w':=by
 refine ⟨λd' n' j b s hp=>?_,λd1 n1 j1 d2 n2 j2 b s s' h1 h2=>?_,λd' n' B' hB=>?_,λk hF=>dV (hm.fsz k hF) hs.size,cU hm (λk hk hn=>hs.block k hk (λj s=>hn d n j s))⟩
 ·by_cases e:d'=d/\n'=n
  ·obtain ⟨rfl,rfl⟩:=e;rw [zJ] at hp;obtain ⟨h1,h2⟩:=hx j b s hp;rw [zX _ _ hd];rcases h1 with ⟨j0,s0,h1⟩|⟨h1,h3,_⟩
   ·obtain ⟨h3,h4,h5,_⟩:=hm.live _ _ _ b s0 h1;exact ⟨h3,h2,h5,B,by simp⟩
   ·exact ⟨h1,h2,h3,B,by simp⟩
  ·rw [aQ pl x e] at hp;obtain ⟨h3,h4,h5,B0,h6⟩:=hm.live _ _ _ b s hp;exact ⟨h3,dV h4 hs.size,h5,B0,by rw [zX _ _ hd,if_neg e];exact h6⟩
 ·by_cases e1:d1=d/\n1=n
  ·obtain ⟨rfl,rfl⟩:=e1;by_cases e2:d2=d1/\n2=n1
   ·obtain ⟨rfl,rfl⟩:=e2;rw [zJ] at h1 h2;exact ⟨rfl,rfl,hi _ _ _ _ _ h1 h2⟩
   ·rw [zJ] at h1;rw [aQ pl x e2] at h2;rcases (hx _ b s h1).1 with ⟨j0,s0,h3⟩|⟨_,_,h3⟩
    ·obtain ⟨q1,q2,_⟩:=hm.inj _ _ _ _ _ _ b s0 s' h3 h2;exact absurd ⟨q1.symm,q2.symm⟩ e2
    ·exact absurd h2 (h3 _ _ _ _)
  ·rw [aQ pl x e1] at h1;by_cases e2:d2=d/\n2=n
   ·obtain ⟨rfl,rfl⟩:=e2;rw [zJ] at h2;rcases (hx _ b s' h2).1 with ⟨j0,s0,h3⟩|⟨_,_,h3⟩
    ·obtain ⟨q1,q2,_⟩:=hm.inj _ _ _ _ _ _ b s s0 h1 h3;exact absurd ⟨q1,q2⟩ e1
    ·exact absurd h1 (h3 _ _ _ _)
   ·rw [aQ pl x e2] at h2;exact hm.inj _ _ _ _ _ _ b s s' h1 h2
 ·rw [zX _ _ hd] at hB;by_cases e:d'=d/\n'=n
  ·rw [if_pos e] at hB;obtain ⟨rfl,rfl⟩:=e;cases hB;exact hblk
  ·rw [if_neg e] at hB;refine bZ hk (aQ pl x e) (λj b s hp=>hs.block b (hm.live _ _ _ b s hp).2.1 (λj' s' h=>?_)) (hm.blk _ _ _ hB);obtain ⟨h1,h2,_⟩:=hm.inj _ _ _ _ _ _ b s s' hp h;exact e ⟨h1,h2⟩
theorem mQ (hm:MemOK F N0 fs pl w) (hN:N0.n<=w.heap.size) {b:Nat} (hb:w.heap.size<=b):N0.n<=b/\¬F b/\∀d' n' j' s',pl d' n' j'≠some (b,s'):=
 ⟨by omega,λhF=>by have:=hm.fsz b hF;omega,λd' n' j' s' h=>by have:=(hm.live _ _ _ b s' h).2.1;omega⟩
theorem gN (hm:MemOK F N0 fs pl w) (hN:N0.n<=w.heap.size) {d n:Nat} (hd:d<fs.length) {B:Blk} {x:Pc}
  (hk:Keep F fs (bN d n B fs) pl (aX pl d n x) w w') (hs:One (pl d n) w w')
  (hx:∀j b s,x j=some (b,s)->((∃j0 s0,pl d n j0=some (b,s0))\/w.heap.size<=b)/\b<w'.heap.size) (hi:∀j j' b s s',x j=some (b,s)->x j'=some (b,s')->j=j')
  (hblk:zj F (bN d n B fs) (aX pl d n x) w' d n B):MemOK F N0 (bN d n B fs) (aX pl d n x) w':=
 Aj hm hN hd hk hs (λj b s h=>⟨(hx j b s h).1.imp id (λh=>mQ hm hN h),(hx j b s h).2⟩) hi hblk
theorem gO {b s:Nat}:∀j j' b' s1 s2,one b s j=some (b',s1)->one b s j'=some (b',s2)->j=j':=λj j' b' s1 s2 h h'=>(aW h).1.trans (aW h').1.symm
theorem gP:∀j j' b' s1 s2,nop j=some (b',s1)->nop j'=some (b',s2)->j=j':=λj j' b' s1 s2 h=>by cases h
theorem iZ {p:Pc} (h:Below w.heap.size w w'):One p w w':=⟨h.os,h.tape,h.output,h.size,λk hk _=>h.block k hk⟩
theorem wH (hr:Rel F N0 T pl st a w) {n sz ty:Nat} {k:BK} {x:Pc} (hb:Below w.heap.size w w') (hx:∀j b s,x j=some (b,s)->w.heap.size<=b/\b<w'.heap.size) (hi:∀j j' b s s',x j=some (b,s)->x j'=some (b,s')->j=j')
  (hblk:Keep F (st.fr::st.up) ((st.new n sz ty k).2.fr::(st.new n sz ty k).2.up) pl (aX pl st.up.length n x) w w'->zj F ((st.new n sz ty k).2.fr::(st.new n sz ty k).2.up) (aX pl st.up.length n x) w' st.up.length n ⟨st.fresh n,sz,ty,k⟩):
  MemOK F N0 ((st.new n sz ty k).2.fr::(st.new n sz ty k).2.up) (aX pl st.up.length n x) w'/\Keep F (st.fr::st.up) ((st.new n sz ty k).2.fr::(st.new n sz ty k).2.up) pl (aX pl st.up.length n x) w w'/\
   zA st.up.length n ((st.new n sz ty k).2.fr::(st.new n sz ty k).2.up)=some ⟨st.fresh n,sz,ty,k⟩:=by
 have hf:(st.new n sz ty k).2.fr::(st.new n sz ty k).2.up=bN st.up.length n ⟨st.fresh n,sz,ty,k⟩ (st.fr::st.up):=by simp [St.new,bN]
 rw [hf] at hblk⊢;have hd:st.up.length<(st.fr::st.up).length:=by simp
 have hk:=eW (B:=⟨st.fresh n,sz,ty,k⟩) (x:=x) hr.mem hd (λB0 h0=>by
  have:zE n st.fr=some B0:=by simpa [zA] using h0
  have e:st.fresh n=B0.g+1:=by simp [St.fresh,this]
  exact ⟨by show B0.g<=st.fresh n;omega,λh=>by have h':st.fresh n=B0.g:=h;omega⟩) (iZ hb) (λj b s h=> .inr (hx j b s h).1)
 exact ⟨gN hr.mem hr.low hd hk (iZ hb) (λj b s h=>⟨.inr (hx j b s h).1,(hx j b s h).2⟩) hi (hblk hk),hk,by rw [zX _ _ hd];simp⟩
theorem eX (hr:Rel F N0 T pl st a w) {n sz ty:Nat} {k:BK} {x:Pc} {u:Value} {v:AV} (hb:Below w.heap.size w w') (hx:∀j b s,x j=some (b,s)->w.heap.size<=b/\b<w'.heap.size) (hi:∀j j' b s s',x j=some (b,s)->x j'=some (b,s')->j=j')
  (hblk:Keep F (st.fr::st.up) ((st.new n sz ty k).2.fr::(st.new n sz ty k).2.up) pl (aX pl st.up.length n x) w w'->zj F ((st.new n sz ty k).2.fr::(st.new n sz ty k).2.up) (aX pl st.up.length n x) w' st.up.length n ⟨st.fresh n,sz,ty,k⟩)
  (hv:zA st.up.length n ((st.new n sz ty k).2.fr::(st.new n sz ty k).2.up)=some ⟨st.fresh n,sz,ty,k⟩->zf F ((st.new n sz ty k).2.fr::(st.new n sz ty k).2.up) (aX pl st.up.length n x) w' u v):
  Post F N0 pl st w v (st.new n sz ty k).2 u w':=by
 obtain ⟨h1,h2,h3⟩:=wH hr hb hx hi hblk;exact ⟨⟨_,hv h3,h1,h2⟩,rfl⟩
theorem dZ (w:World) (o:Obj):Below w.heap.size w {w with heap:=w.heap.push o}:=
 ⟨rfl,rfl,rfl,by simp,λk hk=>by simp [Array.getElem?_push,Nat.ne_of_lt hk]⟩
theorem C9 {o:Oper} {t e:TypeId} {sz dst:Nat} {cols:List (Nat×Nat×TypeId)} (ho:o.op= .assign (.const (.slice none 0 0))) (hr:Rel F N0 T pl st a w):
  Runs1 P o a w (Post F N0 pl st w (.c (.own st.up.length (dst*64) (st.fresh (dst*64)) 0)) (st.new (dst*64) sz e (mH cols [])).2):=by
 refine zg (u:= .slice none 0 0) (w':=w) (by simp [execOp,ho,Act.eval]) ?_;refine eX (x:=nop) hr (Below.refl _ _) (λj b s h=>by cases h) gP (λ_=>by unfold mH;split<;>exact .inl ⟨rfl,zJ ..⟩) (λhg=>?_);exact ⟨rfl,_,hg,zH _,λ_=> .inl ⟨rfl,rfl,by rw [zJ];rfl⟩⟩
theorem kD {v:Value} (h:v.oneCell'=true):v.cells= #[v]:=by cases v<;>first|rfl|cases h
theorem dD {v:Value} {x:AV} (h:zf F fs pl w v x) (hx:∀vs,x≠ .tup vs) (hk:x.cvs.all (·.known)=true):zT F fs pl w v.cells.toList x.cvs:=by
 cases x with
 |tup vs=>exact absurd rfl (hx vs)
 |agg cs=>
  obtain ⟨us,rfl,h2⟩:=h;exact h2
 |c y=>
  have h1:v.oneCell'=true/\v.cells= #[v]:=by
   have h0:cM F fs pl w v y:=h;cases y with
   |p z=>exact RepP.one h0
   |own d n g m=>exact ⟨h0.1,kD h0.1⟩
   |ptr d n g j o=>exact ⟨h0.1,kD h0.1⟩
   |rp row o=>obtain ⟨a,rfl,_⟩:=h0;exact ⟨rfl,rfl⟩
   |sub d n g j o m esz=>exact ⟨h0.1,kD h0.1⟩
   |fn f caps=>obtain ⟨vals,rfl,_⟩:=h0;exact ⟨rfl,rfl⟩
   |nfn=>cases h0;exact ⟨rfl,rfl⟩
   |u=>simp [AV.cvs,CV.known] at hk
  rw [h1.2];exact ⟨rfl,λi u c hu hc=>by
   cases i with
   |zero=>
    simp [AV.cvs] at hu hc;subst hu;subst hc;exact ⟨h,.inr h1.1⟩
   |succ i=>simp at hu⟩
end
section
variable {P:Program} {F:Nat->Prop} {G:Nat->Option Obj} {N0:Base G} {T:Nat} {pl pl':Pl} {st:St} {a:Act} {w w':World} {fs fs':List Frame}
theorem xS {x:CV} {d:Nat} (h:x.dep d=true):x.known=true:=by cases x<;>first|rfl|simp [CV.dep] at h
theorem fF {l:List CV} {d:Nat} (h:l.all (·.dep d)=true):l.all (·.known)=true:=
 zamK.2 λx hx=>xS (zamK.1 h x hx)
theorem cO (b o i:Nat):(⟨b,o,none⟩:Addr).add i=⟨b,o+i,none⟩:=by unfold Addr.add;split<;>simp_all
theorem gA (a:Addr) (m n:Nat):(a.add m).add n=a.add (m+n):=by
 unfold Addr.add;by_cases hm:m=0
 ·subst hm;simp
 ·by_cases hn:n=0
  ·subst hn;simp
  ·rw [if_neg hm,if_neg hn,if_neg (by omega)];simp [Nat.add_assoc]
theorem dR {b:Nat} {us:Array Value} {t:TypeId} {fr:Nat×Nat} (h:w.heap[b]?=some (.cells us t fr)) (o:Nat):w.cell? ⟨b,o,none⟩=us[o]?:=by simp [World.cell?,h]
theorem hZ {d m g j:Nat} {cols:List (Nat×Nat×TypeId)}:∀(l:List PV) (o:Nat),(bK d m g j cols o l).length=l.length
 | [],o=>rfl
 |x::r,o=>by simp [bK,hZ r (o+1)]
def rY (d m g j:Nat) (cols:List (Nat×Nat×TypeId)) (o:Nat) (x:PV):CV:=match zE o cols with|some q=> .sub d m g j o (C2 x) q.1|none=> .p x
theorem iA {d m g j:Nat} {cols:List (Nat×Nat×TypeId)}:∀(l:List PV) (o i:Nat),(bK d m g j cols o l)[i]?=(l[i]?).map (rY d m g j cols (o+i))
 | [],o,i=>by simp [bK]
 |x::r,o,0=>by
  simp only [bK,rY,List.getElem?_cons_zero,zamW,Nat.add_zero]
  all_goals (cases zE o cols<;>rfl)
 |x::r,o,i+1=>by
  simp only [bK,List.getElem?_cons_succ];rw [iA r (o+1) i,show o+1+i=o+(i+1) by omega]
theorem xT {d m g sz ty j o:Nat} {cols:List (Nat×Nat×TypeId)} {rows:List (List PV)} {v:Value} {x:PV} (hB:zA d m fs=some ⟨g,sz,ty,.deep cols rows⟩) (h:DCell F w pl (pl d m) cols sz j o v x):
  cM F fs pl w v (rY d m g j cols o x)/\(rY d m g j cols o x= .u\/v.oneCell'=true):=by
 unfold DCell at h;unfold rY;cases hl:zE o cols with
 |none=>
  rw [hl] at h;have h:RepP (Own F pl) w v x:=h;exact ⟨h,.inr h.one.1⟩
 |some q=>
  rw [hl] at h;rcases h with ⟨h1,rfl,h3⟩|⟨inner,b,s,cap,us,rfl,h2,rfl,h4,h5,h6,_⟩
  ·refine ⟨⟨rfl,_,hB,zH _,λ_=> .inl ⟨rfl,?_⟩⟩,.inr rfl⟩;rcases h1 with rfl|rfl<;>rfl
  ·exact ⟨⟨rfl,_,hB,zH _,λ_=> .inr ⟨b,s,cap,h2,rfl,h4,h5,h6⟩⟩,.inr rfl⟩
theorem mR (hm:MemOK F N0 (st.fr::st.up) pl w) {v:Value} {x:AV} {n:Nat} {cs:List CV} (h:st.read x n=some cs) (hv:zf F (st.fr::st.up) pl w v x):
  ∃ad us,v= .pointer (some ad)/\us.length=n/\(∀(i:Nat) u,us[i]?=some u->w.cell? (ad.add i)=some u)/\zT F (st.fr::st.up) pl w us cs:=by
 unfold St.read at h;split at h
 ·rename_i d m g j o;obtain ⟨h0,B,hB,hg,hv⟩:=hv;have hb:=hm.blk d m B hB;have hB':st.get d m=some B:=hB;split at h
  ·rename_i g' sz ty cells he;rw [hB'] at he;cases he;split at h
   ·rename_i hc;obtain ⟨rfl,hc,hko⟩:=hc;cases h;obtain ⟨b,s,hp,⟨_,rfl⟩|⟨hk2,_⟩⟩:=hv rfl
    rotate_left
    ·exact absurd hk2 hko
    obtain ⟨b',us,h1,h2,h3,h4⟩:=hb;have:b'=b:=by rw [h1] at hp;exact (Prod.mk.inj (Option.some.inj hp)).1
    subst this;refine ⟨_,(us.toList.drop (j*sz+o)).take n,rfl,?_,?_,?_⟩
    ·have:=h3.1;simp at this⊢;omega
    ·intro i u hu;rw [cO,dR h2,<-Array.getElem?_toList];rw [List.getElem?_take,List.getElem?_drop] at hu;split at hu
     ·exact hu
     ·cases hu
    ·refine ⟨by have:=h3.1;simp at this⊢;omega,λi u c hu hc=>?_⟩;rw [List.getElem?_take,List.getElem?_drop] at hu hc;split at hu
     ·exact h3.2 _ _ _ hu (by simpa [*] using hc)
     ·cases hu
   ·cases h
  ·rename_i g' sz ty rows he;rw [hB'] at he;cases he;split at h
   ·rename_i hc;obtain ⟨hc,hko⟩:=hc;subst hc;split at h
    ·rename_i e hj;split at h
     ·rename_i ho;cases h;obtain ⟨b,s,hp,⟨_,rfl⟩|⟨hk2,_⟩⟩:=hv rfl
      rotate_left
      ·exact absurd hk2 hko
      rcases hb with ⟨h1,h2⟩|⟨b',s',us,h1,h2,h3,h4,h5,h6⟩
      ·subst h1;simp at hj
      have:b'=b:=by rw [h1] at hp;exact (Prod.mk.inj (Option.some.inj hp)).1
      subst this;have hel:e.length=sz:=h5 e (aC hj);have hus:∀i,i<n->∃u,us[j*sz+o+i]?=some u:=λi hi=>by
       obtain ⟨v,hv,_⟩:=h6 j e (o+i) _ hj (zh (by omega));exact ⟨v,by rw [Nat.add_assoc];exact hv⟩
      have hlen:j*sz+o+n<=us.size:=by
       by_cases hn:n=0
       ·subst hn;have:(j+1)*sz<=us.size:=by
         have hj':j<rows.length:=by
          by_cases hj':j<rows.length
          ·exact hj'
          ·rw [zamY (by omega)] at hj;cases hj
         have:=dN sz (show j+1<=rows.length by omega);simp only at h4;omega
        rw [Nat.add_mul] at this;omega
       ·obtain ⟨u,hu⟩:=hus (n-1) (by omega);have:=(zamX.1 hu).1;omega
      refine ⟨_,(us.toList.drop (j*sz+o)).take n,rfl,?_,?_,?_⟩
      ·simp;omega
      ·intro i u hu;rw [cO,dR h2,<-Array.getElem?_toList];rw [List.getElem?_take,List.getElem?_drop] at hu;split at hu
       ·exact hu
       ·cases hu
      ·refine ⟨by simp;omega,λi u c hu hc=>?_⟩;rw [List.getElem?_take,List.getElem?_drop] at hu;split at hu
       ·rename_i hi;rw [zamS,List.getElem?_take,if_pos hi,List.getElem?_drop] at hc;obtain ⟨y,hy,rfl⟩:=zD.1 hc;obtain ⟨v,hv,hrep⟩:=h6 j e (o+i) y hj hy;rw [Array.getElem?_toList,Nat.add_assoc] at hu;simp only at hv;rw [hv] at hu;cases hu;exact ⟨hrep,.inr hrep.one.1⟩
       ·cases hu
     ·cases h
    ·cases h
   ·cases h
  ·rename_i g' sz ty cols rows he;rw [hB'] at he;cases he;split at h
   ·rename_i hc;obtain ⟨hc,hko⟩:=hc;subst hc;split at h
    ·rename_i e hj;split at h
     ·rename_i ho;cases h;obtain ⟨b,s,hp,⟨_,rfl⟩|⟨hk2,_⟩⟩:=hv rfl
      rotate_left
      ·exact absurd hk2 hko
      rcases hb with ⟨h1,h2⟩|⟨b',s',us,h1,h2,h3,h4,h5,h6,h7⟩
      ·subst h1;simp at hj
      have:b'=b:=by rw [h1] at hp;exact (Prod.mk.inj (Option.some.inj hp)).1
      subst this;have hel:e.length=sz:=h5 e (aC hj);have hus:∀i,i<n->∃u,us[j*sz+o+i]?=some u:=λi hi=>by
       obtain ⟨v,hv,_⟩:=h6 j e (o+i) _ hj (zh (by omega));exact ⟨v,by rw [Nat.add_assoc];exact hv⟩
      have hlen:j*sz+o+n<=us.size:=by
       by_cases hn:n=0
       ·subst hn;have:(j+1)*sz<=us.size:=by
         have hj':j<rows.length:=by
          by_cases hj':j<rows.length
          ·exact hj'
          ·rw [zamY (by omega)] at hj;cases hj
         have:=dN sz (show j+1<=rows.length by omega);simp only at h4;omega
        rw [Nat.add_mul] at this;omega
       ·obtain ⟨u,hu⟩:=hus (n-1) (by omega);have:=(zamX.1 hu).1;omega
      refine ⟨_,(us.toList.drop (j*sz+o)).take n,rfl,?_,?_,?_⟩
      ·simp;omega
      ·intro i u hu;rw [cO,dR h2,<-Array.getElem?_toList];rw [List.getElem?_take,List.getElem?_drop] at hu;split at hu
       ·exact hu
       ·cases hu
      ·refine ⟨by simp [hZ];omega,λi u c hu hc=>?_⟩;rw [List.getElem?_take,List.getElem?_drop] at hu;split at hu
       ·rename_i hi;rw [iA,List.getElem?_take,if_pos hi,List.getElem?_drop] at hc;obtain ⟨y,hy,rfl⟩:=zD.1 hc;obtain ⟨v,hv,hrep⟩:=h6 j e (o+i) y hj hy;rw [Array.getElem?_toList,Nat.add_assoc] at hu;simp only at hv;rw [hv] at hu;cases hu;exact xT hB hrep
       ·cases hu
     ·cases h
    ·cases h
   ·cases h
  ·cases h
 ·rename_i e o;split at h
  ·rename_i ho;cases h;obtain ⟨ad,rfl,h2,h3⟩:=hv;have hus:∀i,i<e.length->∃u,w.cell? (ad.add i)=some u/\RepP (Own F pl) w u (e.getD i default):=λi hi=>by
    obtain ⟨u,h4,h5⟩:=h3 i _ (zh hi);exact ⟨u,h4,by simpa [List.getD,zh hi] using h5⟩
   have key:∀m,o+m<=e.length->∃us:List Value,us.length=m/\∀i u,us[i]?=some u->w.cell? (ad.add (o+i))=some u/\RepP (Own F pl) w u (e.getD (o+i) default):=by
    intro m
    induction m with
    |zero=>intro _;exact ⟨[],rfl,λi u h=>by simp at h⟩
    |succ m ih=>
     intro hm;obtain ⟨us,h4,h5⟩:=ih (by omega);obtain ⟨u,h6,h7⟩:=hus (o+m) (by omega);refine ⟨us++ [u],by simp [h4],λi y hy=>?_⟩;by_cases hi:i<us.length
     ·rw [zanA hi] at hy;exact h5 i y hy
     ·rw [zanB (by omega)] at hy;have:i=m:=by
       by_cases h0:i-us.length=0
       ·omega
       ·obtain ⟨q,hq⟩:∃q,i-us.length=q+1:=⟨i-us.length-1,by omega⟩;rw [hq] at hy;simp at hy
      subst this;simp [h4] at hy;subst hy;exact ⟨h6,h7⟩
   obtain ⟨us,h4,h5⟩:=key n ho;refine ⟨_,us,rfl,h4,λi u hu=>by rw [gA];exact (h5 i u hu).1,by simp [h4];omega,λi u c hu hc=>?_⟩;have hi:i<n:=by
    rw [<-h4];by_cases hi:i<us.length
    ·exact hi
    ·rw [zamY (by omega)] at hu;cases hu
   rw [zamS,List.getElem?_take,if_pos hi,List.getElem?_drop] at hc;obtain ⟨y,hy,rfl⟩:=zD.1 hc;have h6:=(h5 i u hu).2;rw [List.getD_eq_getElem?_getD,hy] at h6;exact ⟨h6,.inr h6.one.1⟩
  ·cases h
 ·cases h
theorem jA {t:TypeId} {g:Bool} (h:dP P t=some g):(isAgg t).run P w= .ok g w:=by
 unfold dP at h;cases hu:P.underlying t with
 |none=>simp [hu] at h
 |some d=>
  rw [hu] at h;simp only [isAgg,Sem.run_bind,run_underlying hu,Result.andThen_ok];cases d<;>simp at h<;>subst h<;>rfl
theorem oO {t:TypeId} {g:Bool} (h:dP P t=some g):∃i,P.info? t=some i:=by
 cases hi:P.info? t with
 |some i=>exact ⟨i,rfl⟩
 |none=>
  exfalso;have:P.underlying t=none:=by simp [Program.underlying,hi]
  simp [dP,this] at h
theorem uN {g:Bool} {us:List Value} {cs:List CV} {v:AV} (h:fR g cs=some v) (hr:zT F fs pl w us cs):
  (g=true/\zf F fs pl w (.agg us.toArray) v)\/(g=false/\∃u,us= [u]/\zf F fs pl w u v):=by
 unfold fR at h;split at h
 ·cases h;exact .inl ⟨rfl,us,rfl,hr⟩
 ·cases h;rename_i x
  match us,hr.1 with
  | [u],_=>exact .inr ⟨rfl,u,rfl,(hr.2 0 u x rfl rfl).1⟩
 ·cases h
theorem kZ {t:TypeId} {g:Bool} (hg:dP P t=some g) {ad:Addr} {us:List Value} (hl:us.length=P.cellsOf t) (hc:∀(i:Nat) u,us[i]?=some u->w.cell? (ad.add i)=some u):
  (g=true->(loadVar t ad).run P w= .ok (.agg us.toArray) w)/\(g=false->∀u,us= [u]->(loadVar t ad).run P w= .ok u w):=by
 obtain ⟨i,hi⟩:=oO hg;refine ⟨λe=>?_,λe u hu=>?_⟩
 ·subst e;simp only [loadVar,Sem.run_bind,jA hg,Result.andThen_ok,if_true,run_sizeOf _ hi];rw [<-hl,run_loadCells_list w ad us hc];rfl
 ·subst e;subst hu;have:=hc 0 u rfl;have e0:ad.add 0=ad:=by simp [Addr.add]
  rw [e0] at this;simp [loadVar,jA hg,this]
theorem xU {S:Nat->Prop} (hg:KeepB S w w') {ad:Addr} {u:Value} (hS:S ad.block) (h:w.cell? ad=some u):w'.cell? ad=some u:=
 (World.cell?_of_block (hg.2 _ (World.block_lt_of_cell? w ad h) hS)).trans h
theorem CK {o:Oper} {t:TypeId} {x:Operand} {k:KX} {g:Bool} {cs:List CV} {v:AV} (ho:o.op= .load t x) (hx:kx x=some k) (hg:dP P t=some g) (hr:Rel F N0 T pl st a w)
  (h1:st.read (st.eval k) (P.cellsOf t)=some cs) (h2:fR g cs=some v):Runs2 P (λb=>∃ad:Addr,a.eval x= .pointer (some ad)/\ad.block=b) o a w (Post F N0 pl st w v st):=by
 obtain ⟨ad,us,h3,h4,h5,h6⟩:=mR hr.mem h1 (zG hr hx);have l:=λ(w':World) (hg':KeepB (λb=>∃ad:Addr,a.eval x= .pointer (some ad)/\ad.block=b) w w')=>kZ (w:=w') hg h4 λi u hu=>xU hg' ⟨ad,h3,by unfold Addr.add;split<;>rfl⟩ (h5 i u hu)
 rcases uN h2 h6 with ⟨e,h7⟩|⟨e,u,h8,h7⟩
 ·exact zc (u:= .agg us.toArray) (λw' hg'=>by simp [execOp,ho,Instr.loadAt,h3,Instr.sureAddr,(l w' hg').1 e]) (zQ hr h7)
 ·exact zc (u:=u) (λw' hg'=>by simp [execOp,ho,Instr.loadAt,h3,Instr.sureAddr,(l w' hg').2 e u h8]) (zQ hr h7)
theorem Ak {o:Oper} {e:TypeId} {v:Value} {x:AV} {dst sz:Nat} (ho:(execOp a.eval o).run P w= .ok (.value (.pointer (some ⟨w.heap.size,0,none⟩))) {w with heap:=w.heap.push (.cells v.cells e)}) (hr:Rel F N0 T pl st a w)
  (hv:zf F (st.fr::st.up) pl w v x) (ht:∀vs,x≠ .tup vs) (h1:x.cvs.length=sz) (h2:x.dep st.up.length=true):
  Runs1 P o a w (rX F N0 pl st w (.c (st.new (dst*64) sz e (.box x.cvs)).1) (st.new (dst*64) sz e (.box x.cvs)).2):=by
 have hc:=dD hv ht (fF h2);refine zg ho ⟨eX (x:=one w.heap.size x.cvs.length) hr (dZ _ _) (λj b s h=>by cases (aW h).2;exact ⟨zH _,by simp⟩) gO (λhk=>?_) (λhg=>?_),eU _ _⟩
 ·exact ⟨w.heap.size,v.cells,zJ ..,by simp,hk.repCs hc,λc hc'=>zamK.1 h2 c hc'⟩
 ·exact ⟨rfl,_,hg,zH _,λ_=>⟨w.heap.size,_,by rw [zJ];rfl,.inl ⟨by decide,by simp⟩⟩⟩
theorem CL {o:Oper} {e:TypeId} {v:Value} {cs:List CV} {n sz:Nat} (ho:(execOp a.eval o).run P w= .ok (.value (.pointer (some ⟨w.heap.size,0,none⟩))) {w with heap:=w.heap.push (.cells v.cells e)}) (hr:Rel F N0 T pl st a w)
  (hc:zT F (st.fr::st.up) pl w v.cells.toList cs) (h2:cs.all (·.dep st.up.length)=true):
  Runs1 P o a w (rX F N0 pl st w (.c (st.new n sz e (.box cs)).1) (st.new n sz e (.box cs)).2):=by
 refine zg ho ⟨eX (x:=one w.heap.size cs.length) hr (dZ _ _) (λj b s h=>by cases (aW h).2;exact ⟨zH _,by simp⟩) gO (λhk=>?_) (λhg=>?_),eU _ _⟩
 ·exact ⟨w.heap.size,v.cells,zJ ..,by simp,hk.repCs hc,λc hc'=>zamK.1 h2 c hc'⟩
 ·exact ⟨rfl,_,hg,zH _,λ_=>⟨w.heap.size,_,by rw [zJ];rfl,.inl ⟨by decide,by simp⟩⟩⟩
theorem rZ (hr:Rel F N0 T pl st a w) (n sz ty:Nat):Rel F N0 T (aX pl st.up.length n nop) (st.new n sz ty (.row [])).2 a w/\Keep F (st.fr::st.up) ((st.new n sz ty (.row [])).2.fr::(st.new n sz ty (.row [])).2.up) pl (aX pl st.up.length n nop) w w/\
  zA st.up.length n ((st.new n sz ty (.row [])).2.fr::(st.new n sz ty (.row [])).2.up)=some ⟨st.fresh n,sz,ty,.row []⟩:=by
 obtain ⟨h1,h2,h3⟩:=wH (w':=w) (n:=n) (sz:=sz) (ty:=ty) (k:= .row []) (x:=nop) hr (Below.refl _ _) (λj b s h=>by cases h) gP (λ_=> .inl ⟨rfl,zJ ..⟩);exact ⟨⟨h1,λm v hv=>h2.repA (hr.tmps m v hv),hr.size,hr.defers,hr.low⟩,h2,h3⟩
theorem sA {fs fs':List Frame} {pl pl':Pl} {d n sz ty g col:Nat} {us:List Value} {cs:List CV} (hr:zT F fs pl w us cs) (hk:Keep F fs fs' pl pl' w w) (hcol:xN (cs[col]?)=true) (hg:zA d n fs'=some ⟨g,sz,ty,.row []⟩) (hp:pl' d n=nop):
  zT F fs' pl' w us (cs.set col (.own d n g 0)):=by
 have hcol:cs[col]?=some (.p .nl):=by
  unfold xN at hcol;split at hcol
  ·assumption
  ·cases hcol
 have hr2:=hk.repCs hr;refine ⟨by simp [hr2.1],λi u c hu hc=>?_⟩;rw [List.getElem?_set] at hc;split at hc
 ·rename_i e;subst e;split at hc
  ·cases hc;have h3:RepP (Own F pl) w u .nl:=(hr.2 col u _ hu hcol).1;generalize hu':u=u' at h3;cases h3;subst hu';exact ⟨⟨rfl,_,hg,zH _,λ_=> .inl ⟨rfl,rfl,by rw [hp];rfl⟩⟩,.inr rfl⟩
  ·cases hc
 ·exact hr2.2 i u c hu hc
theorem Al {d n g col:Nat} {cs:List CV} (h:cs.all (·.dep d)=true):(cs.set col (.own d n g 0)).all (·.dep d)=true:=by
 rw [zamK];intro c hc;rcases List.mem_or_eq_of_mem_set hc with h'|rfl
 ·exact zamK.1 h c h'
 ·simp [CV.dep]
end
section
variable {P:Program} {F:Nat->Prop} {G:Nat->Option Obj} {N0:Base G} {T:Nat} {pl pl':Pl} {st st':St} {a:Act} {w w':World} {fs fs':List Frame}
structure Same (F:Nat->Prop) {G:Nat->Option Obj} (N0:Base G) (pl:Pl) (st st':St) (w:World) (pl':Pl):Prop where
 mem:MemOK F N0 (st'.fr::st'.up) pl' w
 keep:Keep F (st.fr::st.up) (st'.fr::st'.up) pl pl' w w
 t:st'.t=st.t
theorem Same.refl (hm:MemOK F N0 (st.fr::st.up) pl w):Same F N0 pl st st w pl:=⟨hm,Keep.refl,rfl⟩
theorem Same.trans {st'':St} {pl'':Pl} (h:Same F N0 pl st st' w pl') (h':Same F N0 pl' st' st'' w pl''):Same F N0 pl st st'' w pl'':=⟨h'.mem,h.keep.trans h'.keep,h'.t.trans h.t⟩
theorem eB {p:Pc} {b s b' s':Nat} (h:p 0=some (b,s)) (h1:p=one b' s'):b'=b/\s'=s:=by
 rw [h1] at h;cases h;exact ⟨rfl,rfl⟩
theorem wI {p:Pc} {b s b' s':Nat} (h:p 0=some (b,s)) (h1:p=one b' s'):b=b'/\s=s':=⟨(eB h h1).1.symm,(eB h h1).2.symm⟩
theorem dS {p:Pc} {b s:Nat} (h:p 0=some (b,s)) (h1:p=nop):False:=by rw [h1] at h;cases h
theorem jB {p:Pc}:One p w w:=⟨rfl,rfl,rfl,zH _,λ_ _ _=>rfl⟩
theorem oP (a:Addr) (i:Nat):(a.add i).block=a.block:=by unfold Addr.add;split<;>rfl
theorem kE (hm:MemOK F N0 fs pl w) {v:Value} {d n g m:Nat} {sz ty:Nat} {rows:List (List PV)} (hv:cM F fs pl w v (.own d n g m)) (hB:zA d n fs=some ⟨g,sz,ty,.row rows⟩) (hml:m=rows.length)
  {own':Nat->Prop} (h1:∀b s,pl d n 0=some (b,s)->¬own' b) (h2:∀{u x},RepP (Own F pl) w u x->RepP own' w u x):RepP own' w v (.ls rows):=by
 obtain ⟨h0,B,h3,h4,h5⟩:=hv;rw [hB] at h3;cases h3;have hb:=hm.blk d n _ hB;rcases h5 rfl with ⟨rfl,hm0,hp⟩|⟨b,s,cap,hp,rfl,hs,hmc,hcm⟩
 ·have:rows= []:=bR (by omega);subst this;exact .nls
 ·rcases hb with ⟨h6,h7⟩|⟨b',s',us,h6,h7,h8,h9,h10,h11⟩
  ·exact (dS hp h7).elim
  ·obtain ⟨rfl,rfl⟩:=eB hp h6;simp only at h7 h9 h10 h11;refine .ls (sz:=sz) (λj o=>us.getD (j*sz+o) .nilIface) hml.symm hmc (zU hmc hcm) (λ_=>⟨h1 _ _ hp,(zamX.1 (by simpa using h7)).1⟩) (λj e he=>⟨h10 e (aC he),λo x hx=>?_⟩) (λj e o x he hx=>?_)
   ·obtain ⟨v,hv,_⟩:=h11 j e o x he hx;rw [cO,Nat.zero_add,dR h7,hv];simp [Array.getD_eq_getD_getElem?,hv]
   ·obtain ⟨v,hv,hr⟩:=h11 j e o x he hx;have:us.getD (j*sz+o) .nilIface=v:=by simp [Array.getD_eq_getD_getElem?,hv]
    rw [this];exact h2 hr
theorem iJ (hm:MemOK F N0 (st.fr::st.up) pl w) (hN:N0.n<=w.heap.size) {v:Value} {c:CV} {y:PV} (h:cD st c=some (y,st')) (hv:cM F (st.fr::st.up) pl w v c):
  ∃pl',Same F N0 pl st st' w pl'/\RepP (Own F pl') w v y:=by
 unfold cD at h;split at h
 ·cases h;exact ⟨pl,Same.refl hm,RepP.weak hv⟩
 ·rename_i d n g m;split at h
  ·rename_i g' sz ty rows hB;split at h
   ·rename_i hc;obtain ⟨rfl,hml⟩:=hc;cases h;have hB':zA d n (st.fr::st.up)=some ⟨g,sz,ty,.row rows⟩:=hB;have hd:=zO hB';have hk:=eW (B:=⟨g+1,sz,ty,.dead⟩) (x:=nop) hm hd (λB0 h0=>by
     rw [hB'] at h0;cases h0;exact ⟨by simp,λe=>by simp at e⟩) (jB (w:=w)) (λj b s h=>by cases h)
    have hmem:=gN hm hN hd hk jB (λj b s h=>by cases h) gP (by show aX pl d n nop d n=nop;exact zJ ..);refine ⟨aX pl d n nop,⟨by rw [zR];exact hmem,by rw [zR];exact hk,aY ..⟩,?_⟩;refine kE hm hv hB' hml (λb s hp hown=>?_) (λhr=>hk.repP hr);rcases hown with hF|⟨d',n',j',s',hp'⟩
    ·exact (hm.live _ _ _ _ _ hp).2.2.1 hF
    ·by_cases e:d'=d/\n'=n
     ·obtain ⟨rfl,rfl⟩:=e;rw [zJ] at hp';cases hp'
     ·rw [aQ pl nop e] at hp';obtain ⟨e1,e2,_⟩:=hm.inj _ _ _ _ _ _ _ _ _ hp' hp;exact e ⟨e1,e2⟩
   ·cases h
  ·cases h
 ·cases h
def RepPs (own:Nat->Prop) (w:World) (us:List Value) (ps:List PV):Prop:=us.length=ps.length/\∀(i:Nat) u x,us[i]?=some u->ps[i]?=some x->RepP own w u x
theorem RepPs.cs {us:List Value} {ps:List PV} (h:RepPs (Own F pl) w us ps):zT F fs pl w us (ps.map .p):=
 ⟨by rw [zamV];exact h.1,λi u c hu hc=>by
  rw [zamS] at hc;obtain ⟨x,hx,rfl⟩:=zD.1 hc;have:=h.2 i u x hu hx;exact ⟨this,.inr this.one.1⟩⟩
theorem eC:∀{cs:List CV} {st st':St} {pl:Pl} {ps:List PV} {us:List Value},MemOK F N0 (st.fr::st.up) pl w->N0.n<=w.heap.size->aP st cs=some (ps,st')->zT F (st.fr::st.up) pl w us cs->
  ∃pl',Same F N0 pl st st' w pl'/\RepPs (Own F pl') w us ps
 | [],st,st',pl,ps,us,hm,hN,h,hv=>by
  simp only [aP,zS,zamL] at h;obtain ⟨rfl,rfl⟩:=h;have:us= []:=bR hv.1;subst this;exact ⟨pl,Same.refl hm,rfl,λi u x hu=>by simp at hu⟩
 |c::r,st,st',pl,ps,us,hm,hN,h,hv=>by
  simp only [aP,zK,Prod.exists] at h;obtain ⟨y,st1,h1,qs,st2,h2,h3⟩:=h;simp only [zS,zamL] at h3;obtain ⟨rfl,rfl⟩:=h3
  match us,hv with
  |u::us,hv=>
   obtain ⟨pl1,s1,r1⟩:=iJ hm hN h1 (hv.2 0 u c rfl rfl).1;have hv':zT F (st1.fr::st1.up) pl1 w us r:=s1.keep.repCs ⟨by simpa using hv.1,λi u c hu hc=>hv.2 (i+1) u c (by simpa using hu) (by simpa using hc)⟩;obtain ⟨pl2,s2,r2⟩:=eC s1.mem hN h2 hv';refine ⟨pl2,s1.trans s2,by simp [r2.1],λi u' x hu hx=>?_⟩;cases i with
   |zero=>simp at hu hx;subst hu;subst hx;exact s2.keep.repP r1
   |succ i=>exact r2.2 i u' x (by simpa using hu) (by simpa using hx)
  | [],hv=>simp [zT] at hv
theorem aD {α:Type} (l xs:List α) (o:Nat) (h:o+xs.length<=l.length) (i:Nat):(zb l o xs)[i]?=if o<=i/\i<o+xs.length then xs[i-o]? else l[i]?:=by
 unfold zb;by_cases h1:i<o
 ·rw [if_neg (by omega),List.append_assoc,zanA (by simp;omega),List.getElem?_take,if_pos h1]
 ·by_cases h2:i<o+xs.length
  ·rw [if_pos ⟨by omega,h2⟩,List.append_assoc,zanB (by simp;omega),zanA (by simp;omega)]
   congr 1
   simp;omega
  ·rw [if_neg (by omega),zanB (by simp;omega),List.getElem?_drop]
   congr 1
   simp;omega
theorem zu {α:Type} (l xs:List α) (o:Nat) (h:o+xs.length<=l.length):(zb l o xs).length=l.length:=by unfold zb;simp;omega
theorem iK {p:Pc} {b s j:Nat} (hp:p j=some (b,s)) (row:Array Value):One p w (w.setRow b row):=by
 refine ⟨rfl,rfl,rfl,by simp [World.setRow],λk hk hn=>?_⟩;have hne:k≠b:=λe=>hn j s (e▸hp)
 simp only [World.setRow];rw [Array.getElem?_modify];simp [Ne.symm hne]
theorem gD {b:Nat} (row:Array Value):KeepB (λk=>k≠b) w (w.setRow b row):=by
 refine ⟨by simp [World.setRow],λk hk hne=>?_⟩;simp only [World.setRow];rw [Array.getElem?_modify];simp [Ne.symm hne]
theorem fG {b:Nat} {old cs:Array Value} {t:TypeId} (hg:w.heap[b]?=some (.cells old t (0,0))):(w.setRow b cs).heap[b]?=some (.cells cs t (0,0)):=setRow_heap w b old cs t _ hg
theorem wJ {us:List Value} {xs:List CV} (h:zT F fs pl w us xs) (hk:xs.all (·.known)=true):∀v∈us,v.oneCell'=true:=by
 intro v hv;obtain ⟨i,hi,rfl⟩:=List.getElem_of_mem hv;have hx:i<xs.length:=by have:=h.1;omega
 rcases (h.2 i _ _ (zh hi) (zh hx)).2 with e|e
 ·have:=zamK.1 hk _ (List.getElem_mem hx);rw [e] at this;cases this
 ·exact e
def lP (pl:Pl) (d m idx d2 n2:Nat):Pl:=λd' n'=>if d'=d/\n'=m then (λi=>if i=idx then pl d2 n2 0 else pl d m i) else if d'=d2/\n'=n2 then nop else pl d' n'
theorem eJ (pl:Pl) (d m idx d2 n2:Nat):lP pl d m idx d2 n2 d m=λi=>if i=idx then pl d2 n2 0 else pl d m i:=by simp [lP]
theorem wK (pl:Pl) {d m idx d2 n2:Nat} (hne:¬(d=d2/\m=n2)):lP pl d m idx d2 n2 d2 n2=nop:=by
 unfold lP;rw [if_neg (λe=>hne ⟨e.1.symm,e.2.symm⟩),if_pos ⟨rfl,rfl⟩]
theorem mS (pl:Pl) {d m idx d2 n2 d' n':Nat} (h1:¬(d'=d/\n'=m)) (h2:¬(d'=d2/\n'=n2)):lP pl d m idx d2 n2 d' n'=pl d' n':=by
 unfold lP;rw [if_neg h1,if_neg h2]
theorem lY {pl:Pl} {d m idx d2 n2 d' n' i:Nat} {x:Nat×Nat} (hne:¬(d=d2/\m=n2)) (h:lP pl d m idx d2 n2 d' n' i=some x):
  (d'=d/\n'=m/\i=idx/\pl d2 n2 0=some x)\/(pl d' n' i=some x/\¬(d'=d2/\n'=n2)/\¬(d'=d/\n'=m/\i=idx)):=by
 by_cases e1:d'=d/\n'=m
 ·obtain ⟨rfl,rfl⟩:=e1;rw [eJ] at h;by_cases e3:i=idx
  ·simp only [if_pos e3] at h;exact .inl ⟨rfl,rfl,e3,h⟩
  ·simp only [if_neg e3] at h;exact .inr ⟨h,hne,λe=>e3 e.2.2⟩
 ·by_cases e2:d'=d2/\n'=n2
  ·obtain ⟨rfl,rfl⟩:=e2;rw [wK pl hne] at h;cases h
  ·rw [mS pl e1 e2] at h;exact .inr ⟨h,e2,λe=>e1 ⟨e.1,e.2.1⟩⟩
theorem xV (hm:MemOK F N0 fs pl w) {d m d2 n2 idx:Nat} (hne:¬(d=d2/\m=n2)) (hi:idx≠0) (hfree:pl d m idx=none) {B B1 B2 R1:Blk} (hB:zA d m fs=some B1) (hR:zA d2 n2 fs=some R1)
  (hBg:B.g=B1.g) (hBs:B.sz=B1.sz) (hRg:R1.g<B2.g) (hs:One (pl d m) w w') (hlen:fs'.length=fs.length) (hfs:∀d' n',zA d' n' fs'=if d'=d/\n'=m then some B else if d'=d2/\n'=n2 then some B2 else zA d' n' fs):
  Keep F fs fs' pl (lP pl d m idx d2 n2) w w':=by
 refine ⟨⟨hs.os,hs.tape,hs.output,hs.size,λk hk hn=>hs.block k hk (λj s=>hn d m j s)⟩,hlen,λd' n' b hb=>?_,λd' n' i b s h=>?_⟩
 ·rw [hfs];by_cases e1:d'=d/\n'=m
  ·obtain ⟨rfl,rfl⟩:=e1;rw [hB] at hb;cases hb;refine ⟨B,by rw [if_pos ⟨rfl,rfl⟩],by omega,λ_=>⟨⟨?_,λi x hx=>?_⟩,hBs⟩⟩
   ·rw [eJ];simp only [if_neg (Ne.symm hi)]
   ·rw [eJ];by_cases e:i=idx
    ·subst e;rw [hfree] at hx;cases hx
    ·simp only [if_neg e];exact hx
  ·rw [if_neg e1];by_cases e2:d'=d2/\n'=n2
   ·obtain ⟨rfl,rfl⟩:=e2;rw [hR] at hb;cases hb;exact ⟨B2,by rw [if_pos ⟨rfl,rfl⟩],Nat.le_of_lt hRg,λe=>by omega⟩
   ·exact ⟨b,by rw [if_neg e2];exact hb,zH _,λ_=>⟨Ext.of (mS pl e1 e2),rfl⟩⟩
 ·rcases lY hne h with ⟨_,_,_,h1⟩|⟨h1,_,_⟩
  ·exact .inl ⟨_,_,_,_,h1⟩
  ·exact .inl ⟨_,_,_,_,h1⟩
theorem Am (hm:MemOK F N0 fs pl w) {d m d2 n2 idx:Nat} (hne:¬(d=d2/\m=n2)) {B B2:Blk} {B1 R1:Blk} (hB:zA d m fs=some B1) (hR:zA d2 n2 fs=some R1)
  (hdead:B2.k= .dead) (hs:One (pl d m) w w') (hfs:∀d' n',zA d' n' fs'=if d'=d/\n'=m then some B else if d'=d2/\n'=n2 then some B2 else zA d' n' fs)
  (hK:Keep F fs fs' pl (lP pl d m idx d2 n2) w w') (hblk:zj F fs' (lP pl d m idx d2 n2) w' d m B):MemOK F N0 fs' (lP pl d m idx d2 n2) w':=by
 refine ⟨λd' n' i b s h=>?_,λe1 m1 i1 e2 m2 i2 b s s' h1 h2=>?_,λd' n' Bx hBx=>?_,λk hk=>dV (hm.fsz k hk) hs.size,cU hm hK.step.block⟩
 ·have fin:∀{d0 n0 i0},pl d0 n0 i0=some (b,s)->N0.n<=b/\b<w'.heap.size/\¬F b:=fun {d0 n0 i0} h=>by
   obtain ⟨a1,a2,a3,_⟩:=hm.live _ _ _ _ _ h;exact ⟨a1,dV a2 hs.size,a3⟩
  rcases lY hne h with ⟨rfl,rfl,_,h1⟩|⟨h1,e2,_⟩
  ·obtain ⟨a1,a2,a3⟩:=fin h1;exact ⟨a1,a2,a3,B,by rw [hfs,if_pos ⟨rfl,rfl⟩]⟩
  ·obtain ⟨a1,a2,a3⟩:=fin h1;obtain ⟨_,_,_,Bq,a4⟩:=hm.live _ _ _ _ _ h1;refine ⟨a1,a2,a3,?_⟩;rw [hfs];by_cases e1:d'=d/\n'=m
   ·exact ⟨B,by rw [if_pos e1]⟩
   ·exact ⟨Bq,by rw [if_neg e1,if_neg e2];exact a4⟩
 ·rcases lY hne h1 with ⟨rfl,rfl,rfl,g1⟩|⟨g1,k1,k2⟩<;>rcases lY hne h2 with ⟨rfl,rfl,rfl,g2⟩|⟨g2,k3,k4⟩
  ·exact ⟨rfl,rfl,rfl⟩
  ·obtain ⟨rfl,rfl,_⟩:=hm.inj _ _ _ _ _ _ _ _ _ g1 g2;exact absurd ⟨rfl,rfl⟩ k3
  ·obtain ⟨rfl,rfl,_⟩:=hm.inj _ _ _ _ _ _ _ _ _ g2 g1;exact absurd ⟨rfl,rfl⟩ k1
  ·exact hm.inj _ _ _ _ _ _ _ _ _ g1 g2
 ·rw [hfs] at hBx;by_cases e1:d'=d/\n'=m
  ·rw [if_pos e1] at hBx;cases hBx;obtain ⟨rfl,rfl⟩:=e1;exact hblk
  ·rw [if_neg e1] at hBx;by_cases e2:d'=d2/\n'=n2
   ·rw [if_pos e2] at hBx;cases hBx;obtain ⟨rfl,rfl⟩:=e2;unfold zj;rw [hdead];exact wK pl hne
   ·rw [if_neg e2] at hBx;refine bZ hK (mS pl e1 e2) (λi b s h=>hs.block b (hm.live _ _ _ _ _ h).2.1 (λj s' h'=>?_)) (hm.blk d' n' Bx hBx);obtain ⟨a1,a2,_⟩:=hm.inj _ _ _ _ _ _ _ _ _ h h';exact e1 ⟨a1,a2⟩
theorem qO {cols:List (Nat×Nat×TypeId)}:∀{xs:List CV} {o:Nat} {ys:List PV} {q:Option (Nat×Nat×TypeId×Nat×Nat×Nat×Nat)},uC cols o xs=some (ys,q)->ys.length=xs.length/\
  (∀(i:Nat) c,xs[i]?=some c->(zE (o+i) cols=none/\∃y,c= .p y/\ys[i]?=some y.weak)\/
   (∃esz ety d n g m,zE (o+i) cols=some (esz,ety)/\c= .own d n g m/\ys[i]?=some .nl/\q=some (o+i,esz,ety,d,n,g,m)))/\
  ∀k esz ety d n g m,q=some (k,esz,ety,d,n,g,m)->o<=k/\zE k cols=some (esz,ety)/\xs[k-o]?=some (.own d n g m)
 | [],o,ys,q,h=>by
  simp only [uC,zS,zamL] at h;obtain ⟨rfl,rfl⟩:=h;exact ⟨rfl,λi c hc=>by simp at hc,λk esz ety d n g m h=>by cases h⟩
 |x::r,o,ys,q,h=>by
  simp only [uC,zK,Prod.exists] at h;obtain ⟨l,q1,h1,h⟩:=h;obtain ⟨k1,k2,k3⟩:=qO h1;split at h
  ·rename_i y hl;simp only [zS,zamL] at h;obtain ⟨rfl,rfl⟩:=h;refine ⟨by simp [k1],λi c hc=>?_,λk esz ety d n g m e=>?_⟩
   ·cases i with
    |zero=>cases hc;exact .inl ⟨hl,y,rfl,rfl⟩
    |succ i=>
     have:=k2 i c (by simpa using hc);rw [show o+1+i=o+(i+1) by omega] at this;simpa using this
   ·obtain ⟨a1,a2,a3⟩:=k3 k esz ety d n g m e;refine ⟨by omega,a2,?_⟩;rw [show k-o=(k-(o+1))+1 by omega];simpa using a3
  ·rename_i esz ety d n g m hl;simp only [zS,zamL] at h;obtain ⟨rfl,rfl⟩:=h;refine ⟨by simp [k1],λi c hc=>?_,λk esz' ety' d' n' g' m' e=>?_⟩
   ·cases i with
    |zero=>cases hc;exact .inr ⟨esz,ety,d,n,g,m,hl,rfl,rfl,rfl⟩
    |succ i=>
     rcases k2 i c (by simpa using hc) with ⟨a1,a2⟩|⟨_,_,_,_,_,_,_,_,_,a⟩
     ·rw [show o+1+i=o+(i+1) by omega] at a1;exact .inl ⟨a1,by simpa using a2⟩
     ·cases a
   ·cases e;exact ⟨zH _,hl,by simp⟩
  ·cases h
theorem DCell.at {F:Nat->Prop} {w:World} {pl:Pl} {p p':Pc} {cols:List (Nat×Nat×TypeId)} {sz j o:Nat} {v:Value} {x:PV} (h:DCell F w pl p cols sz j o v x) (hp:p' (j*sz+o+1)=p (j*sz+o+1)):DCell F w pl p' cols sz j o v x:=by
 unfold DCell at h⊢;rw [hp];exact h
theorem sB {j j' o o' sz:Nat} (ho:o<sz) (ho':o'<sz) (h:¬(j'=j/\o'=o)):j'*sz+o'≠j*sz+o:=by
 intro e;rcases Nat.lt_trichotomy j' j with hlt|he|hlt
 ·have:=dN sz (show j'+1<=j by omega);rw [Nat.add_mul] at this;omega
 ·subst he;exact h ⟨rfl,by omega⟩
 ·have:=dN sz (show j+1<=j' by omega);rw [Nat.add_mul] at this;omega
theorem uO (hm:MemOK F N0 (st.fr::st.up) pl w) (hN:N0.n<=w.heap.size) {d m g j o sz ty:Nat} {cols:List (Nat×Nat×TypeId)} {rows:List (List PV)} (hB:zA d m (st.fr::st.up)=some ⟨g,sz,ty,.deep cols rows⟩) {v:Value}
  (hv:∃b s,pl d m 0=some (b,s)/\v= .pointer (some ⟨b,j*sz+o,none⟩)) {us:List Value} {xs:List CV} (hxs:zT F (st.fr::st.up) pl w us xs) {ys:List PV} {q:Option (Nat×Nat×TypeId×Nat×Nat×Nat×Nat)} (hq:uC cols o xs=some (ys,q))
  {e:List PV} (hj:rows[j]?=some e) (ho:o+ys.length<=e.length)
  (h:(match (generalizing:=false) q with
   |none=>some (st.set d m ⟨g,sz,ty,.deep cols (rows.set j (zb e o ys))⟩)
   |some (k,esz,ety,d2,n2,g2,m2)=>match st.get d2 n2,e[k]? with
    |some ⟨g2',esz',ety',.row rows2⟩,some .nl=>if g2=g2'/\esz'=esz/\ety'=ety/\m2=rows2.length then
      some ((st.set d2 n2 ⟨g2+1,esz,ety,.dead⟩).set d m ⟨g,sz,ty,.deep cols (rows.set j ((zb e o ys).set k (.ls rows2)))⟩) else none
    |_,_=>none)=some st'):
  ∃ad w' pl',v= .pointer (some ad)/\(storeCells ad us).run P w= .ok () w'/\MemOK F N0 (st'.fr::st'.up) pl' w'/\Keep F (st.fr::st.up) (st'.fr::st'.up) pl pl' w w'/\st'.t=st.t/\KeepB (λk=>k≠ad.block) w w':=by
 obtain ⟨b,s,hp,rfl⟩:=hv;obtain ⟨q1,q2,q3⟩:=qO hq;rcases hm.blk d m _ hB with ⟨h1,h2⟩|⟨b',s',cur,h1,h2,h3,h4,h5,h6,h7⟩
 ·have h1:rows= []:=h1;subst h1;simp at hj
 have hbs:b'=b/\s'=s:=by rw [hp] at h1;cases h1;exact ⟨rfl,rfl⟩
 obtain ⟨rfl,rfl⟩:=hbs;simp only at h2 h4 h5 h6 h7;have hjl:j<rows.length:=(zamJ.1 hj).1;have hel:e.length=sz:=h5 e (aC hj);have hmul:=dN sz (show j+1<=rows.length by omega);rw [Nat.add_mul] at hmul;have hul:=hxs.1;have hone:∀v∈us,v.oneCell'=true:=λv hv=>by
  obtain ⟨i,hi,rfl⟩:=List.getElem_of_mem hv;have hx:i<xs.length:=by omega
  rcases (hxs.2 i _ _ (zh hi) (zh hx)).2 with e1|e1
  ·rcases q2 i _ (zh hx) with ⟨_,y,e2,_⟩|⟨_,_,_,_,_,_,_,e2,_⟩<;>(rw [e1] at e2;cases e2)
  ·exact e1
 have hrun:=run_storeCells_at (P:=P) b' (j*sz+o) ty us 0 cur w h2 (by simp only [Nat.add_zero];omega) hone;simp only [Nat.add_zero] at hrun;have hd:=zO hB;have hset:(cur.toList.take (j*sz+o)++us++cur.toList.drop (j*sz+o+us.length))=zb cur.toList (j*sz+o) us:=rfl;rw [hset] at hrun;have hs:=iK (w:=w) hp (zb cur.toList (j*sz+o) us).toArray;have hkb:=gD (w:=w) (b:=b') (zb cur.toList (j*sz+o) us).toArray;have hheap:(w.setRow b' (zb cur.toList (j*sz+o) us).toArray).heap[b']?=some (.cells (zb cur.toList (j*sz+o) us).toArray ty (0,0)):=fG h2;generalize w.setRow b' (zb cur.toList (j*sz+o) us).toArray=w2 at hrun hs hkb hheap⊢;have hc2:j*sz+o+us.length<=cur.toList.length:=by simp;omega
 have hnest:∀c b2 s2,pl d m (c+1)=some (b2,s2)->w2.heap[b2]?=w.heap[b2]?:=λc b2 s2 h=>by
  refine hkb.2 b2 (hm.live _ _ _ _ _ h).2.1 (λe=>?_);subst e;have:=(hm.inj _ _ _ _ _ _ _ _ _ h hp).2.2;omega
 have olt:∀{e2:List PV} {j' o':Nat} {x':PV},rows[j']?=some e2->e2[o']?=some x'->o'<sz:=fun {e2 j' o' x'} h1 h2=>by
  rw [<-h5 e2 (aC h1)];exact (zamJ.1 h2).1
 have mk:∀(pl2:Pl) (e':List PV) (fs2:List Frame),e'.length=sz->pl2 d m 0=some (b',s')->(∀{u x},RepP (Own F pl) w u x->RepP (Own F pl2) w2 u x)->
   (∀o' x',e'[o']?=some x'->∃v,(zb cur.toList (j*sz+o) us)[j*sz+o']?=some v/\DCell F w2 pl2 (pl2 d m) cols sz j o' v x')->
   (∀j' o',j'≠j->o'<sz->pl2 d m (j'*sz+o'+1)=pl d m (j'*sz+o'+1))->(∀c,rows.length*sz<=c->pl2 d m (c+1)=none)->
   zj F fs2 pl2 w2 d m ⟨g,sz,ty,.deep cols (rows.set j e')⟩:=λpl2 e' fs2 hle hp2 hPP hcells hold hend=>by
  refine .inr ⟨b',s',(zb cur.toList (j*sz+o) us).toArray,hp2,hheap,by simp [zu _ _ _ hc2];omega,by simpa using h4,?_,?_,?_⟩
  ·intro e2 he2;rcases List.mem_or_eq_of_mem_set he2 with h8|rfl
   ·exact h5 _ h8
   ·exact hle
  ·intro j' e2 o' x' hj' ho';simp only [List.getElem?_toArray];by_cases e1:j'=j
   ·subst e1;rw [List.getElem?_set_self hjl] at hj';cases hj';exact hcells o' x' ho'
   ·rw [List.getElem?_set_ne (Ne.symm e1)] at hj';obtain ⟨v,hv,hr⟩:=h6 j' e2 o' x' hj' ho';have ho2:=olt hj' ho';have hne:¬(j*sz+o<=j'*sz+o'/\j'*sz+o'<j*sz+o+us.length):=by
     intro hcon;rcases Nat.lt_or_gt_of_ne e1 with hlt|hlt
     ·have:=dN sz (show j'+1<=j by omega);rw [Nat.add_mul] at this;omega
     ·have:=dN sz (show j+1<=j' by omega);rw [Nat.add_mul] at this;omega
    refine ⟨v,?_,?_⟩
    ·rw [aD _ _ _ hc2,if_neg hne];simpa using hv
    ·exact (hr.keep (λh=>hPP h) (λc b2 s2 h=>hnest c b2 s2 h)).at (hold j' o' e1 ho2)
  ·simpa using hend
 have old:∀(pl2:Pl) (o':Nat) (x':PV),(∀{u x},RepP (Own F pl) w u x->RepP (Own F pl2) w2 u x)->pl2 d m (j*sz+o'+1)=pl d m (j*sz+o'+1)->(zb e o ys)[o']?=some x'->
   (∀k esz ety d n g m,q=some (k,esz,ety,d,n,g,m)->o'≠k)->∃v,(zb cur.toList (j*sz+o) us)[j*sz+o']?=some v/\DCell F w2 pl2 (pl2 d m) cols sz j o' v x':=λpl2 o' x' hPP hp2 hx' hk=>by
  rw [aD _ _ _ ho] at hx';rw [aD _ _ _ hc2];by_cases hi:o<=o'/\o'<o+ys.length
  ·rw [if_pos hi] at hx';rw [if_pos (by omega)];have hlt:o'-o<us.length:=by omega
   have hlx:o'-o<xs.length:=by omega
   rw [show j*sz+o'-(j*sz+o)=o'-o by omega];refine ⟨us[o'-o],zh hlt,?_⟩;have hr:=(hxs.2 (o'-o) _ _ (zh hlt) (zh hlx)).1;rcases q2 (o'-o) _ (zh hlx) with ⟨a1,y,a2,a3⟩|⟨_,_,_,_,_,_,_,_,_,a⟩
   ·rw [a2] at hr;rw [hx'] at a3;cases a3;rw [show o+(o'-o)=o' by omega] at a1;unfold DCell;rw [a1];exact hPP (RepP.weak hr)
   ·exact absurd (show o'=o+(o'-o) by omega) (hk _ _ _ _ _ _ _ a)
  ·rw [if_neg hi] at hx';rw [if_neg (by omega)];obtain ⟨v,hv,hr⟩:=h6 j e o' x' hj hx';exact ⟨v,by simpa using hv,(hr.keep (λh=>hPP h) (λc b2 s2 h=>hnest c b2 s2 h)).at hp2⟩
 have hle0:(zb e o ys).length=sz:=by rw [zu _ _ _ ho];exact hel
 cases q with
 |none=>
  simp only [zS] at h;subst h;have hk:=eW (B:=⟨g,sz,ty,.deep cols (rows.set j (zb e o ys))⟩) (x:=pl d m) hm hd (λB0 hB0=>by rw [hB] at hB0;cases hB0;exact ⟨zH _,λ_=>⟨Ext.refl _,rfl⟩⟩) hs (λj b s h=> .inl ⟨_,_,j,s,h⟩);refine ⟨_,_,_,rfl,hrun,?_,by rw [zR];exact hk,aY ..,hkb⟩;rw [zR];refine gN hm hN hd hk hs (λj b s h=>⟨.inl ⟨j,s,h⟩,dV (hm.live _ _ _ _ _ h).2.1 hs.size⟩) (λj j' b s s' h h'=>(hm.inj _ _ _ _ _ _ _ _ _ h h').2.2) ?_;refine mk _ _ _ hle0 (by rw [zJ];exact hp) (λh=>hk.repP h) (λo' x' hx'=>old _ o' x' (λh=>hk.repP h) (by rw [zJ]) hx' (λ_ _ _ _ _ _ _ h=>by cases h)) (λj' o' _ _=>by rw [zJ]) (λc hc=>by rw [zJ];exact h7 c hc)
 |some t=>
  obtain ⟨k,esz,ety,d2,n2,g2,m2⟩:=t;simp only at h;split at h
  ·rename_i g2' esz' ety' rows2 hR hek;split at h
   ·rename_i hc;obtain ⟨rfl,rfl,rfl,hm2⟩:=hc;simp only [zS] at h;subst h;obtain ⟨k1,k2,k3⟩:=q3 _ _ _ _ _ _ _ rfl;have hR':zA d2 n2 (st.fr::st.up)=some ⟨g2,esz',ety',.row rows2⟩:=hR;have hne:¬(d=d2/\m=n2):=λe=>by
     obtain ⟨rfl,rfl⟩:=e;rw [hB] at hR';cases hR'
    have hksz:k<sz:=by rw [<-hel];exact (zamJ.1 hek).1
    have hfree:pl d m (j*sz+k+1)=none:=by
     obtain ⟨v,_,hr⟩:=h6 j e k _ hj hek;unfold DCell at hr;rw [k2] at hr;rcases hr with ⟨_,_,e3⟩|⟨_,_,_,_,_,e1,_⟩
     ·exact e3
     ·cases e1
    have hd2:=zO hR';have hfs:∀d' n',zA d' n' (((st.set d2 n2 ⟨g2+1,esz',ety',.dead⟩).set d m ⟨g,sz,ty,.deep cols (rows.set j ((zb e o ys).set k (.ls rows2)))⟩).fr::((st.set d2 n2 ⟨g2+1,esz',ety',.dead⟩).set d m ⟨g,sz,ty,.deep cols (rows.set j ((zb e o ys).set k (.ls rows2)))⟩).up)=
      if d'=d/\n'=m then some ⟨g,sz,ty,.deep cols (rows.set j ((zb e o ys).set k (.ls rows2)))⟩ else if d'=d2/\n'=n2 then some ⟨g2+1,esz',ety',.dead⟩ else zA d' n' (st.fr::st.up):=λd' n'=>by
     rw [zR,zX d' n' (by rw [zR,zr];exact hd),zR,zX d' n' hd2]
    have hlen:(((st.set d2 n2 ⟨g2+1,esz',ety',.dead⟩).set d m ⟨g,sz,ty,.deep cols (rows.set j ((zb e o ys).set k (.ls rows2)))⟩).fr::((st.set d2 n2 ⟨g2+1,esz',ety',.dead⟩).set d m ⟨g,sz,ty,.deep cols (rows.set j ((zb e o ys).set k (.ls rows2)))⟩).up).length=(st.fr::st.up).length:=by
     rw [zR,zr,zR,zr]
    have hk:=xV (idx:=j*sz+k+1) (B:=⟨g,sz,ty,.deep cols (rows.set j ((zb e o ys).set k (.ls rows2)))⟩) (B2:=⟨g2+1,esz',ety',.dead⟩) hm hne (Nat.succ_ne_zero _) hfree hB hR' rfl rfl (Nat.lt_succ_self _) hs hlen hfs;have hPP:∀{u x},RepP (Own F pl) w u x->RepP (Own F (lP pl d m (j*sz+k+1) d2 n2)) w2 u x:=λh=>hk.repP h
    refine ⟨_,_,_,rfl,hrun,Am hm hne hB hR' rfl hs hfs hk (mk _ _ _ (by simpa using hle0) (by rw [eJ];simp only [if_neg (Ne.symm (Nat.succ_ne_zero _))];exact hp) hPP (λo' x' hx'=>?_) (λj' o' hjj ho'=>?_) (λc hc=>?_)),hk,by rw [aY,aY],hkb⟩
    ·by_cases e1:o'=k
     ·subst e1;have hkl:o'<(zb e o ys).length:=by rw [hle0];exact hksz
      rw [List.getElem?_set_self hkl] at hx';cases hx';have hlx:=(zamJ.1 k3).1;have hlt:o'-o<us.length:=by omega
      have hr:=(hxs.2 (o'-o) _ _ (zh hlt) k3).1;refine ⟨us[o'-o],?_,?_⟩
      ·rw [aD _ _ _ hc2,if_pos (by omega),show j*sz+o'-(j*sz+o)=o'-o by omega];exact zh hlt
      ·unfold DCell;rw [k2,eJ];simp only [if_pos];obtain ⟨r1,Bq,r2,r3,r4⟩:=hr;rw [hR'] at r2;cases r2;rcases r4 rfl with ⟨a1,a2,a3⟩|⟨b2,s2,cap,a1,a2,a3,a4,a5⟩
       ·exact .inl ⟨.inr (by rw [bR (hm2.symm.trans a2)]),a1,a3⟩
       ·rcases hm.blk d2 n2 _ hR' with ⟨c1,c2⟩|⟨b3,s3,us3,c1,c2,c3,c4,c5,c6⟩
        ·exact (dS a1 c2).elim
        ·obtain ⟨rfl,rfl⟩:=eB a1 c1;refine .inr ⟨rows2,b3,s3,cap,us3,rfl,a1,by rw [<-hm2];exact a2,a3,by rw [<-hm2];exact a4,a5,?_,c3,c5,λj2 e2 o2 y he2 hy=>?_⟩
         ·refine (hkb.2 b3 (hm.live _ _ _ _ _ a1).2.1 (λe=>?_)).trans c2;subst e;obtain ⟨g1,g3,_⟩:=hm.inj _ _ _ _ _ _ _ _ _ hp a1;exact hne ⟨g1,g3⟩
         ·obtain ⟨u,hu,hru⟩:=c6 j2 e2 o2 y he2 hy;exact ⟨u,hu,hPP hru⟩
     ·rw [List.getElem?_set_ne (Ne.symm e1)] at hx';refine old _ o' x' hPP ?_ hx' (λk' esz ety d n g m h=>by cases h;exact e1);rw [eJ];simp only;rw [if_neg (by omega)]
    ·rw [eJ];simp only;have:=sB (j:=j) (j':=j') hksz ho' (λe=>hjj e.1);rw [if_neg (by omega)]
    ·rw [eJ];simp only;rw [if_neg (by omega)];exact h7 c hc
   ·cases h
  ·cases h
theorem mT (hm:MemOK F N0 (st.fr::st.up) pl w) (hN:N0.n<=w.heap.size) {v:Value} {x:AV} {us:List Value} {xs:List CV} (h:st.write x xs=some st') (hv:zf F (st.fr::st.up) pl w v x) (hxs:zT F (st.fr::st.up) pl w us xs):
  ∃ad w' pl',v= .pointer (some ad)/\(storeCells ad us).run P w= .ok () w'/\MemOK F N0 (st'.fr::st'.up) pl' w'/\Keep F (st.fr::st.up) (st'.fr::st'.up) pl pl' w w'/\st'.t=st.t/\KeepB (λk=>k≠ad.block) w w':=by
 unfold St.write at h;split at h
 ·rename_i d m g j o;obtain ⟨h0,B,hB,hg,hv⟩:=hv;have hB':st.get d m=some B:=hB;split at h
  ·rename_i g' sz ty cells he;rw [hB'] at he;cases he;split at h
   ·rename_i hc;obtain ⟨rfl,hc,hdep,hko⟩:=hc;cases h;obtain ⟨b,s,hp,⟨_,rfl⟩|⟨hk2,_⟩⟩:=hv rfl
    rotate_left
    ·exact absurd hk2 hko
    obtain ⟨b',cur,h1,h2,h3,h4⟩:=hm.blk d m _ hB;have hp0:=h1;obtain ⟨rfl,rfl⟩:=eB hp h1;have hul:=hxs.1;have hcl:cur.size=cells.length:=by simpa using h3.1
    have hrun:=run_storeCells_at (P:=P) b' (j*sz+o) ty us 0 cur w h2 (by simp only [Nat.add_zero];omega) (wJ hxs (fF hdep));simp only [Nat.add_zero] at hrun;have hd:=zO hB;have hs:=iK (w:=w) hp (cur.toList.take (j*sz+o)++us++cur.toList.drop (j*sz+o+us.length)).toArray;have hk:=eW (B:=⟨g,sz,ty,.box (zb cells (j*sz+o) xs)⟩) (x:=pl d m) hm hd (λB0 hB0=>by rw [hB] at hB0;cases hB0;exact ⟨zH _,λ_=>⟨Ext.refl _,rfl⟩⟩) hs (λj b s h=> .inl ⟨_,_,j,s,h⟩);refine ⟨_,_,_,rfl,hrun,?_,by rw [zR];exact hk,aY ..,gD _⟩;rw [zR];refine gN hm hN hd hk hs (λj b s h=>⟨.inl ⟨j,s,h⟩,dV (hm.live _ _ _ _ _ h).2.1 hs.size⟩) (λj j' b s s' h h'=>(hm.inj _ _ _ _ _ _ _ _ _ h h').2.2) ?_;refine ⟨b',(cur.toList.take (j*sz+o)++us++cur.toList.drop (j*sz+o+us.length)).toArray,?_,fG h2,?_,?_⟩
    ·rw [zJ,hp0,zu _ _ _ hc]
    ·have hset:(cur.toList.take (j*sz+o)++us++cur.toList.drop (j*sz+o+us.length))=zb cur.toList (j*sz+o) us:=rfl;simp only [List.toList_toArray];rw [hset];have hc2:j*sz+o+us.length<=cur.toList.length:=by simp;omega
     refine ⟨by rw [zu _ _ _ hc2,zu _ _ _ hc];simpa using hcl,λi u c hu hc'=>?_⟩;rw [aD _ _ _ hc2] at hu;rw [aD _ _ _ hc] at hc';by_cases hi:j*sz+o<=i/\i<j*sz+o+us.length
     ·rw [if_pos hi] at hu;rw [if_pos (by omega)] at hc';exact (hk.repCs hxs).2 _ _ _ hu hc'
     ·rw [if_neg hi] at hu;rw [if_neg (by omega)] at hc';exact (hk.repCs h3).2 _ _ _ hu hc'
    ·intro c hc';obtain ⟨i,hi,rfl⟩:=List.getElem_of_mem hc';have hi2:=zh hi;rw [aD _ _ _ hc] at hi2;split at hi2
     ·exact zamK.1 hdep _ (aC hi2)
     ·exact h4 _ (aC hi2)
   ·cases h
  ·rename_i hB2;simp only [zK,Prod.exists] at h;obtain ⟨ys,st1,hf,h⟩:=h;obtain ⟨pl1,s1,r1⟩:=eC hm hN hf hxs;split at h
   ·rename_i g' sz ty rows hB1;split at h
    ·rename_i hgg;obtain ⟨hgg,hko⟩:=hgg;subst hgg;split at h
     ·rename_i e hj;split at h
      ·rename_i ho;cases h;have hB1':zA d m (st1.fr::st1.up)=some ⟨g,sz,ty,.row rows⟩:=hB1;have hv1:=s1.keep.repC (c:= .ptr d m g j o) ⟨h0,B,hB,hg,hv⟩;obtain ⟨_,B1,hB1'',_,hv2⟩:=hv1;rw [hB1'] at hB1'';cases hB1'';obtain ⟨b,s,hp,⟨_,rfl⟩|⟨hk2,_⟩⟩:=hv2 rfl
       rotate_left
       ·exact absurd hk2 hko
       rcases s1.mem.blk d m _ hB1' with ⟨h1,h2⟩|⟨b',s',cur,h1,h2,h3,h4,h5,h6⟩
       ·subst h1;simp at hj
       have hp0:=h1;obtain ⟨rfl,rfl⟩:=eB hp h1;simp only at h2 h4 h5 h6;have hjl:j<rows.length:=by
        by_cases hj':j<rows.length
        ·exact hj'
        ·rw [zamY (by omega)] at hj;cases hj
       have hel:e.length=sz:=h5 e (aC hj);have hmul:=dN sz (show j+1<=rows.length by omega);rw [Nat.add_mul] at hmul;have hul:=r1.1;have hone:∀v∈us,v.oneCell'=true:=λv hv=>by
        obtain ⟨i,hi,rfl⟩:=List.getElem_of_mem hv;exact (r1.2 i _ _ (zh hi) (zh (by omega))).one.1
       have hrun:=run_storeCells_at (P:=P) b' (j*sz+o) ty us 0 cur w h2 (by simp only [Nat.add_zero];omega) hone;simp only [Nat.add_zero] at hrun;have hd:=zO hB1';have hs:=iK (w:=w) hp (cur.toList.take (j*sz+o)++us++cur.toList.drop (j*sz+o+us.length)).toArray;have hk:=eW (B:=⟨g,sz,ty,.row (rows.set j (zb e o ys))⟩) (x:=pl1 d m) s1.mem hd (λB0 hB0=>by rw [hB1'] at hB0;cases hB0;exact ⟨zH _,λ_=>⟨Ext.refl _,rfl⟩⟩) hs (λj b s h=> .inl ⟨_,_,j,s,h⟩);refine ⟨_,_,_,rfl,hrun,?_,by rw [zR];exact s1.keep.trans hk,by rw [aY];exact s1.t,gD _⟩;rw [zR];refine gN s1.mem hN hd hk hs (λj b s h=>⟨.inl ⟨j,s,h⟩,dV (s1.mem.live _ _ _ _ _ h).2.1 hs.size⟩) (λj j' b s s' h h'=>(s1.mem.inj _ _ _ _ _ _ _ _ _ h h').2.2) ?_;have hset:(cur.toList.take (j*sz+o)++us++cur.toList.drop (j*sz+o+us.length))=zb cur.toList (j*sz+o) us:=rfl;have hc2:j*sz+o+us.length<=cur.toList.length:=by simp;omega
       refine .inr ⟨b',s',(zb cur.toList (j*sz+o) us).toArray,by rw [zJ];exact hp0,by rw [<-hset];exact fG h2,by simp [zu _ _ _ hc2];omega,by simpa using h4,?_,?_⟩
       ·intro e' he';rcases List.mem_or_eq_of_mem_set he' with h7|rfl
        ·exact h5 _ h7
        ·rw [zu _ _ _ ho];exact hel
       ·intro j' e' o' x' hj' ho';have hel':e'.length=sz:=by
         have he':=aC hj';rcases List.mem_or_eq_of_mem_set he' with h7|rfl
         ·exact h5 _ h7
         ·rw [zu _ _ _ ho];exact hel
        have ho2:o'<sz:=by
         rw [<-hel'];by_cases h7:o'<e'.length
         ·exact h7
         ·rw [zamY (by omega)] at ho';cases ho'
        simp only [List.getElem?_toArray];rw [aD _ _ _ hc2];by_cases e1:j'=j
        ·subst e1;rw [List.getElem?_set_self hjl] at hj';cases hj';rw [aD _ _ _ ho] at ho';by_cases hi:o<=o'/\o'<o+ys.length
         ·rw [if_pos hi] at ho';rw [if_pos (by omega)];have hlt:o'-o<us.length:=by omega
          refine ⟨us[o'-o],by rw [show j'*sz+o'-(j'*sz+o)=o'-o by omega];exact zh hlt,hk.repP (r1.2 _ _ _ (zh hlt) ho')⟩
         ·rw [if_neg hi] at ho';rw [if_neg (by omega)];obtain ⟨v,hv,hr⟩:=h6 j' e o' x' hj ho';exact ⟨v,by simpa using hv,hk.repP hr⟩
        ·rw [List.getElem?_set_ne (Ne.symm e1)] at hj';have hne:¬(j*sz+o<=j'*sz+o'/\j'*sz+o'<j*sz+o+us.length):=by
          intro hcon;rcases Nat.lt_or_gt_of_ne e1 with hlt|hlt
          ·have:=dN sz (show j'+1<=j by omega);rw [Nat.add_mul] at this;omega
          ·have:=dN sz (show j+1<=j' by omega);rw [Nat.add_mul] at this;omega
         rw [if_neg hne];obtain ⟨v,hv,hr⟩:=h6 j' e' o' x' hj' ho';exact ⟨v,by simpa using hv,hk.repP hr⟩
      ·cases h
     ·cases h
    ·cases h
   ·cases h
  ·rename_i g' sz ty cols rows he;rw [hB'] at he;cases he;obtain ⟨⟨ys,q⟩,hq,h⟩:=zK.1 h;simp only at h;split at h
   ·rename_i hgg;obtain ⟨rfl,hko⟩:=hgg;split at h
    ·rename_i e hj;split at h
     ·rename_i ho;obtain ⟨b,s,hp,⟨_,rfl⟩|⟨hk2,_⟩⟩:=hv rfl
      rotate_left
      ·exact absurd hk2 hko
      exact uO hm hN hB ⟨b,s,hp,rfl⟩ hxs hq hj ho h
     ·cases h
    ·cases h
   ·cases h
  ·cases h
 ·cases h
end
section
variable {P:Program} {F:Nat->Prop} {G:Nat->Option Obj} {N0:Base G} {T:Nat} {pl pl':Pl} {st st':St} {a:Act} {w w':World} {fs fs':List Frame}
theorem kF {o:Oper} {R:Value->World->Prop} {w':World} (h:(execOp a.eval o).run P w= .ok .skip w') (hr:R undef w'):Runs1 P o a w R:=by
 intro next hn
 unfold Oper.wp;rw [h];exact hn undef w' hr
theorem dJ {v:Value} {x:PV} (h:zf F fs pl w v (.c (.p x))):RepP (Own F pl) w v x:=h
theorem An {o:Oper} {t:TypeId} {x y:Operand} {kx' ky:KX} (ho:o.op= .store t x y) (hx:kx x=some kx') (hy:kx y=some ky) (hi:∃i,P.info? t=some i) (hr:Rel F N0 T pl st a w)
  (ht:∀vs,st.eval ky≠ .tup vs) (hl:(st.eval ky).cvs.length=P.cellsOf t) (hk:(st.eval ky).cvs.all (·.known)=true) (hw:st.write (st.eval kx') (st.eval ky).cvs=some st'):Runs1 P o a w (λu w'=>Post F N0 pl st w (.c .u) st' u w'/\KeepB (λb=>∃ad:Addr,a.eval x= .pointer (some ad)/\b≠ad.block) w w'):=by
 obtain ⟨i,hi⟩:=hi;have hc:=dD (zG hr hy) ht hk;obtain ⟨ad,w',pl',h1,h2,h3,h4,h5,h6⟩:=mT (P:=P) hr.mem hr.low hw (zG hr hx) hc;refine kF (w':=w') ?_ ⟨⟨⟨pl',trivial,h3,h4⟩,h5⟩,h6.sub λb ⟨ad',e,hb⟩=>by rw [h1] at e;cases e;exact hb⟩;have hsz:(a.eval y).cells.size=P.cellsOf t:=by rw [<-hl,<-hc.1];simp
 simp [execOp,ho,Instr.storeAt,h1,Instr.sureAddr,storeVar,run_sizeOf _ hi,hsz,h2]
theorem dK {op:BinOp} {t:TypeId} {x y:Operand} {u v:Value} (h1:u≠ .nilIface\/v≠ .nilIface) (h2:∀cs,u≠ .agg cs):(eqGuard op t x y u v).run P w= .ok () w:=by
 unfold eqGuard;cases op<;>simp
 all_goals
  split
  ·simp at h1
  ·exact absurd rfl (h2 _)
  ·rfl
theorem aM {op:BinOp} {t:TypeId} {x y:Operand} {u v r:Value} (hg:(eqGuard op t x y u v).run P w= .ok () w) (hb:(binOp op t u v).run P w= .ok r w) {o:Oper} {yt:TypeId} (ho:o.op= .binOp op t x y yt) (hx:a.eval x=u) (hy:a.eval y=v):
  (execOp a.eval o).run P w= .ok (.value r) w:=by
 simp only [execOp,ho,hx,hy,Sem.run_bind,hg,hb,Result.andThen_ok,Sem.run_pure]
theorem DC {o:Oper} {op:BinOp} {xt yt:TypeId} {x y:Operand} {kx' ky:KX} {p q r:PV} (ho:o.op= .binOp op xt x y yt) (hx:kx x=some kx') (hy:kx y=some ky) (hr:Rel F N0 T pl st a w)
  (h1:st.eval kx'= .c (.p p)) (h2:st.eval ky= .c (.p q)) (hb:uD op p q=some r):Runs2 P noB o a w (Post F N0 pl st w (.c (.p r)) st):=by
 have e1:=zG hr hx;have e2:=zG hr hy;rw [h1] at e1;rw [h2] at e2
 replace e1:=dJ e1
 replace e2:=dJ e2
 cases p with
 |i k n=>
  cases q with
  |i k' m=>
   simp only [uD] at hb;split at hb
   ·rename_i ek;subst ek;generalize hvx:a.eval x=vx at*
    generalize hvy:a.eval y=vy at*
    cases e1;cases e2;obtain ⟨u,h3,h4⟩:=Ah (P:=P) (t:=xt) hb;exact zc (λw' hg'=>aM (dK (.inl (by simp)) (by simp)) (h3 w') ho hvx hvy) (zQ hr (h4 _ _))
   ·cases hb
  |_=>cases hb
 |s t=>
  cases q with
  |s t'=>
   simp only [uD] at hb;generalize hvx:a.eval x=vx at*
   generalize hvy:a.eval y=vy at*
   cases e1;cases e2;obtain ⟨u,h3,h4⟩:=Ai (P:=P) (t:=xt) hb;exact zc (λw' hg'=>aM (dK (.inl (by simp)) (by simp)) (h3 w') ho hvx hvy) (zQ hr (h4 _ _))
  |_=>cases hb
 |_=>cases q<;>cases hb
theorem DD {o:Oper} {op:BinOp} {xt yt:TypeId} {x y:Operand} {kx' ky:KX} {p q:Bool} (ho:o.op= .binOp op xt x y yt) (hu:P.underlying xt=some .bool) (hop:op= .eql\/op= .neq) (hx:kx x=some kx') (hy:kx y=some ky) (hr:Rel F N0 T pl st a w)
  (h1:st.eval kx'= .c (.p (.b p))) (h2:st.eval ky= .c (.p (.b q))):Runs2 P noB o a w (Post F N0 pl st w (.c (.p (.b (if op== .neq then !(p==q) else p==q)))) st):=by
 have e1:=zG hr hx;have e2:=zG hr hy;rw [h1] at e1;rw [h2] at e2;have e1:=mP e1;have e2:=mP e2;refine zc (u:= .bool (if op== .neq then !(p==q) else p==q)) (λw' hg'=>aM (dK (.inl (by simp)) (by simp)) ?_ ho e1 e2) (zQ hr (.b _));rcases hop with rfl|rfl
 ·simp [binOp,Op.equal,Op.maxDepth,run_equalIn_bool _ 9999 xt p q hu]
 ·simp [binOp,Op.equal,Op.maxDepth,run_equalIn_bool _ 9999 xt p q hu]
theorem wL {o:Oper} {op:BinOp} {xt yt:TypeId} {ms:Array (String×TypeId)} {x:Operand} {kx':KX} {r:Bool} (ho:o.op= .binOp op xt x (.const .nilIface) yt) (hu:P.underlying xt=some (.interface ms)) (hop:op= .eql\/op= .neq) (hx:kx x=some kx') (hr:Rel F N0 T pl st a w)
  (h1:(st.eval kx'= .c (.p .nif)/\r=!(op== .neq))\/(st.eval kx'= .c (.p .ifc)/\r=(op== .neq))):Runs2 P noB o a w (Post F N0 pl st w (.c (.p (.b r))) st):=by
 have e1:=zG hr hx;rcases h1 with ⟨h1,rfl⟩|⟨h1,rfl⟩
 ·rw [h1] at e1;have e1:=dJ e1;generalize hvx:a.eval x=vx at*
  cases e1;refine zc (u:= .bool (!(op== .neq))) (λw' hg'=>aM (v:= .nilIface) ?_ ?_ ho hvx rfl) (zQ hr (.b _))
  ·rcases hop with rfl|rfl<;>simp [eqGuard]
  ·have hm:P.underlying xt=some (.interface (P.methodsAt xt)):=by simp [Program.methodsAt,hu]
   rcases hop with rfl|rfl
   ·rw [run_eql_nil_nil _ xt hm];rfl
   ·rw [run_neq_nil_nil _ xt hm];rfl
 ·rw [h1] at e1;have e1:=dJ e1;generalize hvx:a.eval x=vx at*
  cases e1;refine zc (u:= .bool (op== .neq)) (λw' hg'=>aM (v:= .nilIface) (dK (.inl (by simp)) (by simp)) ?_ ho hvx rfl) (zQ hr (.b _));have hm:P.underlying xt=some (.interface (P.methodsAt xt)):=by simp [Program.methodsAt,hu]
  rcases hop with rfl|rfl
  ·rw [run_eql_held_nil _ xt _ _ hm];rfl
  ·rw [run_neq_held_nil _ xt _ _ hm];rfl
theorem Dj {o:Oper} {op:UnOp} {t:TypeId} {x:Operand} {k:KX} {p r:PV} (ho:o.op= .unOp op t x) (hx:kx x=some k) (hr:Rel F N0 T pl st a w) (h1:st.eval k= .c (.p p)) (hb:unP op p=some r):Runs2 P noB o a w (Post F N0 pl st w (.c (.p r)) st):=by
 have e1:=zG hr hx;rw [h1] at e1;cases p with
 |b v=>
  cases op<;>simp only [unP] at hb<;>cases hb;have e1:=mP e1;exact zc (u:= .bool !v) (λw' hg'=>by simp [execOp,ho,e1,Op.unary]) (zQ hr (.b _))
 |i k n=>
  cases op<;>simp only [unP] at hb<;>cases hb;have e1:=Ag e1;exact zc (u:= .int k (k.wrap (0-n))) (λw' hg'=>by simp [execOp,ho,e1,Op.unary,Op.intArith]) (zQ hr (.i _ _))
 |_=>cases op<;>cases hb
theorem CM {o:Oper} {src dst:TypeId} {k k':IntKind} {q:IntKind} {n:Int} {x:Operand} {kk:KX} (ho:o.op= .convert src dst x) (hs:P.underlying src=some (.int k')) (hd:P.underlying dst=some (.int k)) (hx:kx x=some kk) (hr:Rel F N0 T pl st a w)
  (h1:st.eval kk= .c (.p (.i q n))):Runs2 P noB o a w (Post F N0 pl st w (.c (.p (.i k (k.wrap n)))) st):=by
 have e1:=zG hr hx;rw [h1] at e1;have e1:=Ag e1;exact zc (u:= .int k (k.wrap n)) (λw' hg'=>by simp [execOp,ho,e1,convert,run_underlying hs,run_underlying hd,Conv.intToInt]) (zQ hr (.i _ _))
theorem Ao {o:Oper} {src dst:TypeId} {x:Operand} {kk:KX} {s:ByteArray} (ho:o.op= .convert src dst x) (hs:P.underlying src=some .string) (hd:P.underlying dst=some .string) (hx:kx x=some kk) (hr:Rel F N0 T pl st a w)
  (h1:st.eval kk= .c (.p (.s s))):Runs2 P noB o a w (Post F N0 pl st w (.c (.p (.s s))) st):=by
 have e1:=zG hr hx;rw [h1] at e1;have e1:=wG e1;exact zc (u:= .string s) (λw' hg'=>by simp [execOp,ho,e1,convert,run_underlying hs,run_underlying hd]) (zQ hr (.s _))
theorem uP {o:Oper} {x:Operand} {k:KX} {v:AV} (ho:o.op= .nilCheck x) (hx:kx x=some k) (hr:Rel F N0 T pl st a w)
  (h:(∃e q,st.eval k= .c (.rp e q)/\v= .c (.rp e q))\/(∃f cs,st.eval k= .c (.fn f cs)/\v= .c (.fn f cs))\/(∃d n g j q B,st.eval k= .c (.ptr d n g j q)/\v= .c (.ptr d n g j q)/\st.get d n=some B/\B.g=g/\q≠KO)):
  Runs2 P noB o a w (Post F N0 pl st w v st):=by
 have e1:=zG hr hx;refine zc (u:=a.eval x) (λw' hg'=>?_) (zQ hr ?_)
 ·rcases h with ⟨e,q,h1,rfl⟩|⟨f,cs,h1,rfl⟩|⟨d,n,g,j,q,B,h1,rfl,hB,hg,hko⟩
  ·rw [h1] at e1;obtain ⟨ad,h2,_⟩:=e1;simp [execOp,ho,h2]
  ·rw [h1] at e1;obtain ⟨vals,h2,_⟩:=e1;simp [execOp,ho,h2]
  ·rw [h1] at e1;obtain ⟨_,B',h2,_,h3⟩:=e1;have:B'=B:=by
    have hB':zA d n (st.fr::st.up)=some B:=hB;rw [hB'] at h2;cases h2;rfl
   subst this;obtain ⟨b,s,_,⟨_,h4⟩|⟨hk2,_⟩⟩:=h3 hg.symm
   rotate_left
   ·exact absurd hk2 hko
   simp [execOp,ho,h4]
 ·rcases h with ⟨e,q,h1,rfl⟩|⟨f,cs,h1,rfl⟩|⟨d,n,g,j,q,B,h1,rfl,hB,hg,hko⟩<;>rw [h1] at e1<;>exact e1
theorem sC {o:Oper} {s:TypeId} {x:Operand} {k:KX} {i:Nat} {fs:Array Field} {f:Field} {v:AV} (ho:o.op= .fieldAddr s x i) (hu:P.underlying s=some (.struct fs)) (hf:fs[i]?=some f) (hz:P.cellsOf f.type≠0) (hx:kx x=some k) (hr:Rel F N0 T pl st a w)
  (h:(∃e q,st.eval k= .c (.rp e q)/\v= .c (.rp e (q+f.offset)))\/(∃d n g j q B,st.eval k= .c (.ptr d n g j q)/\v= .c (.ptr d n g j (q+f.offset))/\st.get d n=some B/\B.g=g/\q≠KO/\q+f.offset≠KO)):
  Runs2 P noB o a w (Post F N0 pl st w v st):=by
 have e1:=zG hr hx;obtain ⟨inf,hinf⟩:∃inf,P.info? f.type=some inf:=by
  cases hi:P.info? f.type with
  |some inf=>exact ⟨inf,rfl⟩
  |none=>simp [Program.cellsOf,hi] at hz
 have hrun:∀ad:Addr,a.eval x= .pointer (some ad)->∀w,(execOp a.eval o).run P w= .ok (.value (.pointer (some (ad.add f.offset)))) w:=by
  intro ad e w;simp [execOp,ho,e,Instr.fieldAt,run_underlying hu,hf,Instr.sureAddr,fieldPlace,run_sizeOf _ hinf,hz]
 rcases h with ⟨e,q,h1,rfl⟩|⟨d,n,g,j,q,B,h1,rfl,hB,hg,hko,hko2⟩
 ·rw [h1] at e1;obtain ⟨ad,h2,h3,h4⟩:=e1;have:=hrun (ad.add q) h2;exact zc (λw' hg'=>this w') (zQ hr ⟨ad,by rw [gA],h3,h4⟩)
 ·rw [h1] at e1;obtain ⟨_,B',h2,hle,h3⟩:=e1;have:B'=B:=by
   have hB':zA d n (st.fr::st.up)=some B:=hB;rw [hB'] at h2;cases h2;rfl
  subst this;obtain ⟨b,s',h5,⟨_,h4⟩|⟨hk2,_⟩⟩:=h3 hg.symm
  rotate_left
  ·exact absurd hk2 hko
  have:=hrun ⟨b,j*B'.sz+q,none⟩ h4;exact zc (λw' hg'=>this w') (zQ hr ⟨rfl,B',h2,hle,λ_=>⟨b,s',h5,.inl ⟨hko2,by rw [cO,Nat.add_assoc]⟩⟩⟩)
end
section
variable {P:Program} {F:Nat->Prop} {G:Nat->Option Obj} {N0:Base G} {T:Nat} {pl pl':Pl} {st st':St} {a:Act} {w w':World} {fs fs':List Frame}
theorem mU {t:TypeId} {g:Bool} (hg:dP P t=some g) {us:List Value} {cs:List CV} (hr:zT F fs pl w us cs) {off:Nat} (hl:off+P.cellsOf t<=cs.length) {v:AV} (hv:fR g ((cs.drop off).take (P.cellsOf t))=some v):
  ∃u,(∀w,(part t us.toArray off).run P w= .ok u w)/\zf F fs pl w u v:=by
 obtain ⟨i,hi⟩:=oO hg;have hus:=hr.1;have hr2:zT F fs pl w ((us.drop off).take (P.cellsOf t)) ((cs.drop off).take (P.cellsOf t)):=⟨by simp;omega,λj u c hu hc=>by
  rw [List.getElem?_take,List.getElem?_drop] at hu hc;split at hu
  ·rename_i hj;rw [if_pos hj] at hc;exact hr.2 _ _ _ hu hc
  ·cases hu⟩
 rcases uN hv hr2 with ⟨rfl,h7⟩|⟨rfl,u,h8,h7⟩
 ·refine ⟨_,λw=>?_,h7⟩;simp only [part,Sem.run_bind,jA hg,Result.andThen_ok,if_true,run_sizeOf _ hi,Sem.run_pure]
  congr 2
  simp [List.extract_eq_take_drop,List.extract_toArray]
 ·refine ⟨u,λw=>?_,h7⟩;have h9:us[off]?=some u:=by
   have:((us.drop off).take (P.cellsOf t))[0]?=some u:=by rw [h8];rfl
   rw [List.getElem?_take,List.getElem?_drop] at this;split at this
   ·simpa using this
   ·cases this
  simp [part,jA hg,h9]
theorem Ap {o:Oper} {s:TypeId} {x:Operand} {k:KX} {i:Nat} {fds:Array Field} {f:Field} {g:Bool} {cs:List CV} {v:AV} (ho:o.op= .field s x i) (hu:P.underlying s=some (.struct fds)) (hf:fds[i]?=some f) (hg:dP P f.type=some g) (hx:kx x=some k) (hr:Rel F N0 T pl st a w)
  (h1:st.eval k= .agg cs) (hl:f.offset+P.cellsOf f.type<=cs.length) (hv:fR g ((cs.drop f.offset).take (P.cellsOf f.type))=some v):Runs2 P noB o a w (Post F N0 pl st w v st):=by
 have e1:=zG hr hx;rw [h1] at e1;obtain ⟨us,e2,e3⟩:=e1;obtain ⟨u,h3,h4⟩:=mU (P:=P) hg e3 hl hv;exact zc (u:=u) (λw' hg'=>by simp [execOp,ho,e2,Instr.field,run_underlying hu,hf,asAgg,h3]) (zQ hr h4)
theorem DF {o:Oper} {x:Operand} {k:KX} {i:Nat} {vs:List (Bool×List CV)} {g:Bool} {cs:List CV} {v:AV} (ho:o.op= .extract x i) (hx:kx x=some k) (hr:Rel F N0 T pl st a w)
  (h1:st.eval k= .tup vs) (h2:vs[i]?=some (g,cs)) (hv:fR g cs=some v):Runs2 P noB o a w (Post F N0 pl st w v st):=by
 have e1:=zG hr hx;rw [h1] at e1;obtain ⟨us,e2,e3,e4⟩:=e1;have hi:i<us.length:=by
  rw [e3];by_cases hi:i<vs.length
  ·exact hi
  ·rw [zamY (by omega)] at h2;cases h2
 have hu:=zh hi;refine zc (u:=us[i]) (λw' hg'=>by simp [execOp,ho,e2,Instr.extract,hu]) (zQ hr ?_);rcases e4 i _ _ hu h2 with ⟨e,ys,h5,h6⟩|⟨e,y,h5,h6⟩
 ·simp only at e h6;subst e;cases hv;rw [h5];exact ⟨ys,rfl,h6⟩
 ·simp only at e h5 h6;subst e;subst h5;cases hv;exact h6
theorem cR {v:Value} {x:AV} {n:Int} (h:dB x=some n) (hr:zf F fs pl w v x):v= .int .i64 n:=by
 unfold dB at h;split at h
 ·cases h;exact Ag hr
 ·cases h
theorem Aq {o:Oper} {t:TypeId} {x y:Operand} {kx' ky:KX} {s:ByteArray} {n:Int} {c:UInt8} (ho:o.op= .index t x y) (hu:P.underlying t=some .string) (hx:kx x=some kx') (hy:kx y=some ky) (hr:Rel F N0 T pl st a w)
  (h1:st.eval kx'= .c (.p (.s s))) (h2:dB (st.eval ky)=some n) (h3:0<=n) (h4:s.toList[n.toNat]?=some c):Runs2 P noB o a w (Post F N0 pl st w (.c (.p (.i .u8 c.toNat))) st):=by
 have e1:=zG hr hx;rw [h1] at e1;have e1:=wG e1;have e2:=cR h2 (zG hr hy);have h5:s[n.toNat]?=some c:=by
  rw [ByteArray.toList_eq] at h4;have:n.toNat<s.data.toList.length:=by
   by_cases hi:n.toNat<s.data.toList.length
   ·exact hi
   ·rw [zamY (by omega)] at h4;cases h4
  have hs:n.toNat<s.size:=by show n.toNat<s.data.size;rw [<-Array.length_toList];exact this
  rw [getElem?_pos s n.toNat hs];rw [zh this] at h4;rw [<-h4];rfl
 exact zc (u:= .int .u8 c.toNat) (λw' hg'=>by simp only [execOp,ho,e1,e2,Instr.index,Sem.run_bind,asIntOf,Sem.run_pure,Result.andThen_ok,run_underlying hu,if_pos h3,h5]) (zQ hr (.i _ _))
theorem jC {o:Oper} {t e:TypeId} {x y:Operand} {kx' ky:KX} {n:Int} {v:AV} (ho:o.op= .indexAddr t x y) (hu:P.underlying t=some (.slice e)) (he:∃i,P.info? e=some i) (hx:kx x=some kx') (hy:kx y=some ky) (hr:Rel F N0 T pl st a w)
  (h2:dB (st.eval ky)=some n) (h3:0<=n)
  (h:(∃rows row,st.eval kx'= .c (.p (.ls rows))/\n<rows.length/\rows[n.toNat]?=some row/\row.length=P.cellsOf e/\v= .c (.rp row 0))\/
   (∃d m g q B,st.eval kx'= .c (.own d m g q)/\st.get d m=some B/\B.g=g/\B.sz=P.cellsOf e/\n<q/\v= .c (.ptr d m g n.toNat 0))):Runs2 P noB o a w (Post F N0 pl st w v st):=by
 obtain ⟨inf,hinf⟩:=he;have e1:=zG hr hx;have e2:=cR h2 (zG hr hy);rcases h with ⟨rows,row,h1,h4,h5,h6,rfl⟩|⟨d,m,g,q,B,h1,hB,hg,hsz,h4,rfl⟩
 ·rw [h1] at e1;have e1:=dJ e1;generalize hvx:a.eval x=vx at*
  cases e1 with
  |nls=>simp at h5
  | @ls ad n' c sz _ val hl hc hn hown hcell hrep=>
   obtain ⟨h7,h8⟩:=hcell _ _ h5;refine zc (u:= .pointer (some (ad.add (n.toNat*P.cellsOf e)))) (λw' hg'=>?_) (zQ hr ?_)
   ·simp [execOp,ho,hvx,e2,Instr.indexAt,run_underlying hu,asIntOf,h3,run_sizeOf _ hinf,show n<(n':Int) by omega]
   ·have hsz:sz=P.cellsOf e:=by omega
    subst hsz;refine ⟨ad.add (n.toNat*P.cellsOf e),by simp [Addr.add],λ_=>?_,λi z hz=>⟨val n.toNat i,by rw [gA];exact h8 i z hz,hrep _ _ i z h5 hz⟩⟩;rw [oP];obtain ⟨q1,q2⟩:=hown (by rintro rfl;simp at h5);exact ⟨λd n j s hp=>q1 (.inr ⟨d,n,j,s,hp⟩),q2⟩
 ·rw [h1] at e1;obtain ⟨_,B',h5,h6,h7⟩:=e1;have:B'=B:=by
   have hB':zA d m (st.fr::st.up)=some B:=hB;rw [hB'] at h5;cases h5;rfl
  subst this;rcases h7 hg.symm with ⟨h8,h9,_⟩|⟨b,s,cap,hp,h8,hs,hq,hcap⟩
  ·omega
  ·refine zc (u:= .pointer (some ⟨b,n.toNat*P.cellsOf e,none⟩)) (λw' hg'=>?_) (zQ hr ⟨rfl,B',h5,h6,λ_=>⟨b,s,hp,.inl ⟨by decide,by rw [hsz];simp⟩⟩⟩);have:(⟨b,0,none⟩:Addr).add (n.toNat*P.cellsOf e)=⟨b,n.toNat*P.cellsOf e,none⟩:=by rw [cO];simp
   simp [execOp,ho,h8,e2,Instr.indexAt,run_underlying hu,asIntOf,h3,run_sizeOf _ hinf,h4,this]
theorem mV {o:Oper} {x:Operand} {k:KX} {t:TypeId} {n:Int} (ho:∃c,o.op= .call c/\c.callee= .builtin .len/\c.args= #[x]/\c.argTypes[0]?=some t) (hx:kx x=some k) (hr:Rel F N0 T pl st a w)
  (h:(P.underlying t=some .string/\∃s,st.eval k= .c (.p (.s s))/\n=s.size)\/(∃e,P.underlying t=some (.slice e))/\((∃rows,(st.eval k= .c (.p (.ls rows))/\n=rows.length))\/(st.eval k= .c (.p .nl)/\n=0)\/(∃d m g q B,st.eval k= .c (.own d m g q)/\st.get d m=some B/\B.g=g/\n=q)\/∃d m g j o q z B,st.eval k= .c (.sub d m g j o q z)/\st.get d m=some B/\B.g=g/\n=q)):
  Runs2 P noB o a w (Post F N0 pl st w (.c (.p (.i .i64 n))) st):=by
 obtain ⟨c,ho,hc1,hc2,hc3⟩:=ho;have e1:=zG hr hx;refine zc (u:= .int .i64 n) (λw' hg'=>?_) (zQ hr (.i _ _));have key:∀w,(Builtin.len_ c.argTypes o.type #[a.eval x]).run P w= .ok (goInt n) w:=by
  intro w';rcases h with ⟨hu,s,h1,rfl⟩|⟨⟨e,hu⟩,h⟩
  ·rw [h1] at e1;have e1:=wG e1;simp [Builtin.len_,hc3,run_underlying hu,e1]
  ·have:∃b cap m,a.eval x= .slice b m cap/\n=(m:Int):=by
    rcases h with ⟨rows,h1,rfl⟩|⟨h1,rfl⟩|⟨d,m,g,q,B,h1,hB,hg,rfl⟩|⟨d,m,g,j,o,q,z,B,h1,hB,hg,rfl⟩
    ·rw [h1] at e1;have e1:=dJ e1;generalize a.eval x=vx at*
     cases e1 with
     |nls=>exact ⟨_,_,_,rfl,by simp⟩
     | @ls ad n' c sz _ val hl hc hn hown hcell hrep=>exact ⟨_,_,_,rfl,by omega⟩
    ·rw [h1] at e1;have e1:=dJ e1;generalize a.eval x=vx at*
     cases e1;exact ⟨_,_,_,rfl,by simp⟩
    ·rw [h1] at e1;obtain ⟨_,B',h5,h6,h7⟩:=e1;have:B'=B:=by
      have hB':zA d m (st.fr::st.up)=some B:=hB;rw [hB'] at h5;cases h5;rfl
     subst this;rcases h7 hg.symm with ⟨h8,h9,_⟩|⟨b,s,cap,hp,h8,_⟩
     ·exact ⟨_,_,_,h8,by omega⟩
     ·exact ⟨_,_,_,h8,rfl⟩
    ·rw [h1] at e1;obtain ⟨_,B',h5,h6,h7⟩:=e1;have:B'=B:=by
      have hB':zA d m (st.fr::st.up)=some B:=hB;rw [hB'] at h5;cases h5;rfl
     subst this;rcases h7 hg.symm with ⟨h8,h9⟩|⟨b,s,cap,hp,h8,_⟩
     ·exact ⟨_,_,_,h8,by omega⟩
     ·exact ⟨_,_,_,h8,rfl⟩
   obtain ⟨b,cap,m,h1,rfl⟩:=this;simp [Builtin.len_,hc3,run_underlying hu,h1]
 simp only [execOp,ho,resolve,hc1,hc2,invoke,builtin,List.map_toArray,zanE,List.map_nil,Sem.run_bind,Sem.run_pure,Result.andThen_ok,key];rfl
theorem CN {o:Oper} {f:FuncId} {first caps:Array Operand} {ks:List KX} {cs:List Cap} (ho:o.op= .makeFunc (.func f) first caps) (hf:first.size=0) (hx:caps.toList.mapM kx=some ks) (hr:Rel F N0 T pl st a w)
  (h:fT (ks.map st.eval)=some cs):Runs2 P noB o a w (Post F N0 pl st w (.c (.fn f cs)) st):=by
 obtain ⟨hl,hk⟩:=bY hx;have hf':first= #[]:=Array.eq_empty_of_size_eq_zero hf
 refine zc (u:= .func (.func f) #[] (caps.map a.eval)) (λw' hg'=>by simp [execOp,ho,Instr.makeFunc,hf']) (zQ hr ?_);have key:∀(xs:List AV) (cs:List Cap) (us:List Value),fT xs=some cs->us.length=xs.length->(∀(i:Nat) u x,us[i]?=some u->xs[i]?=some x->zf F (st.fr::st.up) pl w u x)->
   cs.length=us.length/\∀(i:Nat) u c,us[i]?=some u->cs[i]?=some c->fE F (st.fr::st.up) pl w u c:=by
  intro xs
  induction xs with
  |nil=>intro cs us h hl _;simp [fT] at h;subst h;exact ⟨by simpa using hl.symm,λi u c hu hc=>by simp at hc⟩
  |cons x xs ih=>
   intro cs us h hl hrep
   match us,hl with
   |u::us,hl=>
    have h0:=hrep 0 u x rfl rfl;have hrep':∀(i:Nat) u x,us[i]?=some u->xs[i]?=some x->zf F (st.fr::st.up) pl w u x:=λi u x hu hx=>hrep (i+1) u x (by simpa using hu) (by simpa using hx)
    unfold fT at h;split at h
    ·cases ‹_= []›
    ·rename_i y r hxx;cases hxx;obtain ⟨cs',h1,rfl⟩:=zD.1 h;obtain ⟨h2,h3⟩:=ih cs' us h1 (by simpa using hl) hrep';refine ⟨by simp [h2],λi u' c hu hc=>?_⟩;cases i with
     |zero=>simp at hu hc;subst hu;subst hc;exact RepP.weak h0
     |succ i=>exact h3 i u' c (by simpa using hu) (by simpa using hc)
    ·rename_i d n g r hxx;cases hxx;obtain ⟨cs',h1,rfl⟩:=zD.1 h;obtain ⟨h2,h3⟩:=ih cs' us h1 (by simpa using hl) hrep';refine ⟨by simp [h2],λi u' c hu hc=>?_⟩;cases i with
     |zero=>
      simp at hu hc;subst hu;subst hc;obtain ⟨h9,B,h4,h5,h6⟩:=h0;exact ⟨h9,B,h4,h5,λe=>by simpa [show ¬(0=KO) by decide] using h6 e⟩
     |succ i=>exact h3 i u' c (by simpa using hu) (by simpa using hc)
    ·rename_i row r hxx;cases hxx;obtain ⟨cs',h1,rfl⟩:=zD.1 h;obtain ⟨h2,h3⟩:=ih cs' us h1 (by simpa using hl) hrep';refine ⟨by simp [h2],λi u' c hu hc=>?_⟩;cases i with
     |zero=>simp at hu hc;subst hu;subst hc;exact h0
     |succ i=>exact h3 i u' c (by simpa using hu) (by simpa using hc)
    ·cases h
 obtain ⟨h2,h3⟩:=key (ks.map st.eval) cs (caps.toList.map a.eval) h (by simp [hl]) (λi u x hu hx=>by
  rw [zamS] at hu hx;obtain ⟨p,hp,rfl⟩:=zD.1 hu;obtain ⟨q,hq,rfl⟩:=zD.1 hx;exact zG hr (hk i p q hp hq))
 exact ⟨caps.toList.map a.eval,by cases caps;simp,h2.symm,h3⟩
end
section
variable {P:Program} {F:Nat->Prop} {G:Nat->Option Obj} {N0:Base G} {T:Nat} {pl pl':Pl} {st st':St} {a:Act} {w w':World} {fs fs':List Frame}
theorem oQ:∀(l:List Value) (k off:Nat) (cells:Array Value),off+k+l.length<=cells.size->
  ((l.zipIdx k).foldl (λcs (p:Value×Nat)=>cs.setIfInBounds (off+p.2) p.1) cells).toList=zb cells.toList (off+k) l
 | [],k,off,cells,h=>by simp [zb]
 |x::l,k,off,cells,h=>by
  simp only [List.zipIdx_cons,List.foldl_cons];rw [oQ l (k+1) off _ (by simp at h⊢;omega)];simp only [zamM] at h;apply List.ext_getElem?;intro i;have hl:off+k<cells.toList.length:=by simp;omega
  rw [Array.toList_setIfInBounds,aD _ _ _ (by simp;omega),aD _ _ _ (by simp;omega),List.getElem?_set];simp only [zamM];by_cases h1:off+k=i
  ·subst h1;rw [if_neg (by omega),if_pos rfl,if_pos hl,if_pos (by omega)];simp
  ·by_cases h2:off+(k+1)<=i/\i<off+(k+1)+l.length
   ·rw [if_pos h2,if_pos (by omega),show i-(off+k)=(i-(off+(k+1)))+1 by omega,List.getElem?_cons_succ]
   ·rw [if_neg h2,if_neg h1,if_neg (by omega)]
theorem sD (vs cells:Array Value) (off:Nat) (h:off+vs.size<=cells.size):(vs.zipIdx.foldl (λcs (c,j)=>cs.setIfInBounds (off+j) c) cells).toList=zb cells.toList off vs.toList:=by
 have:=oQ vs.toList 0 off cells (by simpa using h);rw [<-Array.foldl_toList,Array.toList_zipIdx];simpa using this
theorem oR {us vs:List Value} {cs ds:List CV} (h:zT F fs pl w us cs) (h':zT F fs pl w vs ds) {off:Nat} (hl:off+ds.length<=cs.length):zT F fs pl w (zb us off vs) (zb cs off ds):=by
 have e1:=h.1;have e2:=h'.1;refine ⟨by rw [zu _ _ _ (by omega),zu _ _ _ hl];exact e1,λi u c hu hc=>?_⟩;rw [aD _ _ _ (by omega)] at hu;rw [aD _ _ _ hl] at hc;by_cases hi:off<=i/\i<off+vs.length
 ·rw [if_pos hi] at hu;rw [if_pos (by omega)] at hc;exact h'.2 _ _ _ hu hc
 ·rw [if_neg hi] at hu;rw [if_neg (by omega)] at hc;exact h.2 _ _ _ hu hc
theorem wM {place:Nat->Option (Nat×Nat)}:∀(ps:List (Nat×Nat×AV)) (parts:List (Nat×Value)) (cells:Array Value) (cs out:List CV),zT F fs pl w cells.toList cs->parts.length=ps.length->
  (∀(i:Nat) p q,parts[i]?=some p->ps[i]?=some q->place p.1=some (q.1,q.2.1)/\zf F fs pl w p.2 q.2.2)->iT cs ps=some out->∃cells',Instr.fill place cells parts=some cells'/\zT F fs pl w cells'.toList out
 | [],parts,cells,cs,out,hc,hl,_,h=>by
  have:parts= []:=bR hl;subst this;simp only [iT,zS] at h;subst h;exact ⟨cells,rfl,hc⟩
 |(off,n,x)::ps,parts,cells,cs,out,hc,hl,hp,h=>by
  match parts,hl with
  |(j,v)::parts,hl=>
   obtain ⟨h1,h2⟩:=hp 0 _ _ rfl rfl;have hx:∀vs,x≠ .tup vs:=by rintro vs rfl;simp [iT] at h
   have h':(if x.cvs.length=n/\off+n<=cs.length/\x.cvs.all (·.known)=true then iT (zb cs off x.cvs) ps else none)=some out:=by
    cases x with
    |tup vs=>exact absurd rfl (hx vs)
    |c y=>exact h
    |agg ds=>exact h
   split at h'
   ·rename_i hc0;obtain ⟨h3,h4,h5⟩:=hc0;have h6:zT F fs pl w v.cells.toList x.cvs:=dD h2 hx h5;have hv:v.cells.size=n:=by rw [<-h3,<-h6.1];simp
    have hcs:cells.size=cs.length:=by simpa using hc.1
    have h7:zT F fs pl w (zb cells.toList off v.cells.toList) (zb cs off x.cvs):=oR hc h6 (by omega);obtain ⟨cells',h8,h9⟩:=wM ps parts (v.cells.zipIdx.foldl (λcs (c,j)=>cs.setIfInBounds (off+j) c) cells) (zb cs off x.cvs) out (by rw [sD _ _ _ (by omega)];exact h7) (by simpa using hl)
     (λi p q hp' hq=>hp (i+1) p q (by simpa using hp') (by simpa using hq)) h'
    refine ⟨cells',?_,h9⟩;simp only at h1;simp only [Instr.fill,h1];rw [if_neg (by simp [hv];omega)];exact h8
   ·cases h'
theorem sE {z:List Value} {ps:List PV} (h:z.mapM uI=some ps):RepPs (Own F pl) w z ps:=by
 obtain ⟨h1,h2⟩:=bY h;exact ⟨h1.symm,λi u x hu hx=>Ab (h2 i u x hu hx)⟩
theorem sF {α β:Type} {f:α->Option β}:∀{l:List α},(∀x∈l,(f x).isSome=true)->∃r,l.mapM f=some r
 | [],_=>⟨[],rfl⟩
 |x::l,h=>by
  obtain ⟨y,hy⟩:=Option.isSome_iff_exists.1 (h x (by simp));obtain ⟨r,hr⟩:=sF (f:=f) (l:=l) (λz hz=>h z (by simp [hz]));exact ⟨y::r,by simp [List.mapM_cons,hy,hr]⟩
theorem Ar {o:Oper} {t:TypeId} {fds:Array Field} {parts:Array (Nat×Operand)} {z:List PV} {ks:List (Nat×Nat×KX)} {cs:List CV} (ho:o.op= .build t parts) (hu:P.underlying t=some (.struct fds)) (hall:fds.toList.all (λf=>(P.info? f.type).isSome)=true) (hz:dQ P t=some z)
  (hp:parts.toList.mapM (λ(p:Nat×Operand)=>(fds[p.1]?).bind λf=>(kx p.2).map λx=>(f.offset,P.cellsOf f.type,x))=some ks) (hr:Rel F N0 T pl st a w)
  (h:iT (z.map .p) (ks.map λ(o,n,x)=>(o,n,st.eval x))=some cs):Runs2 P noB o a w (Post F N0 pl st w (.agg cs) st):=by
 simp only [dQ,zK] at hz;obtain ⟨it,hit,zv,hzv,hzs⟩:=hz;obtain ⟨hl,hk⟩:=bY hp;obtain ⟨places,hpl⟩:=sF (f:=λf:Field=>(P.info? f.type).map λi=>(f.offset,i.size)) (l:=fds.toList) (λf hf=>by
  have:=zamK.1 hall f hf;obtain ⟨i,hi⟩:=Option.isSome_iff_exists.1 this;simp [hi])
 obtain ⟨hl2,hk2⟩:=bY hpl;have hzero:zT F (st.fr::st.up) pl w zv.cells.toList (z.map .p):=(sE hzs).cs;obtain ⟨cells',h1,h2⟩:=wM (place:=(places.toArray[·]?)) (ks.map λ(o,n,x)=>(o,n,st.eval x)) ((parts.map λ(i,x)=>(i,a.eval x)).toList) zv.cells (z.map .p) cs hzero (by simp [hl]) (λi p q hp' hq=>by
  simp only [Array.toList_map,zamS] at hp' hq;obtain ⟨⟨j,x⟩,hx,rfl⟩:=zD.1 hp';obtain ⟨⟨off,n,kq⟩,hq',rfl⟩:=zD.1 hq;have h3:=hk i _ _ hx hq';simp only [zK,zD,zamL] at h3;obtain ⟨f,hf,kx',hkx,rfl,rfl,rfl⟩:=h3;refine ⟨?_,zG hr hkx⟩;have hf':fds.toList[j]?=some f:=by simpa using hf
  have hj:j<places.length:=by
   rw [hl2];by_cases hj:j<fds.toList.length
   ·exact hj
   ·rw [zamY (by omega)] at hf';cases hf'
  have h4:=hk2 j f _ hf' (zh hj);obtain ⟨i',hi',he⟩:=zD.1 h4;simp only [List.getElem?_toArray,zh hj,<-he];simp [Program.cellsOf,hi']) h
 refine zc (u:= .agg cells') (λw' hg'=>?_) (zQ hr ⟨cells'.toList,by simp,h2⟩);have hb:P.built t ((parts.map λ(i,x)=>(i,a.eval x)).toList)=some cells':=by
  unfold Program.built;simp only [hit,hu,hzv,hpl,h1]
 simp only [execOp,ho,Sem.run_bind,run_build w' t _ cells' hb,Result.andThen_ok];rfl
theorem aR {α:Type} {sz:Nat}:∀{rows:List (List α)},(∀e∈rows,e.length=sz)->rows.flatten.length=rows.length*sz/\∀j e o,rows[j]?=some e->o<sz->rows.flatten[j*sz+o]?=e[o]?
 | [],_=>⟨by simp,λj e o h=>by simp at h⟩
 |r::rows,h=>by
  obtain ⟨h1,h2⟩:=aR (rows:=rows) (λe he=>h e (by simp [he]));have hr:=h r (by simp);refine ⟨by simp [h1,hr,Nat.add_mul];omega,λj e o hj ho=>?_⟩;cases j with
  |zero=>
   simp at hj;subst hj;simp only [List.flatten_cons,Nat.zero_mul,Nat.zero_add];rw [zanA (by omega)]
  |succ j=>
   simp only [List.flatten_cons];rw [zanB (by rw [Nat.add_mul];omega),show (j+1)*sz+o-r.length=j*sz+o by rw [Nat.add_mul];omega];exact h2 j e o (by simpa using hj) ho
theorem lA {sz:Nat}:∀(ps:List (Nat×AV)) (parts:List (Nat×Value)) (cells:Array Value) (rows out:List (List CV)),(∀e∈rows,e.length=sz)->zT F fs pl w cells.toList rows.flatten->parts.length=ps.length->
  (∀(i:Nat) p q,parts[i]?=some p->ps[i]?=some q->p.1=q.1/\zf F fs pl w p.2 q.2)->cL rows sz ps=some out->
  ∃cells',Instr.fill (λi=>some (i*sz,sz)) cells parts=some cells'/\zT F fs pl w cells'.toList out.flatten/\(∀e∈out,e.length=sz)/\out.length=rows.length
 | [],parts,cells,rows,out,hs,hc,hl,_,h=>by
  have:parts= []:=bR hl;subst this;simp only [cL,zS] at h;subst h;exact ⟨cells,rfl,hc,hs,rfl⟩
 |(j,x)::ps,parts,cells,rows,out,hs,hc,hl,hp,h=>by
  match parts,hl with
  |(j',v)::parts,hl=>
   obtain ⟨h1,h2⟩:=hp 0 _ _ rfl rfl;simp only at h1;subst h1;have hx:∀vs,x≠ .tup vs:=by rintro vs rfl;simp [cL] at h
   have h':(if x.cvs.length=sz/\j'<rows.length/\x.cvs.all (·.known)=true then cL (rows.set j' x.cvs) sz ps else none)=some out:=by
    cases x with
    |tup vs=>exact absurd rfl (hx vs)
    |c y=>exact h
    |agg ds=>exact h
   split at h'
   ·rename_i hc0;obtain ⟨h3,h4,h5⟩:=hc0;have h6:zT F fs pl w v.cells.toList x.cvs:=dD h2 hx h5;have hv:v.cells.size=sz:=by rw [<-h3,<-h6.1];simp
    obtain ⟨hfl,hfg⟩:=aR hs;have hcs:cells.size=rows.length*sz:=by have:=hc.1;simp [hfl] at this;simpa using this
    have hjs:j'*sz+sz<=rows.length*sz:=by
     have:=dN sz (show j'+1<=rows.length by omega);rw [Nat.add_mul] at this;omega
    have hs':∀e∈rows.set j' x.cvs,e.length=sz:=λe he=>by
     rcases List.mem_or_eq_of_mem_set he with h7|rfl
     ·exact hs e h7
     ·exact h3
    have hflat:(rows.set j' x.cvs).flatten=zb rows.flatten (j'*sz) x.cvs:=by
     obtain ⟨g1,g2⟩:=aR hs';apply List.ext_getElem?;intro i;rw [aD _ _ _ (by omega)];by_cases hi:i<rows.length*sz
     ·have hsz:0<sz:=by
       rcases Nat.eq_zero_or_pos sz with e|e
       ·rw [e] at hi;simp at hi
       ·exact e
      obtain ⟨q,o,hq,ho,rfl⟩:∃q o,q<rows.length/\o<sz/\i=q*sz+o:=⟨i/sz,i%sz,by rw [Nat.div_lt_iff_lt_mul hsz];exact hi,Nat.mod_lt _ hsz,by rw [Nat.mul_comm];exact (Nat.div_add_mod i sz).symm⟩;by_cases e:q=j'
      ·subst e;rw [g2 q x.cvs o (by simp [hq]) ho,if_pos (by omega)]
       congr 1;omega
      ·rw [g2 q rows[q] o (by rw [List.getElem?_set_ne (Ne.symm e)];exact zh hq) ho,hfg q rows[q] o (zh hq) ho,if_neg];intro hcon;rcases Nat.lt_or_gt_of_ne e with hlt|hlt
       ·have:=dN sz (show q+1<=j' by omega);rw [Nat.add_mul] at this;omega
       ·have:=dN sz (show j'+1<=q by omega);rw [Nat.add_mul] at this;omega
     ·rw [zamY (by simp [g1];omega),if_neg (by omega),zamY (by omega)]
    have h7:zT F fs pl w (zb cells.toList (j'*sz) v.cells.toList) (rows.set j' x.cvs).flatten:=by
     rw [hflat];exact oR hc h6 (by omega)
    obtain ⟨cells',h8,h9,h10,h11⟩:=lA ps parts (v.cells.zipIdx.foldl (λcs (c,i)=>cs.setIfInBounds (j'*sz+i) c) cells) (rows.set j' x.cvs) out hs' (by rw [sD _ _ _ (by omega)];exact h7) (by simpa using hl)
     (λi p q hp' hq=>hp (i+1) p q (by simpa using hp') (by simpa using hq)) h'
    refine ⟨cells',?_,h9,h10,by rw [h11];simp⟩;simp only [Instr.fill];rw [if_neg (by simp [hv];omega)];exact h8
   ·cases h'
theorem iB:∀{rows:List (List CV)} {st st':St} {pl:Pl} {rs:List (List PV)} {us:List Value} {sz:Nat},MemOK F N0 (st.fr::st.up) pl w->N0.n<=w.heap.size->(∀e∈rows,e.length=sz)->zl st rows=some (rs,st')->zT F (st.fr::st.up) pl w us rows.flatten->
  ∃pl',Same F N0 pl st st' w pl'/\RepPs (Own F pl') w us rs.flatten/\(∀e∈rs,e.length=sz)/\rs.length=rows.length
 | [],st,st',pl,rs,us,sz,hm,hN,hs,h,hv=>by
  simp only [zl,zS,zamL] at h;obtain ⟨rfl,rfl⟩:=h;have:us= []:=bR (by simpa using hv.1);subst this;exact ⟨pl,Same.refl hm,⟨rfl,λi u x hu=>by simp at hu⟩,by simp,rfl⟩
 |r::rows,st,st',pl,rs,us,sz,hm,hN,hs,h,hv=>by
  simp only [zl,zK,Prod.exists] at h;obtain ⟨y,st1,h1,qs,st2,h2,h3⟩:=h;simp only [zS,zamL] at h3;obtain ⟨rfl,rfl⟩:=h3;have hr:=hs r (by simp);have hul:=hv.1;simp only [List.flatten_cons,zamO] at hul;have hv1:zT F (st.fr::st.up) pl w (us.take r.length) r:=⟨by simp;omega,λi u c hu hc=>by
   have hi:i<r.length:=by
    by_cases hi:i<r.length
    ·exact hi
    ·rw [zamY (by omega)] at hc;cases hc
   rw [List.getElem?_take,if_pos hi] at hu;exact hv.2 i u c hu (by rw [List.flatten_cons,zanA hi];exact hc)⟩
  have hv2:zT F (st.fr::st.up) pl w (us.drop r.length) rows.flatten:=⟨by rw [List.length_drop];omega,λi u c hu hc=>by
   rw [List.getElem?_drop] at hu;exact hv.2 _ u c hu (by rw [List.flatten_cons,zanB (by omega),show r.length+i-r.length=i by omega];exact hc)⟩
  obtain ⟨pl1,s1,r1⟩:=eC hm hN h1 hv1;obtain ⟨pl2,s2,r2,r3,r4⟩:=iB s1.mem hN (λe he=>hs e (by simp [he])) h2 (s1.keep.repCs hv2);have hyl:y.length=sz:=by have:=r1.1;simp at this;omega
  refine ⟨pl2,s1.trans s2,⟨?_,λi u x hu hx=>?_⟩,?_,by simp [r4]⟩
  ·have a1:=r1.1;have a2:=r2.1;simp at a1 a2⊢;omega
  ·rw [List.flatten_cons] at hx;by_cases hi:i<y.length
   ·rw [zanA hi] at hx;exact s2.keep.repP (r1.2 i u x (by rw [List.getElem?_take,if_pos (by omega)];exact hu) hx)
   ·rw [zanB (by omega)] at hx;exact r2.2 (i-y.length) u x (by rw [List.getElem?_drop,show r.length+(i-y.length)=i by omega];exact hu) hx
  ·intro e he;rcases zamT.1 he with rfl|he
   ·exact hyl
   ·exact r3 e he
end
section
variable {P:Program} {F:Nat->Prop} {G:Nat->Option Obj} {N0:Base G} {T:Nat} {pl pl':Pl} {st st':St} {a:Act} {w w':World} {fs fs':List Frame}
theorem fH {e:TypeId} (h:iX P e=true):∃i z,P.info? e=some i/\i.zero=some z/\z.cells.size=i.size/\0<i.size/\P.cellsOf e=i.size:=by
 unfold iX at h;split at h
 ·rename_i i hi;split at h
  ·rename_i z hz;have:=of_decide_eq_true h;exact ⟨i,z,hi,hz,this.1,this.2,by simp [Program.cellsOf,hi]⟩
  ·cases h
 ·cases h
theorem Au (z:Array Value) (n i:Nat) (hi:i<n) (hz:0<z.size):(madeCells z n)[i]?=z[i%z.size]?:=by
 have hm:i%z.size<z.size:=Nat.mod_lt _ hz;simp [madeCells,hi,hm]
theorem sG {e:TypeId} {z:Value} {zs:List PV} {sz n:Nat} (hz:z.cells.toList.mapM uI=some zs) (hs:z.cells.size=sz) (h0:0<sz):RepPs (Own F pl) w (madeCells z.cells (n*sz)).toList (List.replicate n zs).flatten/\(∀r∈List.replicate n zs,r.length=sz):=by
 have hzr:=sE (F:=F) (pl:=pl) (w:=w) hz;have hzl:zs.length=sz:=by have:=hzr.1;simp at this;omega
 have hall:∀r∈List.replicate n zs,r.length=sz:=λr hr=>by rw [(List.mem_replicate.1 hr).2];exact hzl
 obtain ⟨h1,h2⟩:=aR hall;refine ⟨⟨by simp [h1,size_madeCells],λi u x hu hx=>?_⟩,hall⟩;have hi:i<n*sz:=by
  by_cases hi:i<n*sz
  ·exact hi
  ·rw [zamY (by simp [size_madeCells];omega)] at hu;cases hu
 obtain ⟨q,o,hq,ho,rfl⟩:∃q o,q<n/\o<sz/\i=q*sz+o:=⟨i/sz,i%sz,by rw [Nat.div_lt_iff_lt_mul h0];exact hi,Nat.mod_lt _ h0,by rw [Nat.mul_comm];exact (Nat.div_add_mod i sz).symm⟩;rw [h2 q zs o (by rw [List.getElem?_replicate];simp [hq]) ho] at hx;rw [Array.getElem?_toList,Au _ _ _ hi (by omega),hs] at hu;have hmod:(q*sz+o)%sz=o:=by rw [Nat.mul_comm,Nat.mul_add_mod,Nat.mod_eq_of_lt ho]
 rw [hmod] at hu;exact hzr.2 o u x (by simpa using hu) hx
theorem sH {st1:St} {pl1:Pl} (hr:Rel F N0 T pl st a w) (h:Same F N0 pl st st1 w pl1):Rel F N0 T pl1 st1 a w:=
 ⟨h.mem,λn v hv=>h.keep.repA (hr.tmps n v (by rw [<-h.t];exact hv)),hr.size,hr.defers,hr.low⟩
theorem xW {st1:St} {pl1:Pl} {v:AV} {st2:St} {u:Value} (h:Same F N0 pl st st1 w pl1) (h2:Post F N0 pl1 st1 w v st2 u w'):Post F N0 pl st w v st2 u w':=by
 obtain ⟨⟨pl2,h3,h4,h5⟩,h6⟩:=h2;exact ⟨⟨pl2,h3,h4,h.keep.trans h5⟩,h6.trans h.t⟩
theorem sI (hr:Rel F N0 T pl st a w) {n sz ty m:Nat} {rows:List (List PV)} {us:Array Value} (hm:m=rows.length) (hrep:RepPs (Own F pl) w us.toList rows.flatten) (hs:∀e∈rows,e.length=sz) (hmax:m<=maxLen):
  Post F N0 pl st w (.c (.own st.up.length n (st.fresh n) m)) (st.new n sz ty (.row rows)).2 (.slice (some ⟨w.heap.size,0,none⟩) m m) {w with heap:=w.heap.push (.cells us ty)}:=by
 obtain ⟨h1,h2⟩:=aR hs;have hul:us.size=rows.length*sz:=by have:=hrep.1;simp [h1] at this;simpa using this
 refine eX (x:=one w.heap.size us.size) hr (dZ _ _) (λj b s h=>by cases (aW h).2;exact ⟨zH _,by simp⟩) gO (λhk=>?_) (λhg=>?_)
 ·refine .inr ⟨w.heap.size,us.size,us,zJ ..,by simp,rfl,by simp only;omega,hs,λj e o x he hx=>?_⟩;have ho:o<sz:=by
   rw [<-hs e (aC he)];by_cases ho:o<e.length
   ·exact ho
   ·rw [zamY (by omega)] at hx;cases hx
  have hfl:=h2 j e o he ho;rw [hx] at hfl;have hlt:j*sz+o<us.toList.length:=by
   rw [hrep.1];by_cases hlt:j*sz+o<rows.flatten.length
   ·exact hlt
   ·rw [zamY (by omega)] at hfl;cases hfl
  exact ⟨us.toList[j*sz+o],by simp,hk.repP (hrep.2 _ _ _ (zh hlt) hfl)⟩
 ·exact ⟨rfl,_,hg,zH _,λ_=> .inr ⟨w.heap.size,us.size,m,by rw [zJ];rfl,rfl,by simp only;rw [hm];exact hul,zH _,hmax⟩⟩
theorem oS {α:Type} {n:Nat} {x:α}:∀{l:List (Nat×α)},zE n l=some x->(n,x)∈l
 | [],h=>by cases h
 |(m,y)::r,h=>by
  simp only [zE] at h;by_cases e:m=n
  ·rw [if_pos e] at h;cases h;rw [e];exact zamN ..
  ·rw [if_neg e] at h;exact zamR _ (oS h)
theorem Av {cols:List (Nat×Nat×TypeId)} {zero:List PV} (h:AJ cols zero=true) {o:Nat} {q:Nat×TypeId} (hl:zE o cols=some q):zero[o]?=some .nl:=by
 have h1:=zamK.1 h _ (oS hl);simp only at h1;cases hz:zero[o]? with
 |none=>rw [hz] at h1;cases h1
 |some x=>
  rw [hz] at h1;cases x<;>first|rfl|cases h1
theorem oT (hr:Rel F N0 T pl st a w) {n sz ty m:Nat} {cols:List (Nat×Nat×TypeId)} {rows:List (List PV)} {us:Array Value} (hm:m=rows.length) (hrep:RepPs (Own F pl) w us.toList rows.flatten) (hs:∀e∈rows,e.length=sz) (hmax:m<=maxLen)
  (hnl:∀e∈rows,AJ cols e=true):
  Post F N0 pl st w (.c (.own st.up.length n (st.fresh n) m)) (st.new n sz ty (mH cols rows)).2 (.slice (some ⟨w.heap.size,0,none⟩) m m) {w with heap:=w.heap.push (.cells us ty)}:=by
 unfold mH;split
 ·exact sI hr hm hrep hs hmax
 obtain ⟨h1,h2⟩:=aR hs;have hul:us.size=rows.length*sz:=by have:=hrep.1;simp [h1] at this;simpa using this
 refine eX (x:=one w.heap.size us.size) hr (dZ _ _) (λj b s h=>by cases (aW h).2;exact ⟨zH _,by simp⟩) gO (λhk=>?_) (λhg=>?_)
 ·refine .inr ⟨w.heap.size,us.size,us,by rw [zJ];rfl,by simp,rfl,by simp only;omega,hs,λj e o x he hx=>?_,λc _=>by rw [zJ];simp [one]⟩;have ho:o<sz:=by
   rw [<-hs e (aC he)];exact (zamJ.1 hx).1
  have hfl:=h2 j e o he ho;rw [hx] at hfl;have hlt:j*sz+o<us.toList.length:=by
   rw [hrep.1];exact (zamJ.1 hfl).1
  have hR:=hk.repP (hrep.2 _ _ _ (zh hlt) hfl);refine ⟨us.toList[j*sz+o],by simp,?_⟩;unfold DCell;cases hl:zE o cols with
  |none=>exact hR
  |some q=>
   have:=Av (hnl e (aC he)) hl;rw [hx] at this;cases this;refine .inl ⟨.inl rfl,?_,by rw [zJ];simp [one]⟩;generalize us.toList[j*sz+o]=u at hR;cases hR;rfl
 ·exact ⟨rfl,_,hg,zH _,λ_=> .inr ⟨w.heap.size,us.size,m,by rw [zJ];rfl,rfl,by simp only;rw [hm];exact hul,zH _,hmax⟩⟩
theorem xX {o:Oper} {t e:TypeId} {len dst:Nat} {cols:List (Nat×Nat×TypeId)} {parts:Array (Nat×Operand)} {z:List PV} {ks:List (Nat×KX)} {rows:List (List CV)} {v:AV} (ho:o.op= .buildSlice t len parts) (hu:P.underlying t=some (.slice e)) (hok:iX P e=true) (hsm:¬len*P.cellsOf e>2^24)
  (hz:dQ P e=some z) (hp:parts.toList.mapM (λ(p:Nat×Operand)=>(kx p.2).map λx=>(p.1,x))=some ks) (hr:Rel F N0 T pl st a w)
  (h:cL ((List.replicate len z).map (·.map .p)) (P.cellsOf e) (ks.map λ(j,x)=>(j,st.eval x))=some rows)
  (h2:(∃rs st1,zl st rows=some (rs,st1)/\v= .c (.own st1.up.length (dst*64) (st1.fresh (dst*64)) len)/\st'=(st1.new (dst*64) (P.cellsOf e) e (bsK cols len rs)).2)\/
   ((rows.flatten).all (·.dep st.up.length)=true/\v= .c (.own st.up.length (dst*64) (st.fresh (dst*64)) len)/\st'=(st.new (dst*64) (P.cellsOf e) e (.box rows.flatten)).2)):
  Runs1 P o a w (rX F N0 pl st w v st'):=by
 obtain ⟨i,zv,hi,hzv,hzs,h0,hci⟩:=fH hok;simp only [dQ,hi,aN,hzv] at hz;obtain ⟨hl,hk⟩:=bY hp;have hlen:len<=maxLen:=by
  have:len*1<=len*P.cellsOf e:=Nat.mul_le_mul_left _ (by omega);simp only [maxLen];omega
 obtain ⟨hm1,hm2⟩:=sG (F:=F) (pl:=pl) (w:=w) (e:=e) (n:=len) hz (hzs.trans hci.symm) (by omega);have hbase:zT F (st.fr::st.up) pl w (madeCells zv.cells (len*P.cellsOf e)).toList ((List.replicate len z).map (·.map CV.p)).flatten:=by
  rw [<-List.map_flatten];exact hm1.cs
 obtain ⟨cells,h3,h4,h5,h6⟩:=lA (ks.map λ(j,x)=>(j,st.eval x)) ((parts.map λ(i,x)=>(i,a.eval x)).toList) _ _ rows (sz:=P.cellsOf e) (λr hr=>by
  obtain ⟨q,hq,rfl⟩:=List.mem_map.1 hr;rw [zamV];exact hm2 q hq) hbase (by simp [hl]) (λi p q hp' hq=>by
  simp only [Array.toList_map,zamS] at hp' hq;obtain ⟨⟨j,x⟩,hx,rfl⟩:=zD.1 hp';obtain ⟨⟨j',kq⟩,hq',rfl⟩:=zD.1 hq;have h7:=hk i _ _ hx hq';simp only [zD,zamL] at h7;obtain ⟨kx',hkx,rfl,rfl⟩:=h7;exact ⟨rfl,zG hr hkx⟩) h
 have hrl:rows.length=len:=by rw [h6];simp
 have hrun:(Instr.buildSlice t len (parts.map λ(i,x)=>(i,a.eval x))).run P w= .ok (.slice (some ⟨w.heap.size,0,none⟩) len len) {w with heap:=w.heap.push (.cells cells e)}:=by
  by_cases hzero:len*P.cellsOf e=0
  ·have hc0:madeCells zv.cells (len*P.cellsOf e)= #[]:=by rw [hzero];simp [madeCells]
   rw [hc0] at h3;have hci':i.size=P.cellsOf e:=hci.symm;have hmap:Array.range 0= #[]:=rfl;simp only [Array.toList_map] at h3;simp [Instr.buildSlice,run_underlying hu,sizeOf,typeInfo,hi,hci',hzero,hmap,h3,newRow]
  ·have:=run_buildSlice (P:=P) w t e len (parts.map λ(i,x)=>(i,a.eval x)) cells i zv hu hi hzv (by rw [<-hci];exact hsm) (by rw [<-hci];exact hzero) (by rw [<-hci];exact h3);exact this
 have hfinal:(execOp a.eval o).run P w= .ok (.value (.slice (some ⟨w.heap.size,0,none⟩) len len)) {w with heap:=w.heap.push (.cells cells e)}:=by
  simp only [execOp,ho,Sem.run_bind,hrun,Result.andThen_ok];rfl
 rcases h2 with ⟨rs,st1,hf,rfl,rfl⟩|⟨hd,rfl,rfl⟩
 ·obtain ⟨pl1,s1,r1,r2,r3⟩:=iB hr.mem hr.low h5 hf h4;refine zg hfinal ⟨xW s1 ?_,eU _ _⟩;unfold bsK;split
  ·rename_i h0;have hrs:rs.length=len:=by omega
   have hnil:rs= []:=bR (by omega);exact oT (sH hr s1) (by omega) r1 r2 hlen (λe he=>by rw [hnil] at he;cases he)
  ·exact sI (sH hr s1) (by omega) r1 r2 hlen
 ·refine zg hfinal ⟨eX (x:=one w.heap.size rows.flatten.length) hr (dZ _ _) (λj b s h=>by cases (aW h).2;exact ⟨zH _,by simp⟩) gO (λhk=>?_) (λhg=>?_),eU _ _⟩
  ·exact ⟨w.heap.size,cells,zJ ..,by simp,hk.repCs h4,λc hc=>zamK.1 hd c hc⟩
  ·refine ⟨rfl,_,hg,zH _,λ_=> .inr ⟨w.heap.size,_,len,by rw [zJ];rfl,rfl,?_,zH _,hlen⟩⟩;simp only;rw [(aR h5).1,hrl]
theorem CO {o:Oper} {t e:TypeId} {x y:Operand} {kl kc:KX} {dst:Nat} {cols:List (Nat×Nat×TypeId)} {z:List PV} {l:Int} (ho:o.op= .makeSlice t x y) (hu:P.underlying t=some (.slice e)) (hok:iX P e=true) (hz:dQ P e=some z) (hx:kx x=some kl) (hy:kx y=some kc) (hr:Rel F N0 T pl st a w) (hnl:AJ cols z=true)
  (h1:dB (st.eval kl)=some l) (h2:dB (st.eval kc)=some l) (h3:0<=l) (h4:(P.bytesOf e:Int)*l<=140737488355328) (h5:l<=9223372036854775807):
  Runs1 P o a w (rX F N0 pl st w (.c (.own st.up.length (dst*64) (st.fresh (dst*64)) l.toNat)) (st.new (dst*64) (P.cellsOf e) e (mH cols (rQ z l.toNat))).2):=by
 obtain ⟨i,zv,hi,hzv,hzs,h0,hci⟩:=fH hok;simp only [dQ,hi,aN,hzv] at hz;have e1:=cR h1 (zG hr hx);have e2:=cR h2 (zG hr hy);have hby:P.bytesOf e=i.bytes:=by simp [Program.bytesOf,hi]
 rw [hby] at h4;have hrun:=run_make (P:=P) w t e i zv hu hi hzv .i64 .i64 l l h3 (Int.le_refl _) (by omega) h5;obtain ⟨hm1,hm2⟩:=sG (F:=F) (pl:=pl) (w:=w) (e:=e) (n:=l.toNat) hz (hzs.trans hci.symm) (by omega);refine zg (u:= .slice (some ⟨w.heap.size,0,none⟩) l.toNat l.toNat) (w':={w with heap:=w.heap.push (.cells (madeCells zv.cells (l.toNat*P.cellsOf e)) e)}) ?_
  ⟨oT hr (by simp [rQ]) hm1 hm2 (by simp only [maxLen];omega) (λe he=>by rw [(List.mem_replicate.1 he).2];exact hnl),eU _ _⟩
 simp only [execOp,ho,e1,e2,Sem.run_bind,hrun,Result.andThen_ok,hci];rfl
end
section
variable {d n:Nat} {P:Program} {F:Nat->Prop} {G:Nat->Option Obj} {N0:Base G} {T:Nat} {pl pl':Pl} {st st':St} {a:Act} {w w':World} {fs fs':List Frame}
theorem aZ {α:Type} {l:List α} {i:Nat} (h:i<l.length):∃x,l[i]?=some x:=⟨l[i],zh h⟩
theorem wN {own:Nat->Prop} {ys:List (List PV)} {sz:Nat} (h0:0<sz) (hl:∀e∈ys,e.length=sz) {ad:Addr} (val:Nat->Nat->Value)
  (h:∀j e o x,ys[j]?=some e->e[o]?=some x->w.cell? (ad.add (j*sz+o))=some (val j o)/\RepP own w (val j o) x):
  ∃news:List Value,news.length=ys.length*sz/\(∀(j:Nat) u,news[j]?=some u->w.cell? (ad.add j)=some u)/\RepPs own w news ys.flatten:=by
 obtain ⟨h1,h2⟩:=aR hl;refine ⟨(List.range (ys.length*sz)).map λi=>val (i/sz) (i%sz),by simp,λj u hu=>?_,by simp [h1],λj u x hu hx=>?_⟩
 all_goals
  simp only [zamS,zD] at hu;obtain ⟨j',hj,rfl⟩:=hu;obtain ⟨hj1,hj2⟩:=zamJ.1 hj
  clear hj
  have hj:j<ys.length*sz:=by simpa using hj1
  rw [List.getElem_range] at hj2;subst hj2;have hdiv:j/sz<ys.length:=Nat.div_lt_of_lt_mul (by rw [Nat.mul_comm];exact hj);have hmod:j%sz<sz:=Nat.mod_lt _ h0;obtain ⟨e,he⟩:=aZ hdiv;have hel:=hl e (aC he);obtain ⟨x',hx'⟩:=aZ (l:=e) (i:=j%sz) (by omega);have e1:j/sz*sz+j%sz=j:=by rw [Nat.mul_comm];exact Nat.div_add_mod j sz
  obtain ⟨h3,h4⟩:=h _ _ _ _ he hx';have h5:=h2 _ _ (j%sz) he hmod;rw [e1] at h3 h5
 ·exact h3
 ·rw [hx'] at h5;rw [h5] at hx;cases hx;exact h4
theorem wO (hm:MemOK F N0 (st.fr::st.up) pl w) {v:Value} {x:AV} {ys:List (List PV)} {sz:Nat} (h:st.rows x=some ys) (h0:0<sz) (hl:∀e∈ys,e.length=sz) (hv:zf F (st.fr::st.up) pl w v x):
  (v= .slice none 0 0/\ys= [])\/∃ad c news,v= .slice (some ad) ys.length c/\news.length=ys.length*sz/\(∀(j:Nat) u,news[j]?=some u->w.cell? (ad.add j)=some u)/\RepPs (Own F pl) w news ys.flatten:=by
 unfold St.rows at h;split at h
 ·cases h;have hv:=dJ hv;cases hv;exact .inl ⟨rfl,rfl⟩
 ·cases h;have hv:=dJ hv;cases hv with
  |nls=>exact .inl ⟨rfl,rfl⟩
  | @ls ad n c sz' _ val hn hc hmx hown hcell hrep=>
   subst hn;by_cases hy:ys= []
   ·subst hy;exact .inr ⟨ad,c,[],rfl,by simp,by simp,by simp,by simp⟩
   ·have hsz:sz'=sz:=by
     obtain ⟨e,he⟩:=aZ (l:=ys) (i:=0) (List.length_pos_iff.2 hy);rw [<-(hcell 0 e he).1];exact hl e (aC he)
    subst hsz;obtain ⟨news,h1,h2,h3⟩:=wN h0 hl val (λj e o x he hx=>⟨(hcell j e he).2 o x hx,hrep j e o x he hx⟩);exact .inr ⟨ad,c,news,rfl,h1,h2,h3⟩
 ·rename_i d n g m;split at h
  ·rename_i g' sz' ty rows hB;split at h
   ·rename_i hc;obtain ⟨rfl,rfl⟩:=hc;cases h;obtain ⟨hone,B,h3,h4,h5⟩:=hv;have hB':zA d n (st.fr::st.up)=_:=hB;rw [hB'] at h3;cases h3;have hb:=hm.blk d n _ hB;rcases h5 rfl with ⟨rfl,hm0,hp⟩|⟨b,s,cap,hp,rfl,hs,hmc,hcm⟩
    ·exact .inl ⟨rfl,bR hm0⟩
    ·rcases hb with ⟨h6,h7⟩|⟨b',s',us,h6,h7,h8,h9,h10,h11⟩
     ·exact (dS hp h7).elim
     ·obtain ⟨rfl,rfl⟩:=wI hp h6;simp only at h7 h9 h10 h11;by_cases hy:ys= []
      ·subst hy;exact .inr ⟨_,cap,[],rfl,by simp,by simp,by simp,by simp⟩
      have hsz:sz'=sz:=by
       obtain ⟨e,he⟩:=aZ (l:=ys) (i:=0) (List.length_pos_iff.2 hy);rw [<-h10 e (aC he)];exact hl e (aC he)
      subst hsz;obtain ⟨news,g1,g2,g3⟩:=wN (own:=Own F pl) (w:=w) (ad:=⟨b,0,none⟩) h0 hl (λj o=>us.getD (j*sz'+o) .nilIface) (λj e o x he hx=>by
       obtain ⟨v,hv,hr⟩:=h11 j e o x he hx;have e1:us.getD (j*sz'+o) .nilIface=v:=by simp [Array.getD_eq_getD_getElem?,hv]
       rw [e1,cO,Nat.zero_add,dR h7];exact ⟨hv,hr⟩)
      exact .inr ⟨_,cap,news,rfl,g1,g2,g3⟩
   ·cases h
  ·cases h
 ·cases h
def pcO:Option (Nat×Nat)->Pc
 |none=>nop
 |some (b,s)=>one b s
theorem wP (x:Option (Nat×Nat)):∀j j' b s s',pcO x j=some (b,s)->pcO x j'=some (b,s')->j=j':=by
 cases x with
 |none=>exact gP
 |some x=>exact gO
theorem sJ (hr:Rel F N0 T pl st a w) {d n m:Nat} (hd:d<(st.fr::st.up).length) {B:Blk} {rows:List (List PV)} {x:Option (Nat×Nat)} {u:Value} (hB:B.k= .row rows) (hg:∀B0,zA d n (st.fr::st.up)=some B0->B0.g<B.g) (h1:One (pl d n) w w')
  (hv:(u= .slice none 0 0/\m=0/\x=none/\rows= [])\/∃b cap us,x=some (b,us.size)/\((∃s0,pl d n 0=some (b,s0))\/w.heap.size<=b)/\w'.heap[b]?=some (.cells us B.ty (0,0))/\u= .slice (some ⟨b,0,none⟩) m cap/\us.size=cap*B.sz/\m<=cap/\cap<=maxLen/\m=rows.length/\(∀e∈rows,e.length=B.sz)/\RepPs (Own F pl) w (us.toList.take (m*B.sz)) rows.flatten):
  Post F N0 pl st w (.c (.own d n B.g m)) (st.set d n B) u w':=by
 have hx:∀j b s,pcO x j=some (b,s)->((∃j0 s0,pl d n j0=some (b,s0))\/w.heap.size<=b)/\b<w'.heap.size:=by
  intro j b s hb;rcases hv with ⟨_,_,h,_⟩|⟨b',cap,us,h,h2,h3,_⟩
  ·rw [h] at hb;cases hb
  ·rw [h] at hb;cases (aW hb).2;exact ⟨h2.imp (λ⟨s0,h⟩=>⟨0,s0,h⟩) id,(zamX.1 h3).1⟩
 have hk:=eW (B:=B) (x:=pcO x) hr.mem hd (λB0 h0=>⟨Nat.le_of_lt (hg B0 h0),λe=>by have:=hg B0 h0;omega⟩) h1 (λj b s h=>(hx j b s h).1.imp (λ⟨j0,s0,h⟩=>⟨_,_,j0,s0,h⟩) id);have hblk:zj F (bN d n B (st.fr::st.up)) (aX pl d n (pcO x)) w' d n B:=by
  unfold zj;rw [hB];rcases hv with ⟨_,_,h,h2⟩|⟨b,cap,us,h,h2,h3,h4,h5,h6,h7,h8,h9,h10⟩
  ·exact .inl ⟨h2,by rw [zJ,h];rfl⟩
  ·obtain ⟨f1,f2⟩:=aR h9;refine .inr ⟨b,us.size,us,by rw [zJ,h];rfl,h3,rfl,by rw [h5,<-h8];exact dN _ h6,h9,λj e o y he hy=>?_⟩;have ho:o<B.sz:=by
    rw [<-h9 e (aC he)];by_cases ho:o<e.length
    ·exact ho
    ·rw [zamY (by omega)] at hy;cases hy
   have hfl:=f2 j e o he ho;rw [hy] at hfl;have hlt:j*B.sz+o<(us.toList.take (m*B.sz)).length:=by
    rw [h10.1];by_cases hlt:j*B.sz+o<rows.flatten.length
    ·exact hlt
    ·rw [zamY (by omega)] at hfl;cases hfl
   obtain ⟨v,hv⟩:=aZ hlt;have hv':us[j*B.sz+o]?=some v:=by
    rw [List.getElem?_take] at hv;simp only [Option.ite_none_right_eq_some] at hv;simpa using hv.2
   exact ⟨v,hv',hk.repP (h10.2 _ _ _ hv hfl)⟩
 have hm:=gN hr.mem hr.low hd hk h1 hx (wP x) hblk;refine ⟨⟨aX pl d n (pcO x),?_,by rw [zR];exact hm,by rw [zR];exact hk⟩,aY ..⟩;rw [zR];rcases hv with ⟨rfl,rfl,h,h2⟩|⟨b,cap,us,h,h2,h3,rfl,h5,h6,h7,h8,h9,h10⟩
 ·exact ⟨rfl,B,by rw [zX _ _ hd];simp,zH _,λ_=> .inl ⟨rfl,rfl,by rw [zJ,h];rfl⟩⟩
 ·exact ⟨rfl,B,by rw [zX _ _ hd];simp,zH _,λ_=> .inr ⟨b,us.size,cap,by rw [zJ,h];rfl,rfl,h5,h6,h7⟩⟩
theorem qP {own:Nat->Prop} {us vs:List Value} {ps qs:List PV} (h:RepPs own w us ps) (h':RepPs own w vs qs):RepPs own w (us++vs) (ps++qs):=by
 refine ⟨by simp [h.1,h'.1],λi u x hu hx=>?_⟩;rw [List.getElem?_append] at hu hx;rw [h.1] at hu;split at hx
 ·rename_i hi;rw [if_pos hi] at hu;exact h.2 i u x hu hx
 ·rename_i hi;rw [if_neg hi] at hu;exact h'.2 _ u x hu hx
theorem wQ {t ty e:TypeId} {i:TypeInfo} {z:Value} (hu:P.underlying t=some (.slice e)) (hi:P.info? e=some i) (hz:i.zero=some z) (hzs:z.cells.size=i.size) (h0:0<i.size) (hb0:0<i.bytes)
  (hm:MemOK F N0 (st.fr::st.up) pl w) {v vy:Value} {ky:AV} {m:Nat} {rows ys:List (List PV)} {us:List Value} (hown:w.ownsRow 0 e i.size v m us) (hmr:m=rows.length) (hrl:∀e∈rows,e.length=i.size) (hus:RepPs (Own F pl) w us rows.flatten)
  (hy:st.rows ky=some ys) (hyr:zf F (st.fr::st.up) pl w vy ky) (hyl:∀e∈ys,e.length=i.size) (hbytes:(m+ys.length)*i.bytes<=140737488355328) (hpl:∀b,v.ownBlock=some b->∃s,pl d n 0=some (b,s)):
  ∃u w' x,(Builtin.append_ #[t,t] ty #[v,vy]).run P w= .ok u w'/\One (pl d n) w w'/\
   ((u= .slice none 0 0/\m+ys.length=0/\x=none/\rows++ys= [])\/∃b cap us,x=some (b,us.size)/\((∃s0,pl d n 0=some (b,s0))\/w.heap.size<=b)/\w'.heap[b]?=some (.cells us e (0,0))/\u= .slice (some ⟨b,0,none⟩) (m+ys.length) cap/\us.size=cap*i.size/\m+ys.length<=cap/\cap<=maxLen/\m+ys.length=(rows++ys).length/\(∀e∈rows++ys,e.length=i.size)/\RepPs (Own F pl) w (us.toList.take ((m+ys.length)*i.size)) (rows++ys).flatten):=by
 have hall:∀e∈rows++ys,e.length=i.size:=λe he=>(List.mem_append.1 he).elim (hrl e) (hyl e)
 rcases wO hm hy h0 hyl hyr with ⟨rfl,rfl⟩|⟨ad,c,news,rfl,hl,hcell,hrep⟩
 ·have hrun:=run_append_owned_none (P:=P) w 0 t ty e i i.size hu hi v m us hown;rcases hown.2 with ⟨rfl,rfl⟩|⟨g,cap,cur,rfl,_,hg,hnc,hcm,hcs,htk⟩
  ·exact ⟨_,w,none,hrun,jB,.inl ⟨rfl,rfl,rfl,by simpa using bR hmr.symm⟩⟩
  ·refine ⟨_,w,some (g,cur.size),hrun,jB,.inr ⟨g,cap,cur,rfl,.inl (hpl g rfl),hg,rfl,hcs,hnc,hcm,by simp [hmr],hall,?_⟩⟩;rw [zanD,Nat.add_zero,htk,List.append_nil];exact hus
 ·have hle:m+ys.length<=140737488355328:=zU (Nat.le_mul_of_pos_right _ hb0) hbytes;obtain ⟨v',w',hrun,h1,h2,h3,h4⟩:=run_append_own_at (P:=P) w 0 t ty e i z i.size i.bytes hu hi hz rfl rfl hzs h0 v m us hown ad ys.length c news hl hcell (λu hu=>by
   obtain ⟨j,hj⟩:=List.mem_iff_getElem?.1 hu;obtain ⟨x,hx⟩:=aZ (l:=ys.flatten) (i:=j) (by rw [<-hrep.1];exact (zamJ.1 hj).1);exact (hrep.2 j u x hj hx).one.1) (by simp only [maxLen];omega) hbytes (Nat.zero_le _)
  have hone:One (pl d n) w w':=⟨h2.os,h2.tape,h2.output,h2.size,λk hk hn=>h2.block k hk (λe=>by obtain ⟨s,hs⟩:=hpl k e.symm;exact hn 0 s hs)⟩;rcases h1.2 with ⟨rfl,hmn⟩|⟨g,cap,cur,rfl,_,hg,hnc,hcm,hcs,htk⟩
  ·exact ⟨_,w',none,hrun,hone,.inl ⟨rfl,hmn,rfl,bR (by rw [zamO];omega)⟩⟩
  ·refine ⟨_,w',some (g,cur.size),hrun,hone,.inr ⟨g,cap,cur,rfl,?_,hg,rfl,hcs,hnc,hcm,by simp [hmr],hall,?_⟩⟩
   ·rcases h4 with h4|h4
    ·exact .inl (hpl g h4.symm)
    ·cases h4;exact .inr (zH _)
   ·rw [htk,List.flatten_append];exact qP hus hrep
theorem wR {cols:List (Nat×Nat×TypeId)}:∀{xs:List CV} {o:Nat} {ys:List PV} {q:Option (Nat×Nat×TypeId×Nat×Nat×Nat×Nat)},qJ cols o xs=some (ys,q)->ys.length=xs.length/\
  (∀(i:Nat) c,xs[i]?=some c->(zE (o+i) cols=none/\∃y,c= .p y/\ys[i]?=some y.weak)\/((∃t,zE (o+i) cols=some t)/\c= .p .nl/\ys[i]?=some (.ls []))\/
   (∃esz ety d n g m,zE (o+i) cols=some (esz,ety)/\c= .own d n g m/\ys[i]?=some .nl/\q=some (o+i,esz,ety,d,n,g,m)))/\
  ∀k esz ety d n g m,q=some (k,esz,ety,d,n,g,m)->o<=k/\zE k cols=some (esz,ety)/\xs[k-o]?=some (.own d n g m)
 | [],o,ys,q,h=>by
  simp only [qJ,zS,zamL] at h;obtain ⟨rfl,rfl⟩:=h;exact ⟨rfl,λi c hc=>by simp at hc,λk esz ety d n g m h=>by cases h⟩
 |x::r,o,ys,q,h=>by
  simp only [qJ,zK,Prod.exists] at h;obtain ⟨l,q1,h1,h⟩:=h;obtain ⟨k1,k2,k3⟩:=wR h1;have up:∀(c0:CV) (y0:PV),(∀(i:Nat) c,r[i]?=some c->(zE (o+(i+1)) cols=none/\∃y,c= .p y/\(y0::l)[i+1]?=some y.weak)\/((∃t,zE (o+(i+1)) cols=some t)/\c= .p .nl/\(y0::l)[i+1]?=some (.ls []))\/
   (∃esz ety d n g m,zE (o+(i+1)) cols=some (esz,ety)/\c= .own d n g m/\(y0::l)[i+1]?=some .nl/\q1=some (o+(i+1),esz,ety,d,n,g,m))):=λc0 y0 i c hc=>by
   have:=k2 i c hc;rw [show o+1+i=o+(i+1) by omega] at this;simpa using this
  have up3:∀k esz ety d n g m,q1=some (k,esz,ety,d,n,g,m)->o<=k/\zE k cols=some (esz,ety)/\(x::r)[k-o]?=some (.own d n g m):=λk esz ety d n g m e=>by
   obtain ⟨a1,a2,a3⟩:=k3 k esz ety d n g m e;refine ⟨by omega,a2,?_⟩;rw [show k-o=(k-(o+1))+1 by omega];simpa using a3
  split at h
  ·rename_i y hl;simp only [zS,zamL] at h;obtain ⟨rfl,rfl⟩:=h;refine ⟨by simp [k1],λi c hc=>?_,up3⟩;cases i with
   |zero=>cases hc;exact .inl ⟨hl,y,rfl,rfl⟩
   |succ i=>exact up (.p y) _ i c (by simpa using hc)
  ·rename_i t hl;simp only [zS,zamL] at h;obtain ⟨rfl,rfl⟩:=h;refine ⟨by simp [k1],λi c hc=>?_,up3⟩;cases i with
   |zero=>cases hc;exact .inr (.inl ⟨⟨t,hl⟩,rfl,rfl⟩)
   |succ i=>exact up .u _ i c (by simpa using hc)
  ·rename_i esz ety d n g m hl;simp only [zS,zamL] at h;obtain ⟨rfl,rfl⟩:=h;refine ⟨by simp [k1],λi c hc=>?_,λk esz' ety' d' n' g' m' e=>?_⟩
   ·cases i with
    |zero=>cases hc;exact .inr (.inr ⟨esz,ety,d,n,g,m,hl,rfl,rfl,rfl⟩)
    |succ i=>
     rcases k2 i c (by simpa using hc) with a|a|⟨_,_,_,_,_,_,_,_,_,a⟩
     ·rw [show o+1+i=o+(i+1) by omega] at a;exact .inl (by simpa using a)
     ·rw [show o+1+i=o+(i+1) by omega] at a;exact .inr (.inl (by simpa using a))
     ·cases a
   ·cases e;exact ⟨zH _,hl,by simp⟩
  ·cases h
def aPl (pl:Pl) (d m:Nat) (p0:Nat×Nat) (gone:Nat->Nat->Bool) (ex:Pc):Pl:=λd' n'=>
 if d'=d/\n'=m then (λi=>if i=0 then some p0 else match ex i with|some x=>some x|none=>pl d m i) else if gone d' n'=true then nop else pl d' n'
theorem uQ (pl:Pl) (d m:Nat) (p0:Nat×Nat) (gone:Nat->Nat->Bool) (ex:Pc):aPl pl d m p0 gone ex d m=λi=>if i=0 then some p0 else match ex i with|some x=>some x|none=>pl d m i:=by simp [aPl]
theorem wS (hm:MemOK F N0 fs pl w) (hN:N0.n<=w.heap.size) {d m:Nat} {p0:Nat×Nat} {gone:Nat->Nat->Bool} {ex:Pc} {B B1:Blk} (hB:zA d m fs=some B1) (hg:B1.g<B.g) (hg0:gone d m=false)
  (hex:∀i x,ex i=some x->i≠0/\∃d3 n3,gone d3 n3=true/\pl d3 n3 0=some x) (hexi:∀i i' b s s',ex i=some (b,s)->ex i'=some (b,s')->i=i')
  (hs:One (pl d m) w w') (hp0:((∃s0,pl d m 0=some (p0.1,s0))\/w.heap.size<=p0.1)/\p0.1<w'.heap.size) (hlen:fs'.length=fs.length) (hB':zA d m fs'=some B)
  (hgone:∀d' n',gone d' n'=true->(∀b,zA d' n' fs=some b->∃b',zA d' n' fs'=some b'/\b.g<b'.g)/\∀b',zA d' n' fs'=some b'->b'.k= .dead)
  (hoth:∀d' n',¬(d'=d/\n'=m)->gone d' n'=false->zA d' n' fs'=zA d' n' fs)
  (hblk:Keep F fs fs' pl (aPl pl d m p0 gone ex) w w'->zj F fs' (aPl pl d m p0 gone ex) w' d m B):MemOK F N0 fs' (aPl pl d m p0 gone ex) w'/\Keep F fs fs' pl (aPl pl d m p0 gone ex) w w':=by
 have back:∀{d' n' i:Nat} {x:Nat×Nat},aPl pl d m p0 gone ex d' n' i=some x->(d'=d/\n'=m/\i=0/\x=p0)\/(d'=d/\n'=m/\i≠0/\ex i=some x/\∃d3 n3,gone d3 n3=true/\pl d3 n3 0=some x)\/(pl d' n' i=some x/\gone d' n'=false/\¬(d'=d/\n'=m/\i=0)):=by
  intro d' n' i x h;by_cases e1:d'=d/\n'=m
  ·obtain ⟨rfl,rfl⟩:=e1;rw [uQ] at h;simp only at h;by_cases e0:i=0
   ·rw [if_pos e0] at h;cases h;exact .inl ⟨rfl,rfl,e0,rfl⟩
   ·rw [if_neg e0] at h;cases hq:ex i with
    |some y=>
     rw [hq] at h;cases h;exact .inr (.inl ⟨rfl,rfl,e0,rfl,(hex i x hq).2⟩)
    |none=>
     rw [hq] at h;exact .inr (.inr ⟨h,hg0,λe=>e0 e.2.2⟩)
  ·unfold aPl at h;rw [if_neg e1] at h;cases hq:gone d' n' with
   |true=>rw [hq,if_pos rfl] at h;cases h
   |false=>
    rw [hq,if_neg (by decide)] at h;exact .inr (.inr ⟨h,rfl,λe=>e1 ⟨e.1,e.2.1⟩⟩)
 have oth:∀{d' n':Nat},¬(d'=d/\n'=m)->gone d' n'=false->aPl pl d m p0 gone ex d' n'=pl d' n':=fun {d' n'} e1 e2=>by
  unfold aPl;rw [if_neg e1,e2,if_neg (by decide)]
 have hK:Keep F fs fs' pl (aPl pl d m p0 gone ex) w w':=by
  refine ⟨⟨hs.os,hs.tape,hs.output,hs.size,λk hk hn=>hs.block k hk (λj s=>hn d m j s)⟩,hlen,λd' n' b hb=>?_,λd' n' i b s h=>?_⟩
  ·by_cases e1:d'=d/\n'=m
   ·obtain ⟨rfl,rfl⟩:=e1;rw [hB] at hb;cases hb;exact ⟨B,hB',Nat.le_of_lt hg,λe=>by omega⟩
   ·cases hq:gone d' n' with
    |true=>
     obtain ⟨b',h1,h2⟩:=(hgone d' n' hq).1 b hb;exact ⟨b',h1,Nat.le_of_lt h2,λe=>by omega⟩
    |false=>exact ⟨b,by rw [hoth d' n' e1 hq];exact hb,zH _,λ_=>⟨Ext.of (oth e1 hq),rfl⟩⟩
  ·rcases back h with ⟨_,_,_,h1⟩|⟨_,_,_,_,d3,n3,_,h1⟩|⟨h1,_⟩
   ·rcases hp0.1 with ⟨s0,h2⟩|h2
    ·exact .inl ⟨d,m,0,s0,by rw [h2,<-h1]⟩
    ·rw [<-h1] at h2;exact .inr h2
   ·exact .inl ⟨_,_,_,_,h1⟩
   ·exact .inl ⟨_,_,_,_,h1⟩
 refine ⟨⟨λd' n' i b s h=>?_,λe1 m1 i1 e2 m2 i2 b s s' h1 h2=>?_,λd' n' Bx hBx=>?_,λk hk=>dV (hm.fsz k hk) hs.size,cU hm hK.step.block⟩,hK⟩
 ·have fin:∀{d0 n0 i0 s},pl d0 n0 i0=some (b,s)->N0.n<=b/\b<w'.heap.size/\¬F b:=fun {d0 n0 i0 s} h=>by
   obtain ⟨a1,a2,a3,_⟩:=hm.live _ _ _ _ _ h;exact ⟨a1,dV a2 hs.size,a3⟩
  rcases back h with ⟨rfl,rfl,_,h1⟩|⟨rfl,rfl,_,_,d3,n3,_,h1⟩|⟨h1,e2,_⟩
  ·rcases hp0.1 with ⟨s0,h2⟩|h2
   ·rw [<-h1] at h2;obtain ⟨a1,a2,a3⟩:=fin h2;exact ⟨a1,a2,a3,B,hB'⟩
   ·have h3:=hp0.2;rw [<-h1] at h2 h3;obtain ⟨a1,a2,_⟩:=mQ hm hN h2;exact ⟨a1,h3,a2,B,hB'⟩
  ·obtain ⟨a1,a2,a3⟩:=fin h1;exact ⟨a1,a2,a3,B,hB'⟩
  ·obtain ⟨a1,a2,a3⟩:=fin h1;obtain ⟨_,_,_,Bq,a4⟩:=hm.live _ _ _ _ _ h1;refine ⟨a1,a2,a3,?_⟩;by_cases e1:d'=d/\n'=m
   ·obtain ⟨rfl,rfl⟩:=e1;exact ⟨B,hB'⟩
   ·exact ⟨Bq,by rw [hoth d' n' e1 e2];exact a4⟩
 ·--the new place of the row is nobody else's
  have p0free:∀{d' n' i' s1 s2},(b,s1)=p0->pl d' n' i'=some (b,s2)->d'=d/\n'=m/\i'=0:=fun {d' n' i' s1 s2} he h=>by
   rcases hp0.1 with ⟨s0,h0⟩|h0
   ·rw [<-he] at h0;exact hm.inj _ _ _ _ _ _ _ _ _ h h0
   ·rw [<-he] at h0;have:=(hm.live _ _ _ _ _ h).2.1;omega
  rcases back h1 with ⟨rfl,rfl,rfl,g1⟩|⟨rfl,rfl,z1,x1,d3,n3,y1,g1⟩|⟨g1,k1,k2⟩<;>rcases back h2 with ⟨rfl,rfl,rfl,g2⟩|⟨rfl,rfl,z2,x2,d4,n4,y2,g2⟩|⟨g2,k3,k4⟩
  ·exact ⟨rfl,rfl,rfl⟩
  ·obtain ⟨rfl,rfl,_⟩:=p0free g1 g2;rw [hg0] at y2;cases y2
  ·exact absurd (p0free g1 g2) k4
  ·obtain ⟨rfl,rfl,_⟩:=p0free g2 g1;rw [hg0] at y1;cases y1
  ·exact ⟨rfl,rfl,hexi _ _ _ _ _ x1 x2⟩
  ·obtain ⟨rfl,rfl,_⟩:=hm.inj _ _ _ _ _ _ _ _ _ g1 g2;rw [k3] at y1;cases y1
  ·exact absurd (p0free g2 g1) k2
  ·obtain ⟨rfl,rfl,_⟩:=hm.inj _ _ _ _ _ _ _ _ _ g1 g2;rw [k1] at y2;cases y2
  ·exact hm.inj _ _ _ _ _ _ _ _ _ g1 g2
 ·by_cases e1:d'=d/\n'=m
  ·obtain ⟨rfl,rfl⟩:=e1;rw [hB'] at hBx;cases hBx;exact hblk hK
  ·cases hq:gone d' n' with
   |true=>
    have h1:=(hgone d' n' hq).2 Bx hBx;unfold zj;rw [h1];unfold aPl;rw [if_neg e1,hq,if_pos rfl]
   |false=>
    rw [hoth d' n' e1 hq] at hBx;refine bZ hK (oth e1 hq) (λi b s h=>hs.block b (hm.live _ _ _ _ _ h).2.1 (λj s' h'=>?_)) (hm.blk d' n' Bx hBx);obtain ⟨a1,a2,_⟩:=hm.inj _ _ _ _ _ _ _ _ _ h h';exact e1 ⟨a1,a2⟩
theorem CP {o:Oper} {t ty e:TypeId} {x y:Operand} {kx' ky:KX} {g m:Nat} {v:AV} (hexec:∀u w',(Builtin.append_ #[t,t] ty #[a.eval x,a.eval y]).run P w= .ok u w'->(execOp a.eval o).run P w= .ok (.value u) w')
  (hu:P.underlying t=some (.slice e)) (hok:iX P e=true) (hx:kx x=some kx') (hy:kx y=some ky) (hr:Rel F N0 T pl st a w) (hkx:st.eval kx'= .c (.own d n g m))
  (h:oK st d n g m e (P.cellsOf e) (P.bytesOf e) (st.eval ky)=some (v,st')):Runs1 P o a w (Post F N0 pl st w v st'):=by
 obtain ⟨i,z,hi,hz,hzs,hz0,hci⟩:=fH hok;have hby:P.bytesOf e=i.bytes:=by simp [Program.bytesOf,hi]
 have e1:=zG hr hx;have e2:=zG hr hy;rw [hkx] at e1;unfold oK at h;split at h
 ·rename_i d2 n2 g2 m2 hky;rw [hky] at e2;split at h
  ·rename_i g' sz' ty' cols rows g2' sz2 ty2 cells hB hY;split at h
   ·rename_i hc;obtain ⟨rfl,q1,q2,rfl,rfl,hcl,c1,c2,rfl,c3⟩:=hc
    replace q1:=q1.symm
    replace q2:=q2.symm
    subst q1;subst q2;obtain ⟨⟨ys,q⟩,hq,h⟩:=zK.1 h;simp only at h;obtain ⟨p1,p2,p3⟩:=wR hq;have hB':zA d n (st.fr::st.up)=some ⟨g,P.cellsOf e,e,.deep cols rows⟩:=hB;have hY':zA d2 n2 (st.fr::st.up)=some ⟨g2,sz2,ty2,.box cells⟩:=hY;obtain ⟨b2,us2,y1,y2,y3,y4⟩:=hr.mem.blk d2 n2 _ hY';have hvy:∃cap2,a.eval y= .slice (some ⟨b2,0,none⟩) 1 cap2:=by
     obtain ⟨_,Bq,r2,_,r4⟩:=e2;rw [hY'] at r2;cases r2;rcases r4 rfl with ⟨_,h0,_⟩|⟨b,s,cap,hp,hv,_⟩
     ·cases h0
     ·obtain ⟨rfl,_⟩:=eB hp y1;exact ⟨cap,hv⟩
    obtain ⟨cap2,hvy⟩:=hvy;have hnl:us2.toList.length=i.size:=by rw [y3.1,hcl,hci]
    have hknown:cells.all (·.known)=true:=fF (zamK.2 y4);have hone1:=wJ y3 hknown;have key:∃us,w.ownsRow 0 e i.size (a.eval x) rows.length us/\(∀b,(a.eval x).ownBlock=some b->∃s,pl d n 0=some (b,s))/\(∀e∈rows,e.length=i.size)/\
      (∀j e o x,rows[j]?=some e->e[o]?=some x->∃v,us[j*i.size+o]?=some v/\DCell F w pl (pl d n) cols i.size j o v x)/\∀c,rows.length*i.size<=c->pl d n (c+1)=none:=by
     obtain ⟨_,Bq,r2,_,r4⟩:=e1;rw [hB'] at r2;cases r2;have hb:=hr.mem.blk d n _ hB';rcases r4 rfl with ⟨h6,hm0,hp⟩|⟨b,s,cap,hp,h6,hs,hmc,hcm⟩
     ·have hnil:rows= []:=bR hm0;rcases hb with ⟨_,h8⟩|⟨b',s',us,h7,_⟩
      ·subst hnil;exact ⟨[],by rw [h6];exact World.ownsRow_nil w 0 e i.size,(by rw [h6];intro b hb;cases hb),by simp,λj e o x he=>by simp at he,λc _=>by rw [h8];rfl⟩
      ·rw [hp] at h7;cases h7
     ·rcases hb with ⟨_,h8⟩|⟨b',s',us,h7,h8,h9,h10,h11,h12,h13⟩
      ·exact (dS hp h8).elim
      ·rw [hp] at h7;cases h7;simp only at h8 h10 h11 h12 h13 hs;rw [hci] at h10 h11 h12 h13 hs;refine ⟨us.toList.take (rows.length*i.size),⟨by simp;omega,.inr ⟨b,cap,us,h6,Nat.zero_le _,h8,hmc,hcm,by omega,rfl⟩⟩,(by rw [h6];intro b' hb';cases hb';exact ⟨s,hp⟩),h11,λj e o x he hx=>?_,h13⟩;obtain ⟨v,hv,hd⟩:=h12 j e o x he hx;have hj:=(zamJ.1 he).1;have ho:o<i.size:=by rw [<-h11 e (aC he)];exact (zamJ.1 hx).1
       have hmul:=dN i.size (show j+1<=rows.length by omega);rw [Nat.add_mul] at hmul;exact ⟨v,by rw [List.getElem?_take,if_pos (by omega)];simpa using hv,hd⟩
    obtain ⟨us,k1,k2,k3,k4,k5⟩:=key;have hle:rows.length+1<=140737488355328:=zU (Nat.le_mul_of_pos_right _ c2) c3;obtain ⟨v',w',hrun,h1,h2,h3,h4⟩:=run_append_own_at (P:=P) w 0 t ty e i z i.size i.bytes hu hi hz rfl rfl hzs hz0 (a.eval x) rows.length us k1 ⟨b2,0,none⟩ 1 cap2 us2.toList (by rw [hnl];omega) (λj u hj=>by
     rw [cO,Nat.zero_add,dR y2];simpa using hj) hone1 (by simp only [maxLen];omega) (by rw [<-hby];exact c3) (Nat.zero_le _)
    rw [<-hvy] at hrun;rcases h1.2 with ⟨_,h0⟩|⟨g0,cap,cur,rfl,_,hg0,hnc,hcm,hcs,htk⟩
    ·omega
    have hlt0:g0<w'.heap.size:=(zamX.1 hg0).1;have hp0:(∃s0,pl d n 0=some (g0,s0))\/w.heap.size<=g0:=by
     rcases h4 with h4|h4
     ·exact .inl (k2 g0 h4.symm)
     ·cases h4;exact .inr (zH _)
    have hblock:∀k,k<w.heap.size->(∀s,pl d n 0≠some (k,s))->w'.heap[k]?=w.heap[k]?:=λk hk hn=>h2.block k hk (λe=>by obtain ⟨s,hs⟩:=k2 k e.symm;exact hn s hs)
    have hone:One (pl d n) w w':=⟨h2.os,h2.tape,h2.output,h2.size,λk hk hn=>hblock k hk (λs=>hn 0 s)⟩;have nest:∀c b s,pl d n (c+1)=some (b,s)->w'.heap[b]?=w.heap[b]?:=λc b s hp=>hblock b (hr.mem.live _ _ _ _ _ hp).2.1 (λs' h'=>by
     have:=(hr.mem.inj _ _ _ _ _ _ _ _ _ hp h').2.2;omega)
    have hcur:∀j,j<(rows.length+1)*i.size->cur[j]?=(us++us2.toList)[j]?:=λj hj=>by
     rw [<-htk,List.getElem?_take,if_pos hj];simp
    have hul:us.length=rows.length*i.size:=k1.1;have hmul1:(rows.length+1)*i.size=rows.length*i.size+i.size:=by rw [Nat.add_mul,Nat.one_mul]
    have fin:∀{fs':List Frame} {pl':Pl} {ys':List PV},(∀{u x},RepP (Own F pl) w u x->RepP (Own F pl') w' u x)->pl' d n 0=some (g0,cur.size)->(∀c,c<rows.length*i.size->pl' d n (c+1)=pl d n (c+1))->ys'.length=i.size->
      (∀o x',ys'[o]?=some x'->∃u,us2.toList[o]?=some u/\DCell F w' pl' (pl' d n) cols i.size rows.length o u x')->(∀c,(rows.length+1)*i.size<=c->pl' d n (c+1)=none)->zj F fs' pl' w' d n ⟨g+1,P.cellsOf e,e,.deep cols (rows++ [ys'])⟩:=by
     intro fs' pl' ys' hP q0 qold qlen qnew qbey;refine .inr ⟨g0,cur.size,cur,q0,hg0,rfl,?_,?_,?_,?_⟩
     ·simp only [zamO,List.length_singleton];rw [hcs,hci];exact dN _ hnc
     ·intro e' he';simp only at he'⊢;rw [hci];rcases List.mem_append.1 he' with h'|h'
      ·exact k3 _ h'
      ·rw [zamQ.1 h'];exact qlen
     ·intro j e' o' x' he hx';simp only at he hx'⊢;rw [hci];by_cases hj:j<rows.length
      ·rw [zanA hj] at he;obtain ⟨v,hv,hd⟩:=k4 j e' o' x' he hx';have ho:o'<i.size:=by rw [<-k3 e' (aC he)];exact (zamJ.1 hx').1
       have hmul:=dN i.size (show j+1<=rows.length by omega);rw [Nat.add_mul] at hmul;have hlt:j*i.size+o'<rows.length*i.size:=by omega
       refine ⟨v,?_,(hd.keep hP nest).at (qold _ hlt)⟩;rw [hcur _ (by omega),zanA (by omega)];exact hv
      ·have hj2:j=rows.length:=by
        have:=(zamJ.1 he).1;simp at this;omega
       subst hj2;rw [zanB (zH _),Nat.sub_self] at he;cases he;obtain ⟨u,hu',hd⟩:=qnew o' x' hx';have ho:o'<i.size:=by rw [<-qlen];exact (zamJ.1 hx').1
       refine ⟨u,?_,hd⟩;rw [hcur _ (by omega),zanB (by omega),hul,Nat.add_sub_cancel_left];exact hu'
     ·intro c hc;simp only [zamO,List.length_singleton] at hc;rw [hci] at hc;exact qbey c hc
    have hyl:ys.length=i.size:=by rw [p1,hcl,hci]
    have cell:∀{pl':Pl},(∀{u x},RepP (Own F pl) w u x->RepP (Own F pl') w' u x)->∀o x',ys[o]?=some x'->(∀k esz ety d n g m,q=some (k,esz,ety,d,n,g,m)->o≠k)->pl' d n (rows.length*i.size+o+1)=none->∃u,us2.toList[o]?=some u/\DCell F w' pl' (pl' d n) cols i.size rows.length o u x':=by
     intro pl' hP o x' hx' hk hfree;have ho:o<cells.length:=by rw [<-p1];exact (zamJ.1 hx').1
     obtain ⟨c,hc⟩:=aZ ho;have hlu:o<us2.toList.length:=by rw [y3.1];exact ho
     obtain ⟨u,hu'⟩:=aZ hlu;have hrep:=(y3.2 o u c hu' hc).1;refine ⟨u,hu',?_⟩;have:=p2 o c hc;rw [Nat.zero_add] at this;unfold DCell;rcases this with ⟨a1,y,rfl,a2⟩|⟨⟨t,a1⟩,rfl,a2⟩|⟨esz,ety,d',n',g',m',a1,_,_,a2⟩
     ·rw [a1];rw [hx'] at a2;cases a2;exact hP (RepP.weak hrep)
     ·rw [a1];rw [hx'] at a2;cases a2;have hrep:RepP (Own F pl) w u .nl:=hrep;cases hrep;exact .inl ⟨.inr rfl,rfl,hfree⟩
     ·exact absurd rfl (hk _ _ _ _ _ _ _ a2)
    have hres:∀{fs':List Frame} {pl':Pl} {ys':List PV},zA d n fs'=some ⟨g+1,P.cellsOf e,e,.deep cols (rows++ [ys'])⟩->pl' d n 0=some (g0,cur.size)->zf F fs' pl' w' (.slice (some ⟨g0,0,none⟩) (rows.length+1) cap) (.c (.own d n (g+1) (rows.length+1))):=by
     intro fs' pl' ys' hf hp;exact ⟨rfl,_,hf,zH _,λ_=> .inr ⟨g0,cur.size,cap,hp,rfl,by rw [hcs,hci],hnc,hcm⟩⟩
    have hd:=zO hB';cases hqq:q with
    |none=>
     subst hqq;simp only [zS,zamL] at h;obtain ⟨rfl,rfl⟩:=h;have hfs:∀d' n',zA d' n' ((st.set d n ⟨g+1,P.cellsOf e,e,.deep cols (rows++ [ys])⟩).fr::(st.set d n ⟨g+1,P.cellsOf e,e,.deep cols (rows++ [ys])⟩).up)=if d'=d/\n'=n then some ⟨g+1,P.cellsOf e,e,.deep cols (rows++ [ys])⟩ else zA d' n' (st.fr::st.up):=λd' n'=>by
      rw [zR,zX d' n' hd]
     have hpl:aPl pl d n (g0,cur.size) (λ_ _=>false) nop d n=λi=>if i=0 then some (g0,cur.size) else pl d n i:=by rw [uQ];rfl
     obtain ⟨m1,m2⟩:=wS (B:=⟨g+1,P.cellsOf e,e,.deep cols (rows++ [ys])⟩) (fs':=(st.set d n ⟨g+1,P.cellsOf e,e,.deep cols (rows++ [ys])⟩).fr::(st.set d n ⟨g+1,P.cellsOf e,e,.deep cols (rows++ [ys])⟩).up) (p0:=(g0,cur.size)) (gone:=λ_ _=>false) (ex:=nop) hr.mem hr.low hB' (Nat.lt_succ_self _) rfl (λi x h=>by cases h) gP hone ⟨hp0,hlt0⟩ (by rw [zR,zr]) (by rw [hfs,if_pos ⟨rfl,rfl⟩]) (λ_ _ h=>by cases h) (λd' n' e1 _=>by rw [hfs,if_neg e1])
      (λhk=>fin (λh=>hk.repP h) (by rw [hpl];rfl) (λc _=>by rw [hpl];rfl) hyl (λo x' hx'=>cell (λh=>hk.repP h) o x' hx' (λk esz ety d n g m h=>by cases h) (by rw [hpl];exact k5 _ (by omega))) (λc hc=>by rw [hpl];exact k5 c (by omega)))
     exact zg (hexec _ _ hrun) ⟨⟨_,hres (by rw [hfs,if_pos ⟨rfl,rfl⟩]) (by rw [hpl];rfl),m1,m2⟩,aY ..⟩
    |some tq=>
     subst hqq;obtain ⟨k,esz,ety,d3,n3,g3,m3⟩:=tq;simp only at h;split at h
     ·rename_i g3' esz' ety' rows3 hR;split at h
      ·rename_i hc;obtain ⟨rfl,rfl,rfl,hm3⟩:=hc;simp only [zS,zamL] at h;obtain ⟨rfl,rfl⟩:=h;obtain ⟨_,l2,l3⟩:=p3 _ _ _ _ _ _ _ rfl;rw [Nat.sub_zero] at l3;have hR':zA d3 n3 (st.fr::st.up)=some ⟨g3,esz',ety',.row rows3⟩:=hR;have hne:¬(d=d3/\n=n3):=λe=>by
        obtain ⟨rfl,rfl⟩:=e;rw [hB'] at hR';cases hR'
       have hksz:k<i.size:=by rw [<-hci,<-hcl];exact (zamJ.1 l3).1
       have hd3:=zO hR';have hfs:∀d' n',zA d' n' (((st.set d3 n3 ⟨g3+1,esz',ety',.dead⟩).set d n ⟨g+1,P.cellsOf e,e,.deep cols (rows++ [ys.set k (.ls rows3)])⟩).fr::((st.set d3 n3 ⟨g3+1,esz',ety',.dead⟩).set d n ⟨g+1,P.cellsOf e,e,.deep cols (rows++ [ys.set k (.ls rows3)])⟩).up)=
         if d'=d/\n'=n then some ⟨g+1,P.cellsOf e,e,.deep cols (rows++ [ys.set k (.ls rows3)])⟩ else if d'=d3/\n'=n3 then some ⟨g3+1,esz',ety',.dead⟩ else zA d' n' (st.fr::st.up):=λd' n'=>by
        rw [zR,zX d' n' (by rw [zR,zr];exact hd),zR,zX d' n' hd3]
       let gone:Nat->Nat->Bool:=λd' n'=>decide (d'=d3/\n'=n3)
       let ex:Pc:=λi'=>if i'=rows.length*i.size+k+1 then pl d3 n3 0 else none
       have gt:∀{d' n'},gone d' n'=true->d'=d3/\n'=n3:=λh=>of_decide_eq_true h
       have gf:∀{d' n'},gone d' n'=false->¬(d'=d3/\n'=n3):=λh=>of_decide_eq_false h
       have hpl:aPl pl d n (g0,cur.size) gone ex d n=λi'=>if i'=0 then some (g0,cur.size) else match ex i' with|some x=>some x|none=>pl d n i':=uQ ..
       have hplk:aPl pl d n (g0,cur.size) gone ex d n (rows.length*i.size+k+1)=pl d3 n3 0:=by
        rw [hpl];simp only [Nat.succ_ne_zero,if_false,ex,if_true];cases hq0:pl d3 n3 0 with
        |some x=>rfl
        |none=>exact k5 _ (by omega)
       have hplo:∀c,c≠rows.length*i.size+k->aPl pl d n (g0,cur.size) gone ex d n (c+1)=pl d n (c+1):=λc hc=>by
        rw [hpl];simp only [Nat.succ_ne_zero,if_false,ex];rw [if_neg (by omega)]
       obtain ⟨m1,m2⟩:=wS (B:=⟨g+1,P.cellsOf e,e,.deep cols (rows++ [ys.set k (.ls rows3)])⟩) (fs':=((st.set d3 n3 ⟨g3+1,esz',ety',.dead⟩).set d n ⟨g+1,P.cellsOf e,e,.deep cols (rows++ [ys.set k (.ls rows3)])⟩).fr::((st.set d3 n3 ⟨g3+1,esz',ety',.dead⟩).set d n ⟨g+1,P.cellsOf e,e,.deep cols (rows++ [ys.set k (.ls rows3)])⟩).up) (p0:=(g0,cur.size)) (gone:=gone) (ex:=ex) hr.mem hr.low hB' (Nat.lt_succ_self _) (aA hne) (λi' x h=>by
         simp only [ex] at h;split at h
         ·exact ⟨by omega,d3,n3,zC ⟨rfl,rfl⟩,h⟩
         ·cases h) (λi1 i2 b s s' h1 h2=>by
         simp only [ex] at h1 h2;split at h1
         ·split at h2
          ·omega
          ·cases h2
         ·cases h1) hone ⟨hp0,hlt0⟩ (by rw [zR,zr,zR,zr]) (by rw [hfs,if_pos ⟨rfl,rfl⟩]) (λd' n' hg=>by
         obtain ⟨rfl,rfl⟩:=gt hg;refine ⟨λb hb=>?_,λb' hb'=>?_⟩
         ·rw [hR'] at hb;cases hb;exact ⟨⟨g3+1,esz',ety',.dead⟩,by rw [hfs,if_neg (λe=>hne ⟨e.1.symm,e.2.symm⟩),if_pos ⟨rfl,rfl⟩],Nat.lt_succ_self _⟩
         ·rw [hfs,if_neg (λe=>hne ⟨e.1.symm,e.2.symm⟩),if_pos ⟨rfl,rfl⟩] at hb';cases hb';rfl) (λd' n' e1 hg=>by rw [hfs,if_neg e1,if_neg (gf hg)])
        (λhk=>fin (λh=>hk.repP h) (by rw [hpl];rfl) (λc hc=>hplo c (by omega)) (by rw [List.length_set];exact hyl) (λo x' hx'=>by
         by_cases e1:o=k
         ·subst e1;have hkl:o<ys.length:=by omega
          rw [List.getElem?_set_self hkl] at hx';cases hx';have hlu:o<us2.toList.length:=by omega
          obtain ⟨u,hu'⟩:=aZ hlu;have hr3:=(y3.2 o u _ hu' l3).1;refine ⟨u,hu',?_⟩;unfold DCell;rw [l2,hplk];obtain ⟨_,Bq,r2,_,r4⟩:=hr3;rw [hR'] at r2;cases r2;rcases r4 rfl with ⟨a1,a2,a3⟩|⟨b3,s3,cap3,a1,a2,a3,a4,a5⟩
          ·exact .inl ⟨.inr (by rw [bR (hm3.symm.trans a2)]),a1,a3⟩
          ·rcases hr.mem.blk d3 n3 _ hR' with ⟨z1,z2⟩|⟨b4,s4,us3,z1,z2,z3,z4,z5,z6⟩
           ·exact (dS a1 z2).elim
           ·obtain ⟨rfl,rfl⟩:=eB a1 z1;refine .inr ⟨rows3,b4,s4,cap3,us3,rfl,a1,by rw [<-hm3];exact a2,a3,by rw [<-hm3];exact a4,a5,?_,z3,z5,λj2 e2 o2 y he2 hy=>?_⟩
            ·refine (hblock b4 (hr.mem.live _ _ _ _ _ a1).2.1 (λs' h'=>?_)).trans z2;obtain ⟨g1,g3,_⟩:=hr.mem.inj _ _ _ _ _ _ _ _ _ h' a1;exact hne ⟨g1,g3⟩
            ·obtain ⟨u,hu,hru⟩:=z6 j2 e2 o2 y he2 hy;exact ⟨u,hu,hk.repP hru⟩
         ·rw [List.getElem?_set_ne (Ne.symm e1)] at hx';exact cell (λh=>hk.repP h) o x' hx' (λk' esz ety d n g m h=>by cases h;exact e1) (by rw [hplo _ (by omega)];exact k5 _ (by omega))) (λc hc=>by rw [hplo _ (by omega)];exact k5 c (by omega)))
       exact zg (hexec _ _ hrun) ⟨⟨_,hres (by rw [hfs,if_pos ⟨rfl,rfl⟩]) (by rw [hpl];rfl),m1,m2⟩,by rw [aY,aY]⟩
      ·cases h
     ·cases h
   ·cases h
  ·cases h
 ·cases h
theorem DG {o:Oper} {c:Call} {t e:TypeId} {x y:Operand} {kx' ky:KX} {dst:Nat} {v:AV} (ho:o.op= .call c) (hcal:c.callee= .builtin .append) (hargs:c.args.toList= [x,y]) (htys:c.argTypes= #[t,t])
  (hu:P.underlying t=some (.slice e)) (hok:iX P e=true) (hx:kx x=some kx') (hy:kx y=some ky) (hr:Rel F N0 T pl st a w) {run:zo}
  (h:zB run st dst (.app e (P.cellsOf e) (P.bytesOf e) kx' ky)=some (v,st')):Runs1 P o a w (Post F N0 pl st w v st'):=by
 obtain ⟨i,z,hi,hz,hzs,hz0,hci⟩:=fH hok;have hby:P.bytesOf e=i.bytes:=by simp [Program.bytesOf,hi]
 have e1:=zG hr hx;have e2:=zG hr hy;have hargs':c.args= #[x,y]:=by rw [<-Array.toArray_toList (xs:=c.args),hargs]
 have hexec:∀u w',(Builtin.append_ #[t,t] o.type #[a.eval x,a.eval y]).run P w= .ok u w'->(execOp a.eval o).run P w= .ok (.value u) w':=by
  intro u w' hrun;simp only [execOp,ho,resolve,hcal,hargs',htys,invoke,builtin,List.map_toArray,zanE,List.map_nil,Sem.run_bind,Sem.run_pure,Result.andThen_ok,hrun]
  first|done|rfl
 simp only [zB] at h;split at h
 ·rename_i ys hkx hys;split at h
  ·rename_i hc;obtain ⟨c1,c2,c3,c4⟩:=hc;simp only [zamK,zanG] at c4;cases h;rw [hkx] at e1;have e1:=dJ e1;generalize hvx:a.eval x=vx at*
   cases e1;have hd:st.up.length<(st.fr::st.up).length:=by simp
   obtain ⟨u,w',x',hrun,hone,hv⟩:=wQ (d:=st.up.length) (n:=dst*64) (pl:=pl) (ty:=o.type) hu hi hz hzs hz0 (by omega) hr.mem (World.ownsRow_nil w 0 e i.size) (rows:= []) rfl (by simp) ⟨rfl,by simp⟩ hys e2 (by rw [<-hci];exact c4) (by rw [Nat.zero_add,<-hby];exact c3) (by intro b hb;cases hb);refine zg (hexec u w' hrun) ?_;have hset:(st.new (dst*64) (P.cellsOf e) e (.row ys)).2=st.set st.up.length (dst*64) ⟨st.fresh (dst*64),P.cellsOf e,e,.row ys⟩:=by simp [St.set,St.new]
   rw [hset];simp only [Nat.zero_add,List.nil_append] at hv;exact sJ (B:=⟨st.fresh (dst*64),P.cellsOf e,e,.row ys⟩) hr hd rfl (λB0 h0=>by
    have:zE (dst*64) st.fr=some B0:=by simpa [zA] using h0
    have e:st.fresh (dst*64)=B0.g+1:=by simp [St.fresh,this]
    show B0.g<st.fresh (dst*64);omega) hone (by simp only [hci];exact hv)
  ·cases h
 ·rename_i d n g m ys hkx hys;split at h
  ·rename_i g' sz' ty' rows hB;split at h
   ·rename_i hc;obtain ⟨rfl,q1,q2,rfl,c1,c2,c3,c4⟩:=hc
    replace q1:=q1.symm
    replace q2:=q2.symm
    subst q1;subst q2;simp only [zamK,zanG] at c4;cases h;rw [hkx] at e1;have hB':zA d n (st.fr::st.up)=some ⟨g,P.cellsOf e,e,.row rows⟩:=hB;have hb:=hr.mem.blk d n _ hB;obtain ⟨hone1,B,h3,h4,h5⟩:=e1;rw [hB'] at h3;cases h3;have key:∃us,w.ownsRow 0 e i.size (a.eval x) rows.length us/\(∀e∈rows,e.length=i.size)/\RepPs (Own F pl) w us rows.flatten/\(∀b,(a.eval x).ownBlock=some b->∃s,pl d n 0=some (b,s)):=by
     rcases h5 rfl with ⟨h6,hm0,hp⟩|⟨b,s,cap,hp,h6,hs,hmc,hcm⟩
     ·have:rows= []:=bR hm0;subst this;exact ⟨[],by rw [h6];exact World.ownsRow_nil w 0 e i.size,by simp,⟨rfl,by simp⟩,by rw [h6];intro b hb;cases hb⟩
     ·rcases hb with ⟨h7,h8⟩|⟨b',s',us,h7,h8,h9,h10,h11,h12⟩
      ·exact (dS hp h8).elim
      ·obtain ⟨rfl,rfl⟩:=wI hp h7;simp only at h8 h10 h11 h12 hs;rw [hci] at h10 h11 h12 hs;obtain ⟨f1,f2⟩:=aR h11;refine ⟨us.toList.take (rows.length*i.size),⟨by simp;omega,.inr ⟨b,cap,us,h6,Nat.zero_le _,h8,hmc,hcm,by omega,rfl⟩⟩,h11,⟨by simp [f1];omega,λj u x hu hx=>?_⟩,by rw [h6];intro b' hb';cases hb';exact ⟨s,hp⟩⟩;have hj:j<rows.length*i.size:=by
        rw [<-f1];exact (zamJ.1 hx).1
       have hdiv:j/i.size<rows.length:=Nat.div_lt_of_lt_mul (by rw [Nat.mul_comm];exact hj);have hmod:j%i.size<i.size:=Nat.mod_lt _ hz0;obtain ⟨r,hr'⟩:=aZ hdiv;have e1:j/i.size*i.size+j%i.size=j:=by rw [Nat.mul_comm];exact Nat.div_add_mod j i.size
       have h13:=f2 _ _ _ hr' hmod;rw [e1,hx] at h13;obtain ⟨v,hv,hvr⟩:=h12 _ _ _ _ hr' h13.symm;rw [e1] at hv;rw [List.getElem?_take,if_pos hj] at hu;have:u=v:=by
        have h14:us[j]?=some u:=by simpa using hu
        rw [h14] at hv;cases hv;rfl
       subst this;exact hvr
    obtain ⟨us,k1,k2,k3,k4⟩:=key;obtain ⟨u,w',x',hrun,hone,hv⟩:=wQ (d:=d) (n:=n) (pl:=pl) (ty:=o.type) hu hi hz hzs hz0 (by omega) hr.mem k1 rfl k2 k3 hys e2 (by rw [<-hci];exact c4) (by rw [<-hby];exact c3) k4;refine zg (hexec u w' hrun) ?_;exact sJ (B:=⟨g+1,P.cellsOf e,e,.row (rows++ys)⟩) hr (zO hB') rfl (λB0 h0=>by
     rw [hB'] at h0;cases h0;exact Nat.lt_succ_self _) hone (by simp only [hci];exact hv)
   ·cases h
  ·cases h
 ·rename_i d n g m hkx _;exact CP hexec hu hok hx hy hr hkx h
 ·cases h
end
section
variable {P:Program} {F:Nat->Prop} {G:Nat->Option Obj} {N0:Base G} {T:Nat} {pl pl':Pl} {st st':St} {a:Act} {w w':World} {fs fs':List Frame}
theorem oU {n:Int} {y:Nat} {code:BoundsCode} (h0:0<=n) (h1:n<=y):(Instr.sliceBound (.int .i64 n) y code).run P w= .ok n.toNat w:=by
 simp [Instr.sliceBound,asIntOf,h0,h1]
theorem mW {sl:Bool} {len cap:Nat} {lo hi:Option Operand} {klo khi:Option KX} {l h:Int} (hlo:kxo lo=some klo) (hhi:kxo hi=some khi) (hr:Rel F N0 T pl st a w)
  (h1:st.bound 0 klo=some l) (h2:st.bound len khi=some h) (h3:0<=l) (h4:l<=h) (h5:h<=len) (h6:len<=cap) (ww:World):
  (Instr.sliceBounds sl len cap (lo.map a.eval) (hi.map a.eval) none).run P ww= .ok (l.toNat,h.toNat,cap) ww:=by
 have e1:∀x,lo=some x->a.eval x= .int .i64 l:=by
  intro x hx;subst hx;simp only [kxo,zD] at hlo;obtain ⟨k,hk,rfl⟩:=hlo;exact cR h1 (zG hr hk)
 have e2:∀x,hi=some x->a.eval x= .int .i64 h:=by
  intro x hx;subst hx;simp only [kxo,zD] at hhi;obtain ⟨k,hk,rfl⟩:=hhi;exact cR h2 (zG hr hk)
 have hb:∀code,(Instr.sliceBound (.int .i64 h) cap code).run P ww= .ok h.toNat ww:=λcode=>oU (by omega) (by omega)
 have hb2:∀code,(Instr.sliceBound (.int .i64 l) h.toNat code).run P ww= .ok l.toNat ww:=λcode=>oU (by omega) (by omega)
 cases lo with
 |none=>
  simp only [kxo,zS] at hlo;subst hlo;simp only [St.bound,zS] at h1;subst h1;cases hi with
  |none=>
   simp only [kxo,zS] at hhi;subst hhi;simp only [St.bound,zS] at h2;subst h2;simp [Instr.sliceBounds]
  |some y=>simp [Instr.sliceBounds,e2 y rfl,hb]
 |some x=>
  cases hi with
  |none=>
   simp only [kxo,zS] at hhi;subst hhi;simp only [St.bound,zS] at h2;subst h2;simp only [cT] at hb2;simp [Instr.sliceBounds,e1 x rfl,hb2]
  |some y=>simp [Instr.sliceBounds,e2 y rfl,hb,e1 x rfl,hb2]
theorem CQ {o:Oper} {t:TypeId} {x:Operand} {lo hi:Option Operand} {k:KX} {klo khi:Option KX} {s:ByteArray} {l h:Int} (ho:o.op= .slice t x lo hi none) (hu:P.underlying t=some .string) (hx:kx x=some k) (hlo:kxo lo=some klo) (hhi:kxo hi=some khi) (hr:Rel F N0 T pl st a w)
  (h0:st.eval k= .c (.p (.s s))) (h1:st.bound 0 klo=some l) (h2:st.bound s.size khi=some h) (h3:0<=l) (h4:l<=h) (h5:h<=s.size):
  Runs2 P noB o a w (Post F N0 pl st w (.c (.p (.s (s.extract l.toNat h.toNat)))) st):=by
 have e1:=zG hr hx;rw [h0] at e1;have e1:=wG e1;refine zc (u:= .string (s.extract l.toNat h.toNat)) (λw' hg'=>?_) (zQ hr (.s _));have hb:=mW (P:=P) (sl:=false) (cap:=s.size) hlo hhi hr h1 h2 h3 h4 h5 (zH _) w';simp only [execOp,ho,Instr.sliceAt,Instr.slice,Sem.run_bind,run_underlying hu,Result.andThen_ok,e1,Option.map_none,hb,Sem.run_pure,Option.isSome_none,dO,if_false]
theorem DI {o:Oper} {t e:TypeId} {x:Operand} {lo hi:Option Operand} {k:KX} {klo khi:Option KX} {rows:List (List PV)} {l h:Int} (ho:o.op= .slice t x lo hi none) (hu:P.underlying t=some (.slice e)) (he:∃i,P.info? e=some i) (hx:kx x=some k) (hlo:kxo lo=some klo) (hhi:kxo hi=some khi) (hr:Rel F N0 T pl st a w)
  (h0:st.eval k= .c (.p (.ls rows))) (h1:st.bound 0 klo=some l) (h2:st.bound rows.length khi=some h) (h3:0<=l) (h4:l<=h) (h5:h<=rows.length) (h6:∀e'∈rows,e'.length=P.cellsOf e):
  Runs1 P o a w (Post F N0 pl st w (.c (.p (.ls ((rows.take h.toNat).drop l.toNat)))) st):=by
 obtain ⟨i,hi'⟩:=he;have hsz:(sizeOf e).run P w= .ok (P.cellsOf e) w:=by rw [run_sizeOf w hi']
 have e1:=zG hr hx;rw [h0] at e1;have e1:=dJ e1;generalize hvx:a.eval x=vx at*
 have fin:∀(ad:Option Addr) (n c:Nat),vx= .slice ad n c->n=rows.length->n<=c->RepP (Own F pl) w (.slice (if c=l.toNat then ad else ad.map (·.add (l.toNat*P.cellsOf e))) (h.toNat-l.toNat) (c-l.toNat)) (.ls ((rows.take h.toNat).drop l.toNat))->
   Runs1 P o a w (Post F N0 pl st w (.c (.p (.ls ((rows.take h.toNat).drop l.toNat)))) st):=by
  intro ad n c hv hn hc hrep;subst hn;have hb:=mW (P:=P) (sl:=true) (cap:=c) hlo hhi hr h1 h2 h3 h4 h5 hc w;refine zg (u:= .slice (if c=l.toNat then ad else ad.map (·.add (l.toNat*P.cellsOf e))) (h.toNat-l.toNat) (c-l.toNat)) (w':=w) ?_ (zQ hr hrep);simp only [execOp,ho,Instr.sliceAt,Instr.slice,Sem.run_bind,run_underlying hu,Result.andThen_ok,hvx,hv,Option.map_none,hb,Sem.run_pure,hsz]
 cases e1 with
 |nls=>
  refine fin none 0 0 rfl rfl (zH _) ?_;simp only [zanD,Int.ofNat_zero] at h5;have hl0:l.toNat=0:=by omega
  have hh0:h.toNat=0:=by omega
  rw [hl0,hh0];exact .nls
 | @ls ad n c sz _ val hn hc hmx hown hcell hrep=>
  subst hn;refine fin (some ad) _ c rfl rfl hc ?_;have hlen:((rows.take h.toNat).drop l.toNat).length=h.toNat-l.toNat:=by simp;omega
  have hget:∀j e',((rows.take h.toNat).drop l.toNat)[j]?=some e'->rows[l.toNat+j]?=some e'/\l.toNat+j<h.toNat:=by
   intro j e' hj;rw [List.getElem?_drop,List.getElem?_take] at hj;simp only [Option.ite_none_right_eq_some] at hj;exact ⟨hj.2,hj.1⟩
  by_cases hcl:c=l.toNat
  ·rw [if_pos hcl];have:(rows.take h.toNat).drop l.toNat= []:=bR (by omega);rw [this] at hlen⊢;exact .ls (sz:=1) (λ_ _=> .nilIface) hlen (by omega) (by rw [<-hlen];simp) (by simp) (by simp) (by simp)
  ·rw [if_neg hcl];refine .ls (sz:=P.cellsOf e) (λj o=>val (l.toNat+j) o) hlen (by omega) (by omega) (λhne=>?_) (λj e' he'=>?_) (λj e' o' x' he' hx'=>?_)
   ·rw [oP];exact hown (by rintro rfl;simp at hne)
   ·obtain ⟨g1,g2⟩:=hget j e' he';obtain ⟨g3,g4⟩:=hcell _ _ g1;have g5:=h6 e' (aC g1);refine ⟨g5,λo' x' hx'=>?_⟩;rw [gA,<-g4 o' x' hx',<-g3,g5]
    congr 2
    rw [Nat.add_mul];omega
   ·exact hrep _ _ _ _ (hget j e' he').1 hx'
theorem mX:∀{ys:List (List PV)} {l:List UInt8},bytesOf ys=some l->∃ns:List Int,ys=ns.map (λn=> [PV.i .u8 n])/\l=ns.map λn=>UInt8.ofNat n.toNat
 | [],l,h=>by simp [bytesOf] at h;exact ⟨[],rfl,h.symm▸rfl⟩
 |y::ys,l,h=>by
  unfold bytesOf at h;split at h
  ·rename_i h';cases h'
  ·rename_i n r h';cases h';obtain ⟨l',hl,rfl⟩:=zD.1 h;obtain ⟨ns,h1,h2⟩:=mX hl;exact ⟨n::ns,by simp [h1],by simp [h2]⟩
  ·cases h
theorem mY:∀ns:List Int,(ns.map λn=> [PV.i .u8 n]).flatten=ns.map (PV.i .u8)
 | []=>rfl
 |n::ns=>by simp [mY ns]
theorem Aw {o:Oper} {src dst e:TypeId} {x:Operand} {k:KX} {ys:List (List PV)} {l:List UInt8} (ho:o.op= .convert src dst x) (hs:P.underlying src=some (.slice e)) (he:P.underlying e=some (.int .u8)) (hd:P.underlying dst=some .string) (hx:kx x=some k) (hr:Rel F N0 T pl st a w)
  (h1:st.rows (st.eval k)=some ys) (h2:bytesOf ys=some l):Runs1 P o a w (Post F N0 pl st w (.c (.p (.s ⟨l.toArray⟩))) st):=by
 obtain ⟨ns,rfl,rfl⟩:=mX h2;have e1:=zG hr hx;have key:(convert src dst (a.eval x)).run P w= .ok (.string ⟨(ns.map λn=>UInt8.ofNat n.toNat).toArray⟩) w:=by
  rcases wO hr.mem h1 (sz:=1) (by omega) (by simp) e1 with ⟨h3,h4⟩|⟨ad,c,news,h3,h4,h5,h6⟩
  ·rw [h3];have:ns= []:=by simpa using h4
   subst this;exact run_convert_bytes_nil w src e hs he 0 0 dst hd
  ·rw [h3,run_convert_bytes_string w src dst e _ _ _ hs he hd];have hn:news=ns.map (Value.int .u8):=by
    apply List.ext_getElem?;intro j;rw [mY] at h6;by_cases hj:j<ns.length
    ·obtain ⟨u,hu⟩:=aZ (l:=news) (i:=j) (by rw [h6.1];simpa using hj);have hp:=h6.2 j u (.i .u8 ns[j]) hu (by simp [hj]);cases hp;rw [hu];simp [hj]
    ·rw [zamY (by rw [h6.1];simpa using hj),zamY (by simpa using hj)]
   have hl:=run_loadCells_list (P:=P) w ad news h5;rw [h4,hn] at hl;simp only [zamV,Nat.mul_one] at hl⊢;rw [run_bytesToString w _ _ c ns hl,foldl_push_bytes];simp [ByteArray.empty,ByteArray.emptyWithCapacity];rfl
 refine zg (u:= .string ⟨(ns.map λn:Int=>UInt8.ofNat n.toNat).toArray⟩) (w':=w) ?_ (zQ hr (RepP.s (own:=Own F pl) (w:=w) _));simp only [execOp,ho,Sem.run_bind,key,Result.andThen_ok,Sem.run_pure]
 first|done|rfl
theorem oV:∀(t1:List Nat) {t2:List Nat} {cs ds:List CV} {r:Bool},eqC (t1++t2) cs ds=some r->∃e f,eqC t1 (cs.take t1.length) (ds.take t1.length)=some e/\eqC t2 (cs.drop t1.length) (ds.drop t1.length)=some f/\r=(e&&f)/\t1.length<=cs.length/\t1.length<=ds.length
 | [],t2,cs,ds,r,h=>⟨true,r,by simp [eqC],by simpa using h,by simp,by simp,by simp⟩
 |t::t1,t2,cs,ds,r,h=>by
  rw [List.cons_append] at h;unfold eqC at h;split at h
  ·rename_i h';cases h'
  ·rename_i t' l x rr y q h';cases h';obtain ⟨e,he,h⟩:=zK.1 h;obtain ⟨f,hf,rfl⟩:=zD.1 h;obtain ⟨e2,f2,h1,h2,rfl,h3,h4⟩:=oV t1 hf;exact ⟨e&&e2,f2,by simp [eqC,he,h1],by simpa using h2,by simp [Bool.and_assoc],by simpa using h3,by simpa using h4⟩
  ·cases h
theorem qQ:∀{t:List Nat} {cs ds:List CV} {r:Bool},eqC t cs ds=some r->cs.length=t.length/\ds.length=t.length
 | [],cs,ds,r,h=>by unfold eqC at h;split at h<;>first|exact ⟨rfl,rfl⟩|(rename_i h';cases h')|cases h
 |t::l,cs,ds,r,h=>by
  unfold eqC at h;split at h
  ·rename_i h';cases h'
  ·rename_i h';cases h';obtain ⟨e,he,h⟩:=zK.1 h;obtain ⟨f,hf,rfl⟩:=zD.1 h;obtain ⟨h1,h2⟩:=qQ hf;exact ⟨by simp [h1],by simp [h2]⟩
  ·cases h
theorem CR {cs ds:List CV} {r:Bool} (h:eqC [] cs ds=some r):r=true:=by
 unfold eqC at h;split at h
 ·cases h;rfl
 ·rename_i h';cases h'
 ·cases h
theorem Du {p q:PV} {r:Bool} (h:eqP 0 p q=some r):∃x y,p= .b x/\q= .b y/\r=(x==y):=by
 cases p<;>cases q<;>simp [eqP] at h<;>exact ⟨_,_,rfl,rfl,h.symm⟩
theorem Dv {p q:PV} {r:Bool} (h:eqP 1 p q=some r):∃k x y,p= .i k x/\q= .i k y/\r=(x==y):=by
 cases p<;>cases q<;>simp [eqP] at h;obtain ⟨rfl,h⟩:=h;exact ⟨_,_,_,rfl,rfl,h.symm⟩
theorem Dw {p q:PV} {r:Bool} (h:eqP 2 p q=some r):∃x y,p= .s x/\q= .s y/\r=(x.toList==y.toList):=by
 cases p<;>cases q<;>simp [eqP] at h<;>exact ⟨_,_,rfl,rfl,h.symm⟩
def Dk (P:Program) (w:World) (F:Nat->Prop) (fs:List Frame) (pl:Pl) (t:TypeId) (tags:List Nat) (n:Nat):Prop:=
 ∀d,n<=d->∀(g:Bool) (cs ds:List CV) (A B:AV) (x y:Value) (r:Bool),dP P t=some g->fR g cs=some A->fR g ds=some B->zf F fs pl w x A->zf F fs pl w y B->eqC tags cs ds=some r->(Op.equalIn d t x y).run P w= .ok r w
theorem oW {g:Bool} {cs:List CV} {n:Nat} (h:cs.length=n) (hg:g=false->n=1):∃v,fR g cs=some v:=by
 cases g
 ·have:=hg rfl
  match cs,h with
  | [x],_=>exact ⟨_,rfl⟩
  | [],h=>simp at h;omega
  |_::_::_,h=>simp at h;omega
 ·exact ⟨_,rfl⟩
theorem wT {q:TypeId->Option (List Nat)} {n d:Nat} (hd:n<=d) (hq:∀t tags,q t=some tags->Dk P w F fs pl t tags n/\∃g,dP P t=some g/\(g=false->tags.length=1)) {us vs:List Value} {cs ds:List CV} (hu:zT F fs pl w us cs) (hv:zT F fs pl w vs ds):
  ∀(l:List Field) (off:Nat) (tags:List Nat) (r:Bool),AQ P q l off=some tags->eqC tags (cs.drop off) (ds.drop off)=some r->(Op.eqFields d us.toArray vs.toArray l).run P w= .ok r w
 | [],off,tags,r,h,hr=>by
  simp only [AQ,zS] at h;subst h;have:=CR hr;subst this;simp [Op.eqFields]
 |f::l,off,tags,r,h,hr=>by
  simp only [AQ] at h;split at h
  ·rename_i hc;obtain ⟨hn,rfl⟩:=hc;obtain ⟨a,ha,h⟩:=zK.1 h;split at h
   ·rename_i hal;obtain ⟨hal,hal0⟩:=hal;obtain ⟨b,hb,rfl⟩:=zD.1 h;obtain ⟨e,f',h1,h2,rfl,h3,h4⟩:=oV a hr;obtain ⟨hE,g,hg,hg1⟩:=hq _ _ ha;simp only [List.length_drop] at h3 h4;obtain ⟨l1,l2⟩:=qQ h1;obtain ⟨A,hA⟩:=oW (g:=g) l1 hg1;obtain ⟨B,hB⟩:=oW (g:=g) l2 hg1;rw [hal] at hA hB;obtain ⟨x,hx,hxr⟩:=mU hg hu (off:=f.offset) (by omega) hA;obtain ⟨y,hy,hyr⟩:=mU hg hv (off:=f.offset) (by omega) hB;rw [hal] at h1;have:=hE d hd g _ _ A B x y e hg hA hB hxr hyr h1;rw [Op.eqFields,if_pos hn];simp only [Sem.run_bind,hx w,hy w,Result.andThen_ok,this,Sem.run_ite];have hrec:=wT hd hq hu hv l _ b f' hb (by rw [List.drop_drop,List.drop_drop,hal] at h2;exact h2);cases e
    ·simp
    ·simpa using hrec
   ·cases h
  ·cases h
theorem Cx {o:Oper} {c:Call} {mx:Bool} {ks:List KX} {n:Int} (ho:o.op= .call c) (hc:c.callee= .builtin (if mx then .max else .min)) (hx:c.args.toList.mapM kx=some ks) (hr:Rel F N0 T pl st a w) (h:iE mx (ks.map st.eval)=some n):
  Runs1 P o a w (Post F N0 pl st w (.c (.p (.i .i64 n))) st):=by
 obtain ⟨hl,hk⟩:=bY hx;have hvals:∀(l:List Operand) (ks:List KX),ks.length=l.length->(∀(i:Nat) x y,l[i]?=some x->ks[i]?=some y->kx x=some y)->∀x n,iE.go mx x (ks.map st.eval)=some n->
   ((l.map a.eval).foldlM (if mx then Builtin.max2 else Builtin.min2) (.int .i64 x)).run P w= .ok (.int .i64 n) w:=by
  intro l
  induction l with
  |nil=>
   intro ks hl _ x n h;have:ks= []:=bR hl;subst this;simp only [List.map_nil,iE.go,zS] at h;subst h;simp
  |cons y l ih=>
   intro ks hl hk x n h
   match ks,hl,hk,h with
   |k::ks,hl,hk,h=>
    simp only [zanE,iE.go] at h;obtain ⟨m,hm,h⟩:=zK.1 h;have e1:=cR hm (zG hr (hk 0 y k rfl rfl));have:=ih ks (by simpa using hl) (λi x y hx hy=>hk (i+1) x y hx hy) _ n h;cases mx
    ·simpa [List.foldlM_cons,e1,Builtin.min2] using this
    ·simpa [List.foldlM_cons,e1,Builtin.max2] using this
 have key:((if mx then Builtin.max_ else Builtin.min_) c.argTypes o.type (c.args.map a.eval)).run P w= .ok (.int .i64 n) w:=by
  have hal:(c.args.map a.eval).toList=c.args.toList.map a.eval:=by simp
  match hlist:c.args.toList,ks,hl,hk,h with
  | [],[],_,_,h=>simp [iE] at h
  |y::l,k::ks,hl,hk,h=>
   simp only [zanE,iE] at h;obtain ⟨m,hm,h⟩:=zK.1 h;have e1:=cR hm (zG hr (hk 0 y k rfl rfl));have:=hvals l ks (by simpa using hl) (λi x y hx hy=>hk (i+1) x y hx hy) _ n h;rw [hlist,zanE,e1] at hal;cases mx
   ·simp only [dO,if_false] at this⊢;simp only [Builtin.min_,hal];exact this
   ·simp only [if_true] at this⊢;simp only [Builtin.max_,hal];exact this
 refine zg (u:= .int .i64 n) (w':=w) ?_ (zQ hr (.i _ _));cases mx
 ·simp only [dO,if_false] at hc key;simp only [execOp,ho,resolve,hc,invoke,builtin,Sem.run_bind,Sem.run_pure,Result.andThen_ok,key]
 ·simp only [if_true] at hc key;simp only [execOp,ho,resolve,hc,invoke,builtin,Sem.run_bind,Sem.run_pure,Result.andThen_ok,key]
theorem wU:∀(n:Nat) (t:TypeId) (tags:List Nat),xP P n t=some tags->Dk P w F fs pl t tags n/\∃g,dP P t=some g/\(g=false->tags.length=1)
 |0,t,tags,h=>by simp [xP] at h
 |n+1,t,tags,h=>by
  have basic:∀g cs A,fR g cs=some A->dP P t=some g->g=false->∃x,cs= [x]/\A= .c x:=by
   rintro g cs A hA _ rfl;unfold fR at hA;split at hA
   ·rename_i h';cases h'
   ·cases hA;exact ⟨_,rfl,rfl⟩
   ·cases hA
  have one:∀k cs ds r,eqC [k] cs ds=some r->∃p q,cs= [.p p]/\ds= [.p q]/\eqP k p q=some r:=by
   intro k cs ds r hr;unfold eqC at hr;split at hr
   ·rename_i h';cases h'
   ·rename_i h';cases h';obtain ⟨e,he,hr⟩:=zK.1 hr;obtain ⟨f,hf,rfl⟩:=zD.1 hr;obtain ⟨l1,l2⟩:=qQ hf;have h1:=bR l1;have h2:=bR l2;subst h1;subst h2;cases hf;exact ⟨_,_,rfl,rfl,by simpa using he⟩
   ·cases hr
  simp only [xP] at h;split at h
  ·rename_i hu;cases h;have hag:dP P t=some false:=by simp [dP,hu]
   refine ⟨λd hd g cs ds A B x y r hg hA hB hx hy hr=>?_,false,hag,λ_=>rfl⟩;rw [hag] at hg;cases hg;obtain ⟨p,q,rfl,rfl,hpq⟩:=one _ _ _ _ hr;cases hA;cases hB;obtain ⟨d,rfl⟩:∃k,d=k+1:=⟨d-1,by omega⟩;have hx:=dJ hx;have hy:=dJ hy;obtain ⟨x',y',rfl,rfl,rfl⟩:=Du hpq;cases hx;cases hy;simp [Op.equalIn,run_underlying hu]
  ·rename_i k hu;cases h;have hag:dP P t=some false:=by simp [dP,hu]
   refine ⟨λd hd g cs ds A B x y r hg hA hB hx hy hr=>?_,false,hag,λ_=>rfl⟩;rw [hag] at hg;cases hg;obtain ⟨p,q,rfl,rfl,hpq⟩:=one _ _ _ _ hr;cases hA;cases hB;obtain ⟨d,rfl⟩:∃k,d=k+1:=⟨d-1,by omega⟩;have hx:=dJ hx;have hy:=dJ hy;obtain ⟨k',x',y',rfl,rfl,rfl⟩:=Dv hpq;cases hx;cases hy;simp [Op.equalIn,run_underlying hu]
  ·rename_i hu;cases h;have hag:dP P t=some false:=by simp [dP,hu]
   refine ⟨λd hd g cs ds A B x y r hg hA hB hx hy hr=>?_,false,hag,λ_=>rfl⟩;rw [hag] at hg;cases hg;obtain ⟨p,q,rfl,rfl,hpq⟩:=one _ _ _ _ hr;cases hA;cases hB;obtain ⟨d,rfl⟩:∃k,d=k+1:=⟨d-1,by omega⟩;have hx:=dJ hx;have hy:=dJ hy;obtain ⟨x',y',rfl,rfl,rfl⟩:=Dw hpq;cases hx;cases hy;exact run_equalIn_string w d t _ _ hu
  ·rename_i fds hu;split at h
   ·cases h
   ·rename_i hst;have hst:P.stoodInHeld t=false:=by simpa using hst
    have hag:dP P t=some true:=by simp [dP,hu]
    refine ⟨λd hd g cs ds A B x y r hg hA hB hx hy hr=>?_,true,hag,λh=>by cases h⟩;rw [hag] at hg;cases hg;cases hA;cases hB;obtain ⟨d,rfl⟩:∃k,d=k+1:=⟨d-1,by omega⟩;obtain ⟨us,rfl,hus⟩:=hx;obtain ⟨vs,rfl,hvs⟩:=hy;have hfo:P.fieldsOf t=fds:=by simp [Program.fieldsOf,hu]
    rw [run_equalIn_struct w d t _ _ (by rw [hfo];exact hu) hst,hfo];exact wT (n:=n) (by omega) (λt' tags' h'=>wU n t' tags' h') hus hvs _ 0 _ r h (by simpa using hr)
  ·cases h
theorem DJ {o:Oper} {op:BinOp} {xt yt:TypeId} {x y:Operand} {kx' ky:KX} {tags:List Nat} {cs ds:List CV} {r:Bool} (ho:o.op= .binOp op xt x y yt) (hop:op= .eql\/op= .neq) (hg:P.eqGuardType P.depth xt=false) (ht:xP P 20 xt=some tags) {fds:Array Field} (hu:P.underlying xt=some (.struct fds)) (hx:kx x=some kx') (hy:kx y=some ky) (hr:Rel F N0 T pl st a w)
  (h1:st.eval kx'= .agg cs) (h2:st.eval ky= .agg ds) (h:eqC tags cs ds=some r):Runs1 P o a w (Post F N0 pl st w (.c (.p (.b (if op== .neq then !r else r)))) st):=by
 have e1:=zG hr hx;have e2:=zG hr hy;rw [h1] at e1;rw [h2] at e2;have hag:dP P xt=some true:=by simp [dP,hu]
 have hE:=(wU (w:=w) (F:=F) (fs:=st.fr::st.up) (pl:=pl) 20 xt tags ht).1 10000 (by omega) true cs ds _ _ _ _ r hag rfl rfl e1 e2 h;obtain ⟨us,e1,_⟩:=e1;obtain ⟨vs,e2,_⟩:=e2;rw [e1,e2] at hE;refine zg (u:= .bool (if op== .neq then !r else r)) (w':=w) ?_ (zQ hr (.b _));refine aM (u:= .agg us.toArray) (v:= .agg vs.toArray) (run_eqGuard_agg w op xt x y _ _ hg) ?_ ho e1 e2;rcases hop with rfl|rfl
 ·rw [run_eql_struct,hE];rfl
 ·rw [run_neq_struct,hE];rfl
end
section
variable {P:Program} {F:Nat->Prop} {G:Nat->Option Obj} {N0:Base G} {T:Nat} {pl pl':Pl} {st st':St} {a:Act} {w w':World} {fs fs':List Frame} {f':Frame} {up:List Frame}
def Goes (P:Program) (f:FuncId) (vals:Array Value) (w:World) (R:Value->World->Prop):Prop:=
 (∃u w',(callFunc f vals).run P w= .ok (.value u) w'/\R u w')\/((callFunc f vals).run P w= .ok (.enter f vals) w/\Calls P f vals w λe w'=>∃u,e= .returned u/\R u w')
theorem Goes.mono {f:FuncId} {vals:Array Value} {R R':Value->World->Prop} (h:Goes P f vals w R) (hr:∀u w',R u w'->R' u w'):Goes P f vals w R':=by
 rcases h with ⟨u,w',h1,h2⟩|⟨h1,h2⟩
 ·exact .inl ⟨u,w',h1,hr _ _ h2⟩
 ·exact .inr ⟨h1,h2.mono λe w'' ⟨u,he,h⟩=>⟨u,he,hr _ _ h⟩⟩
theorem wV {o:Oper} {c:Call} {f:Operand} {fid:FuncId} {caps:Array Value} {R:Value->World->Prop} (ho:o.op= .call c) (hc:c.callee= .value f) (hf:a.eval f= .func (.func fid) #[] caps) (h:Goes P fid (c.args.map a.eval++caps) w R):
  Runs1 P o a w R:=by
 intro next hn
 have hexec:(execOp a.eval o).run P w=(callFunc fid (c.args.map a.eval++caps)).run P w:=by
  simp only [execOp,ho,resolve,hc,Deferred.ofValue,hf,invoke,Sem.run_bind,Sem.run_pure,Result.andThen_ok,Array.empty_append]
 unfold Oper.wp;rw [hexec];rcases h with ⟨u,w',h1,h2⟩|⟨h1,h2⟩
 ·rw [h1];exact hn u w' h2
 ·rw [h1];exact h2.mono λe w'' ⟨u,he,h⟩=>by subst he;exact hn u w'' h
structure Low (m:Nat) (fs:List Frame) (pl:Pl) (fs':List Frame) (pl':Pl):Prop where
 low:∀d n,d<m->zA d n fs'=zA d n fs/\pl' d n=pl d n
 own:∀d n j b s,pl' d n j=some (b,s)->∃d0 n0 j0,pl d0 n0 j0=some (b,s)
theorem Low.repP {m:Nat} (h:Low m fs pl fs' pl') {v:Value} {x:PV} (hr:RepP (Own F pl) w v x):RepP (Own F pl') w v x:=
 hr.step (λ_ _ _=>rfl) (zH _) (λk hk=>by
  rcases hk with hk|⟨d,n,j,s,hk⟩
  ·exact .inl (.inl hk)
  ·obtain ⟨d0,n0,j0,h0⟩:=h.own d n j k s hk;exact .inl (.inr ⟨d0,n0,j0,s,h0⟩))
theorem Low.repC {m:Nat} (h:Low m fs pl fs' pl') {v:Value} {c:CV} {d0:Nat} (hd:d0<m) (hc:c.dep d0=true) (hr:cM F fs pl w v c):cM F fs' pl' w v c:=by
 cases c with
 |p x=>exact h.repP hr
 |own d n g q=>
  have hd':d<m:=by simp [CV.dep] at hc;omega
  obtain ⟨h1,B,h2,h3,h4⟩:=hr;obtain ⟨e1,e2⟩:=h.low d n hd';exact ⟨h1,B,e1.trans h2,h3,λe=>by rw [e2];exact h4 e⟩
 |ptr d n g j o=>
  have hd':d<m:=by simp [CV.dep] at hc;omega
  obtain ⟨h1,B,h2,h3,h4⟩:=hr;obtain ⟨e1,e2⟩:=h.low d n hd';exact ⟨h1,B,e1.trans h2,h3,λe=>by rw [e2];exact h4 e⟩
 |sub d n g j o q esz=>
  have hd':d<m:=by simp [CV.dep] at hc;omega
  obtain ⟨h1,B,h2,h3,h4⟩:=hr;obtain ⟨e1,e2⟩:=h.low d n hd';exact ⟨h1,B,e1.trans h2,h3,λe=>by rw [e2];exact h4 e⟩
 |rp row o=>exact hr.same (λk d n j s hp=>let ⟨d0,n0,j0,h0⟩:=h.own d n j k s hp;⟨d0,n0,j0,s,h0⟩) h.repP
 |fn f caps=>
  obtain ⟨vals,h1,h2,h3⟩:=hr;refine ⟨vals,h1,h2,λi u c hu hc'=>?_⟩;have h4:=h3 i u c hu hc';cases c with
  |p x=>exact h.repP h4
  |ptr d n g=>
   have hm:=aC hc';have hd':d<m:=by
    simp only [CV.dep,zamK] at hc;have:=hc _ hm;simp at this;omega
   obtain ⟨h0,B,h5,h6,h7⟩:=h4;obtain ⟨e1,e2⟩:=h.low d n hd';exact ⟨h0,B,e1.trans h5,h6,λe=>by rw [e2];exact h7 e⟩
  |rp row=>exact RepR.same h4 (λk d n j s hp=>let ⟨d0,n0,j0,h0⟩:=h.own d n j k s hp;⟨d0,n0,j0,s,h0⟩) h.repP
 |nfn=>exact hr
 |u=>trivial
theorem Low.blk {m:Nat} (h:Low m fs pl fs' pl') {d n:Nat} {B:Blk} (hd:d<m) (hb:zj F fs pl w d n B):zj F fs' pl' w d n B:=by
 have e2:=(h.low d n hd).2;unfold zj at hb⊢;cases hk:B.k with
 |box cells=>
  rw [hk] at hb;obtain ⟨b,us,h1,h2,h3,h4⟩:=hb;exact ⟨b,us,e2.trans h1,h2,⟨h3.1,λi u c hu hc=>⟨h.repC hd (h4 c (aC hc)) (h3.2 i u c hu hc).1,(h3.2 i u c hu hc).2⟩⟩,h4⟩
 |row rows=>
  rw [hk] at hb;rcases hb with ⟨h1,h2⟩|⟨b,s,us,h1,h2,h3,h4,h5,h6⟩
  ·exact .inl ⟨h1,e2.trans h2⟩
  ·exact .inr ⟨b,s,us,e2.trans h1,h2,h3,h4,h5,λj e o x he hx=>by
    obtain ⟨v,hv,hr⟩:=h6 j e o x he hx;exact ⟨v,hv,h.repP hr⟩⟩
 |deep cols rows=>
  rw [hk] at hb;rcases hb with ⟨h1,h2⟩|⟨b,s,us,h1,h2,h3,h4,h5,h6,h7⟩
  ·exact .inl ⟨h1,e2.trans h2⟩
  ·refine .inr ⟨b,s,us,by rw [e2];exact h1,h2,h3,h4,h5,λj e o x he hx=>?_,λj hj=>by rw [e2];exact h7 j hj⟩;obtain ⟨v,hv,hr⟩:=h6 j e o x he hx;refine ⟨v,hv,?_⟩;rw [e2];exact hr.keep (λh'=>h.repP h') (λ_ _ _ _=>rfl)
 |dead=>
  rw [hk] at hb;exact e2.trans hb
theorem wW (hm:MemOK F N0 fs pl w) (h:Low up.length fs pl (f'::up) pl')
  (hlive:∀n j b s,pl' up.length n j=some (b,s)->(∃B,zE n f'=some B)/\∃d0 n0 j0,up.length<=d0/\pl d0 n0 j0=some (b,s))
  (hinj:∀n j n' j' b s s',pl' up.length n j=some (b,s)->pl' up.length n' j'=some (b,s')->n=n'/\j=j') (hhi:∀d n,up.length<d->pl' d n=nop)
  (hblk:∀n B,zE n f'=some B->zj F (f'::up) pl' w up.length n B):MemOK F N0 (f'::up) pl' w:=by
 refine ⟨λd n j b s hp=>?_,λd n j d' n' j' b s s' h1 h2=>?_,λd n B hB=>?_,hm.fsz,hm.fix⟩
 ·by_cases hd:d<up.length
  ·obtain ⟨e1,e2⟩:=h.low d n hd;rw [e2] at hp;rw [e1];exact hm.live d n j b s hp
  ·by_cases hd2:d=up.length
   ·subst hd2;obtain ⟨⟨B,hB⟩,d0,n0,j0,_,h0⟩:=hlive n j b s hp;obtain ⟨h1,h2,h3,_⟩:=hm.live d0 n0 j0 b s h0;exact ⟨h1,h2,h3,B,by simpa [zA] using hB⟩
   ·rw [hhi d n (by omega)] at hp;cases hp
 ·have top:∀d n j b s,pl' d n j=some (b,s)->d<up.length\/d=up.length:=λd n j b s hp=>by
   rcases Nat.lt_trichotomy d up.length with hl|hl|hl
   ·exact .inl hl
   ·exact .inr hl
   ·rw [hhi d n hl] at hp;cases hp
  rcases top d n j b s h1 with hd|hd<;>rcases top d' n' j' b s' h2 with hd'|hd'
  ·rw [(h.low d n hd).2] at h1;rw [(h.low d' n' hd').2] at h2;exact hm.inj d n j d' n' j' b s s' h1 h2
  ·subst hd';rw [(h.low d n hd).2] at h1;obtain ⟨_,d0,n0,j0,hge,h0⟩:=hlive n' j' b s' h2;have:=(hm.inj _ _ _ _ _ _ b s s' h1 h0).1;omega
  ·subst hd;rw [(h.low d' n' hd').2] at h2;obtain ⟨_,d0,n0,j0,hge,h0⟩:=hlive n j b s h1;have:=(hm.inj _ _ _ _ _ _ b s' s h2 h0).1;omega
  ·subst hd;subst hd';exact ⟨rfl,hinj n j n' j' b s s' h1 h2⟩
 ·by_cases hd:d<up.length
  ·obtain ⟨e1,e2⟩:=h.low d n hd;rw [e1] at hB;exact h.blk hd (hm.blk d n B hB)
  ·have hlt:=zO hB;simp only [zamM] at hlt;have hd2:d=up.length:=by omega
   subst hd2;exact hblk n B (by simpa [zA] using hB)
theorem xY {m:Nat} (h:Low m fs pl fs' pl') {d0 n0 d n:Nat} {B B':Blk} {rows:List (List PV)} (hb:zj F fs pl w d0 n0 B) (hk:B.k= .row rows) (hk':B'.k= .row rows) (hs:B'.sz=B.sz) (ht:B'.ty=B.ty) (hp:pl' d n=pl d0 n0):zj F fs' pl' w d n B':=by
 unfold zj at hb⊢;rw [hk] at hb;rw [hk'];rcases hb with ⟨h1,h2⟩|⟨b,s,us,h1,h2,h3,h4,h5,h6⟩
 ·exact .inl ⟨h1,hp.trans h2⟩
 ·rw [<-hs] at h4 h5 h6;exact .inr ⟨b,s,us,hp.trans h1,by rw [ht];exact h2,h3,h4,h5,λj e o x he hx=>by
   obtain ⟨v,hv,hr⟩:=h6 j e o x he hx;exact ⟨v,hv,h.repP hr⟩⟩
theorem uR {m:Nat} (h:Low m fs pl fs' pl') {d0 n0 d n:Nat} {B B':Blk} {cols:List (Nat×Nat×TypeId)} {rows:List (List PV)} (hb:zj F fs pl w d0 n0 B) (hk:B.k= .deep cols rows) (hk':B'.k= .deep cols rows) (hs:B'.sz=B.sz) (ht:B'.ty=B.ty) (hp:pl' d n=pl d0 n0):zj F fs' pl' w d n B':=by
 unfold zj at hb⊢;rw [hk] at hb;rw [hk'];rcases hb with ⟨h1,h2⟩|⟨b,s,us,h1,h2,h3,h4,h5,h6,h7⟩
 ·exact .inl ⟨h1,hp.trans h2⟩
 ·rw [<-hs] at h4 h5 h6;refine .inr ⟨b,s,us,by rw [hp];exact h1,by rw [ht];exact h2,h3,h4,h5,λj e o x he hx=>?_,λj hj=>by rw [hp];exact h7 j (by rw [<-hs];exact hj)⟩;obtain ⟨v,hv,hr⟩:=h6 j e o x he hx;refine ⟨v,hv,?_⟩;rw [hp];exact hr.keep (λh'=>h.repP h') (λ_ _ _ _=>rfl)
theorem eK {own own':Nat->Prop} (h:∀{u x},RepP own w u x->RepP own' w u x) {F F':Nat->Prop} {fs fs':List Frame} {pl pl':Pl} (ho:own=Own F pl) (ho':own'=Own F' pl') {us:List Value} {cs:List CV} (hp:cs.all isP=true) (hr:zT F fs pl w us cs):zT F' fs' pl' w us cs:=by
 subst ho;subst ho';refine ⟨hr.1,λi u c hu hc=>?_⟩;obtain ⟨h1,h2⟩:=hr.2 i u c hu hc;have:=zamK.1 hp c (aC hc);cases c with
 |p x=>exact ⟨h h1,h2⟩
 |_=>simp [isP] at this
theorem gQ {cs:List CV} (hp:cs.all isP=true) (d:Nat):∀c∈cs,c.dep d=true:=λc hc=>by
 have:=zamK.1 hp c hc;cases c with
 |p x=>rfl
 |_=>simp [isP] at this
theorem xZ {m:Nat} (h:Low m fs pl fs' pl') {d0 n0 d n:Nat} {B B':Blk} {cells:List CV} (hb:zj F fs pl w d0 n0 B) (hk:B.k= .box cells) (hk':B'.k= .box cells) (hc:cells.all isP=true) (ht:B'.ty=B.ty) (hp:pl' d n=pl d0 n0):zj F fs' pl' w d n B':=by
 unfold zj at hb⊢;rw [hk] at hb;rw [hk'];obtain ⟨b,us,h1,h2,h3,h4⟩:=hb;exact ⟨b,us,hp.trans h1,by rw [ht];exact h2,eK (λh'=>h.repP h') rfl rfl hc h3,gQ hc _⟩
def BK.okO:BK->Bool
 | .row _=>true
 | .deep ..=>true
 | .box cells=>cells.all isP
 | .dead=>false
theorem kG {m:Nat} (h:Low m fs pl fs' pl') {d0 n0 d n:Nat} {B B':Blk} (hb:zj F fs pl w d0 n0 B) (hk:B.k.okO=true) (hk':B'.k=B.k) (hs:B'.sz=B.sz) (ht:B'.ty=B.ty) (hp:pl' d n=pl d0 n0):zj F fs' pl' w d n B':=by
 cases hq:B.k with
 |row rows=>exact xY h hb hq (hk'.trans hq) hs ht hp
 |deep cols rows=>exact uR h hb hq (hk'.trans hq) hs ht hp
 |box cells=>rw [hq] at hk;exact xZ h hb hq (hk'.trans hq) hk ht hp
 |dead=>rw [hq] at hk;cases hk
end
def zq:List Blk->Nat->Frame
 | [],_=> []
 |B::r,i=>(i,B)::zq r (i+1)
def dL (d:Nat):CV->CV
 | .own _ i _ m=> .own d i 0 m
 | .ptr _ i _ _ _=> .ptr d i 0 0 0
 |x=>x
def CV.po:CV->Bool
 | .p _=>true
 | .own _ _ _ _=>true
 | .ptr _ _ _ _ _=>true
 |_=>false
theorem iL:∀(l:List Blk) (i n:Nat),zE n (zq l i)=if i<=n then l[n-i]? else none
 | [],i,n=>by simp [zq,zE]
 |B::r,i,n=>by
  simp only [zq,zE];by_cases h:i=n
  ·subst h;simp
  ·rw [if_neg h,iL r (i+1) n];by_cases h2:i+1<=n
   ·rw [if_pos h2,if_pos (by omega)];obtain ⟨k,rfl⟩:∃k,n=i+1+k:=⟨n-(i+1),by omega⟩;rw [show i+1+k-i=k+1 by omega,show i+1+k-(i+1)=k by omega];rfl
   ·rw [if_neg h2,if_neg (by omega)]
theorem uS {fr:Frame} {n m:Nat} {B:Blk} (h:m≠n):bD (upd n B fr) m=bD fr m:=by simp [bD,eV,h]
theorem lB (n:Nat):∀(l:List Blk) (i:Nat) (fr:Frame) (s:Nat),zE s (aU n l i fr)=
  if n*64+40+i<=s/\s<n*64+40+i+l.length then (l[s-(n*64+40+i)]?).map (λB=>{B with g:=bD fr s}) else zE s fr
 | [],i,fr,s=>by simp [aU];intro h1 h2;omega
 |B::r,i,fr,s=>by
  rw [aU,lB n r (i+1)];by_cases h:s=n*64+40+i
  ·subst h;rw [if_neg (by omega),eV,if_pos rfl,if_pos (by simp)];simp
  ·by_cases h2:n*64+40+(i+1)<=s/\s<n*64+40+(i+1)+r.length
   ·rw [if_pos h2,if_pos (by simp;omega),uS h];rw [show s-(n*64+40+i)=s-(n*64+40+(i+1))+1 by omega];rfl
   ·rw [if_neg h2,if_neg (by simp;omega),eV,if_neg h]
section
variable {P:Program} {F F':Nat->Prop} {G:Nat->Option Obj} {N0:Base G} {T:Nat} {pl pl':Pl} {st st':St} {a:Act} {w w':World} {fs fs':List Frame} {f':Frame} {up:List Frame}
theorem AV.map_map {f g:CV->CV} {v:AV}:(v.map f).map g=v.map (g∘f):=by
 cases v<;>simp [AV.map,Function.comp_def]
theorem AV.map_congr {f g:CV->CV} {v:AV} (h:∀c,f c=g c):v.map f=v.map g:=by rw [show f=g from funext h]
theorem AV.mem_map {f:CV->CV} {v:AV} {c:CV} (hc:c∈(v.map f).cvs):∃c0∈v.cvs,c=f c0:=by
 cases v with
 |c y=>simp [AV.map,AV.cvs] at hc⊢;exact hc
 |agg cs=>simp [AV.map,AV.cvs] at hc⊢;obtain ⟨q,h1,h2⟩:=hc;exact ⟨q,h1,h2.symm⟩
 |tup vs=>
  simp only [AV.map,AV.cvs,zamP,List.mem_map] at hc⊢;obtain ⟨⟨p,xs⟩,⟨⟨p',ys⟩,h1,h2⟩,h3⟩:=hc;simp only [zamL] at h2;obtain ⟨rfl,rfl⟩:=h2;obtain ⟨q,h4,h5⟩:=List.mem_map.1 h3;exact ⟨q,⟨_,h1,h4⟩,h5.symm⟩
theorem eD {φ:CV->CV} {v:Value} {x:AV} {ww ww':World} (hφ:∀u c,c∈x.cvs->cM F fs pl ww u c->cM F' fs' pl' ww' u (φ c)) (hu:∀c,c= .u->φ c= .u) (h:zf F fs pl ww v x):zf F' fs' pl' ww' v (x.map φ):=by
 have cs:∀{us:List Value} {cs:List CV},(∀c∈cs,c∈x.cvs)->zT F fs pl ww us cs->zT F' fs' pl' ww' us (cs.map φ):=by
  intro us cs hmem hr;refine ⟨by simp [hr.1],λi u c hu' hc=>?_⟩;simp only [zamS,zD] at hc;obtain ⟨c',hc',rfl⟩:=hc;obtain ⟨h1,h2⟩:=hr.2 i u c' hu' hc';exact ⟨hφ u c' (hmem _ (aC hc')) h1,h2.imp (hu c') id⟩
 cases x with
 |c x=>exact hφ v x (by simp [AV.cvs]) h
 |agg xs=>
  obtain ⟨us,h1,h2⟩:=h;exact ⟨us,h1,cs (by simp [AV.cvs]) h2⟩
 |tup vs=>
  obtain ⟨us,h1,h2,h3⟩:=h;refine ⟨us,h1,by simp [h2],λi u c hu' hc=>?_⟩;simp only [zamS,zD] at hc;obtain ⟨⟨p,xs⟩,hc',rfl⟩:=hc;have hmem:∀c∈xs,c∈(AV.tup vs).cvs:=λc hc=>by
   simp only [AV.cvs,zamP];exact ⟨_,aC hc',hc⟩
  rcases h3 i u _ hu' hc' with ⟨e,ys,h4,h5⟩|⟨e,x,h4,h5⟩
  ·exact .inl ⟨e,ys,h4,cs hmem h5⟩
  ·simp only at h4;subst h4;exact .inr ⟨e,φ x,rfl,hφ u x (hmem x (by simp)) h5⟩
structure RetOK (F:Nat->Prop) {G:Nat->Option Obj} (N0:Base G) (up:List Frame) (pl:Pl) (w:World) (r:Res) (u:Value) (w':World):Prop where
 ex:∃pl',zf F (zq r.rows 0::r.up) pl' w' u (r.v.map (dL r.up.length))/\MemOK F N0 (zq r.rows 0::r.up) pl' w'/\KeepU up r.up pl pl' w w'
 po:∀c∈r.v.cvs,c.po=true
 rows:∀B∈r.rows,B.g=0/\B.k.okO=true
theorem Ax {rows:List Blk} {fr:Frame} {n:Nat} (hm:MemOK F N0 (zq rows 0::fr::up) pl w) (hrows:∀B∈rows,B.g=0/\B.k.okO=true):
  ∃pl',MemOK F N0 (aU n rows 0 fr::up) pl' w/\Keep F (fr::up) (aU n rows 0 fr::up) pl pl' w w/\
   ∀{u:Value} {v:AV},(∀c∈v.cvs,c.po=true)->zf F (zq rows 0::fr::up) pl w u (v.map (dL (fr::up).length))->zf F (aU n rows 0 fr::up) pl' w u (v.map (bA up.length n fr)):=by
 let base:=n*64+40
 let pl2:Pl:=λd s=>if d=up.length then (if base<=s/\s<base+rows.length then pl (up.length+1) (s-base) else pl d s) else if d<up.length then pl d s else nop
 have hlk:∀s,zE s (aU n rows 0 fr)=if base<=s/\s<base+rows.length then (rows[s-base]?).map (λB=>{B with g:=bD fr s}) else zE s fr:=λs=>lB n rows 0 fr s
 have hrl:∀i,zA (up.length+1) i (zq rows 0::fr::up)=rows[i]?:=λi=>by
  have:=iL rows 0 i;simpa [zA] using this
 have hfr:∀s,zA up.length s (zq rows 0::fr::up)=zE s fr:=λs=>by simp [zA]
 have hlowU:∀d s,d<up.length->∀f,zA d s (f::up)=zA d s up:=λd s hd f=>by simp [zA,Nat.ne_of_lt hd]
 have hlowU2:∀d s,d<up.length->zA d s (zq rows 0::fr::up)=zA d s up:=λd s hd=>by
  simp [zA,Nat.ne_of_lt hd,Nat.ne_of_lt (Nat.lt_succ_of_lt hd)]
 have p1:∀d s,d<up.length->pl2 d s=pl d s:=λd s hd=>by simp [pl2,Nat.ne_of_lt hd,hd]
 have p2:∀s,(base<=s/\s<base+rows.length)->pl2 up.length s=pl (up.length+1) (s-base):=λs hs=>by simp [pl2,hs]
 have p3:∀s,¬(base<=s/\s<base+rows.length)->pl2 up.length s=pl up.length s:=λs hs=>by simp [pl2,hs]
 have p4:∀d s,up.length<d->pl2 d s=nop:=λd s hd=>by simp [pl2,Nat.ne_of_gt hd,Nat.lt_asymm hd]
 have hsome:∀d s j b q,pl2 d s j=some (b,q)->∃d0 s0 j0,pl d0 s0 j0=some (b,q):=λd s j b q h=>by
  rcases Nat.lt_trichotomy d up.length with hd|hd|hd
  ·exact ⟨d,s,j,by rw [<-p1 d s hd];exact h⟩
  ·subst hd;by_cases hs:base<=s/\s<base+rows.length
   ·exact ⟨_,_,j,by rw [<-p2 s hs];exact h⟩
   ·exact ⟨_,_,j,by rw [<-p3 s hs];exact h⟩
  ·rw [p4 d s hd] at h;cases h
 have hLow:Low up.length (zq rows 0::fr::up) pl (aU n rows 0 fr::up) pl2:=⟨λd s hd=>⟨by rw [hlowU d s hd,hlowU2 d s hd],p1 d s hd⟩,hsome⟩;have hKeep:Keep F (fr::up) (aU n rows 0 fr::up) pl pl2 w w:=by
  refine ⟨⟨rfl,rfl,rfl,zH _,λ_ _ _=>rfl⟩,by simp,λd s b hb=>?_,λd s j b q h=> .inl (by obtain ⟨d0,s0,j0,h0⟩:=hsome d s j b q h;exact ⟨d0,s0,j0,q,h0⟩)⟩;have hlt:=zO hb;simp only [zamM] at hlt;by_cases hd:d<up.length
  ·rw [hlowU d s hd] at hb;exact ⟨b,by rw [hlowU d s hd];exact hb,zH _,λ_=>⟨Ext.of (p1 d s hd),rfl⟩⟩
  ·have hd2:d=up.length:=by omega
   subst hd2;have hb':zE s fr=some b:=by simpa [zA] using hb
   have hg:zA up.length s (aU n rows 0 fr::up)=zE s (aU n rows 0 fr):=by simp [zA]
   rw [hg,hlk];by_cases hs:base<=s/\s<base+rows.length
   ·rw [if_pos hs];obtain ⟨B,hB⟩:=aZ (l:=rows) (i:=s-base) (by omega);have hfresh:bD fr s=b.g+1:=by simp [bD,hb']
    exact ⟨{B with g:=bD fr s},by simp [hB],by simp [hfresh],λh=>by simp [hfresh] at h⟩
   ·rw [if_neg hs];exact ⟨b,hb',zH _,λ_=>⟨Ext.of (p3 s hs),rfl⟩⟩
 refine ⟨pl2,wW hm hLow (λs j b q h=>?_) (λs j s' j' b q q' h h'=>?_) p4 (λs B hB=>?_),hKeep,?_⟩
 ·by_cases hs:base<=s/\s<base+rows.length
  ·rw [p2 s hs] at h;obtain ⟨B,hB⟩:=aZ (l:=rows) (i:=s-base) (by omega);exact ⟨⟨{B with g:=bD fr s},by rw [hlk,if_pos hs,hB];rfl⟩,_,_,_,by omega,h⟩
  ·rw [p3 s hs] at h;obtain ⟨_,_,_,B,hB⟩:=hm.live _ _ _ _ _ h;rw [hfr] at hB;exact ⟨⟨B,by rw [hlk,if_neg hs];exact hB⟩,_,_,_,zH _,h⟩
 ·by_cases hs:base<=s/\s<base+rows.length<;>by_cases hs':base<=s'/\s'<base+rows.length
  ·rw [p2 s hs] at h;rw [p2 s' hs'] at h';have:=(hm.inj _ _ _ _ _ _ b q q' h h').2;omega
  ·rw [p2 s hs] at h;rw [p3 s' hs'] at h';have:=(hm.inj _ _ _ _ _ _ b q q' h h').1;omega
  ·rw [p3 s hs] at h;rw [p2 s' hs'] at h';have:=(hm.inj _ _ _ _ _ _ b q q' h h').1;omega
  ·rw [p3 s hs] at h;rw [p3 s' hs'] at h';exact (hm.inj _ _ _ _ _ _ b q q' h h').2
 ·rw [hlk] at hB;by_cases hs:base<=s/\s<base+rows.length
  ·rw [if_pos hs] at hB;obtain ⟨B0,hB0,rfl⟩:=zD.1 hB;exact kG hLow (hm.blk (up.length+1) (s-base) B0 (by rw [hrl];exact hB0)) (hrows B0 (aC hB0)).2 rfl rfl rfl (p2 s hs)
  ·rw [if_neg hs] at hB;have hb:=hm.blk up.length s B (by rw [hfr];exact hB);have hLow2:Low (up.length+1) (zq rows 0::fr::up) pl (fr::up) pl:=⟨λd s hd=>⟨by
    by_cases hd2:d<up.length
    ·rw [hlowU2 d s hd2,hlowU d s hd2]
    ·have:d=up.length:=by omega
     subst this;rw [hfr];simp [zA],rfl⟩,λd n j b s h=>⟨d,n,j,h⟩⟩
   exact bZ hKeep (p3 s hs) (λ_ _ _ _=>rfl) (hLow2.blk (by omega) hb)
 ·intro u v hpo hr;have:v.map (bA up.length n fr)=(v.map (dL (fr::up).length)).map (bA up.length n fr):=by
   rw [AV.map_map];exact AV.map_congr λc=>by cases c<;>rfl
  rw [this];refine eD (λx c hc h=>?_) (λc h=>by subst h;rfl) hr;obtain ⟨c0,h0,rfl⟩:=AV.mem_map hc;have:=hpo c0 h0;cases c0 with
  |p x=>exact hLow.repP h
  |own d i g m=>
   obtain ⟨h1,B,h2,h3,h4⟩:=h;have h2':rows[i]?=some B:=by rw [<-hrl i];exact h2
   have hi:i<rows.length:=(zamJ.1 h2').1;have hs:base<=base+i/\base+i<base+rows.length:=by omega
   refine ⟨h1,{B with g:=bD fr (base+i)},?_,zH _,λ_=>?_⟩
   ·have hg:zA up.length (base+i) (aU n rows 0 fr::up)=zE (base+i) (aU n rows 0 fr):=by simp [zA]
    show zA up.length (base+i) _=_;rw [hg,hlk,if_pos hs,Nat.add_sub_cancel_left,h2'];rfl
   ·have hg0:=(hrows B (aC h2')).1;have h5:=h4 hg0.symm;have hpl:pl2 up.length (n*64+40+i)=pl (fr::up).length i:=by
     rw [show n*64+40+i=base+i from rfl,p2 _ hs,Nat.add_sub_cancel_left];rfl
    rw [hpl];exact h5
  |ptr d i g j o=>
   obtain ⟨h1,B,h2,h3,h4⟩:=h;have h2':rows[i]?=some B:=by rw [<-hrl i];exact h2
   have hi:i<rows.length:=(zamJ.1 h2').1;have hs:base<=base+i/\base+i<base+rows.length:=by omega
   refine ⟨h1,{B with g:=bD fr (base+i)},?_,zH _,λ_=>?_⟩
   ·have hg:zA up.length (base+i) (aU n rows 0 fr::up)=zE (base+i) (aU n rows 0 fr):=by simp [zA]
    show zA up.length (base+i) _=_;rw [hg,hlk,if_pos hs,Nat.add_sub_cancel_left,h2'];rfl
   ·have hg0:=(hrows B (aC h2')).1;have h5:=h4 hg0.symm;have hpl:pl2 up.length (n*64+40+i)=pl (fr::up).length i:=by
     rw [show n*64+40+i=base+i from rfl,p2 _ hs,Nat.add_sub_cancel_left];rfl
    rw [hpl];exact h5
  |_=>simp [CV.po] at this
end
end Go.Eng
