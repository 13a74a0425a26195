import Derived.Test.YtilkdjfhbahhdabGreatDoorE29
import Derived.ProofKit
import Derived.OpenShut
import Derived.ShutString
set_option linter.unusedVariables false
set_option linter.unusedSimpArgs false
namespace Go.Eng
abbrev lR:=FuncId->List AV->List Frame->Tr Res
abbrev tP:=Nat->St->Tr (Ex×St)
def Cz:zo:=λ_ _ _=>none
abbrev OpR:=AV×St×Kn×Option Bool
def rG (st:St) (kn:Kn) (dst:Nat) (k:KOp):Tr OpR:=match zB Cz st dst k with
 |some (v,s)=> .done (v,s,kn,none)
 |none=> .fail
def C0 (op:BinOp) (k:IntKind) (lit:Bool) (x y:Int) (done:PV->Tr OpR):Tr OpR:=
 match op with
 | .quo| .rem=>if lit then (match qH op k x y with|some r=>done r|none=> .fail) else .ask (decide (y=0)) .fail (match op with| .quo=>done (.i k (k.wrap (x.tdiv y)))|_=>done (.i k (x.tmod y)))
 | .shl| .shr=>if lit then (match qH op k x y with|some r=>done r|none=> .fail) else .fail
 |_=>match qH op k x y with
  |some r=>done r
  |none=> .fail
def Dl:KX->Bool
 | .k _=>true
 | .t _=>false
def vJ (st:St):AV->Tr (AV×Nat×Nat×Option (Nat×Nat)×Blk)
 | .c (.own d n g m)=>match st.get d n with
  |some ⟨g',sz,ty,.row rows⟩=>if g=g' then .ask (decide (m=rows.length)) (.done (.c (.own 0 0 0 m),d,n,none,⟨0,sz,ty,.row rows⟩)) .fail else .fail
  |some ⟨g',sz,ty,.deep cols rows⟩=>if g=g' then .ask (decide (m=rows.length)) (.done (.c (.own 0 0 0 m),d,n,none,⟨0,sz,ty,.deep cols rows⟩)) .fail else .fail
  |_=> .fail
 | .c (.sub d n g j o m esz)=>(Ci st d n g j o m esz).bind λq=> .done (.c (.own 0 0 0 m),d,n,some (j,o),⟨0,esz,q.1,.row q.2⟩)
 | .c (.ptr d n g 0 0)=>match st.get d n with
  |some ⟨g',sz,ty,.box cells⟩=>if g=g'/\cells.all isP=true then .done (.c (.ptr 0 0 0 0 0),d,n,none,⟨0,sz,ty,.box cells⟩) else .fail
  |_=> .fail
 |_=> .fail
def Be:AV->Bool
 | .c (.own ..)| .c (.ptr ..)| .c (.sub ..)=>true
 |_=>false
def rH (st:St):List AV->Tr (List AV×Nat×Nat×Option (Nat×Nat)×Blk)
 | []=> .fail
 |a::r=>if Be a=true then (vJ st a).bind λ(a,q)=>match iU r with
   |some r=> .done (a::r,q)
   |none=> .fail
  else match jV a with
   |some a=>(rH st r).bind λ(r,q)=> .done (a::r,q)
   |none=> .fail
def tQ (st:St):AV->Tr (AV×St)
 | .c x=>(jO st x).bind λ(a,st)=> .done (.c (.p a),st)
 | .agg cs=>(eZ st cs).bind λ(l,st)=> .done (.agg (l.map .p),st)
 | .tup _=> .fail
def kS (st:St):List AV->Tr (List AV×St)
 | []=> .done ([],st)
 |x::r=>(tQ st x).bind λ(a,st)=>(kS st r).bind λ(l,st)=> .done (a::l,st)
theorem tS {st:St} {a:AV} {y:AV×St} (h:(tQ st a).run=some y):bB st a=some y/\y.2.t=st.t:=by
 cases a with
 |c x=>
  obtain ⟨⟨p,s⟩,h1,h2⟩:=Tr.bind_some h;cases h2;obtain ⟨e1,t1⟩:=lL h1;exact ⟨by simp only [bB,e1,zamW],t1⟩
 |agg cs=>
  obtain ⟨⟨p,s⟩,h1,h2⟩:=Tr.bind_some h;cases h2;obtain ⟨e1,t1⟩:=dM h1;exact ⟨by simp only [bB,e1,zamW],t1⟩
 |tup vs=>cases h
theorem jQ:∀{l:List AV} {st:St} {y:List AV×St},(kS st l).run=some y->aV st l=some y/\y.2.t=st.t
 | [],st,y,h=>by cases h;exact ⟨rfl,rfl⟩
 |x::r,st,y,h=>by
  obtain ⟨⟨a,st1⟩,h1,h2⟩:=Tr.bind_some h;obtain ⟨⟨b,st2⟩,h3,h4⟩:=Tr.bind_some h2;cases h4;obtain ⟨e1,t1⟩:=tS h1;obtain ⟨e2,t2⟩:=jQ h3;simp only [aV,e1,aN,e2,zamW];exact ⟨by first|rfl|trivial,t2.trans t1⟩
theorem Cj {st st':St} {q q2:Nat×Nat×Blk} {r:Res} {v:AV} (h:kU st q q2 r=some (v,st')):st'.t=st.t:=by
 obtain ⟨_,_,_,_,_,_,_,_,_,_,_,_,_,_,_,_,_,_,_,_,_,_,rfl⟩:=pE h;rw [aY,aY]
def gI (st:St):List (List CV)->Tr (List (List PV)×St)
 | []=> .done ([],st)
 |x::r=>(eZ st x).bind λ(a,st)=>(gI st r).bind λ(b,st)=> .done (a::b,st)
theorem gJ:∀{l:List (List CV)} {st:St} {y:List (List PV)×St},(gI st l).run=some y->zl st l=some y/\y.2.t=st.t
 | [],st,y,h=>by cases h;exact ⟨rfl,rfl⟩
 |x::r,st,y,h=>by
  obtain ⟨⟨a,st1⟩,h1,h2⟩:=Tr.bind_some h;obtain ⟨⟨b,st2⟩,h3,h4⟩:=Tr.bind_some h2;cases h4;obtain ⟨e1,t1⟩:=dM h1;obtain ⟨e2,t2⟩:=gJ h3;simp only [zl,e1,aN,e2];exact ⟨by first|rfl|trivial,t2.trans t1⟩
def Dm:CV->Bool
 | .own ..=>true
 |_=>false
def nlB (e:List PV) (k:Nat):Bool:=match e[k]? with
 |some .nl=>true
 |_=>false
theorem Bf {e:List PV} {k:Nat} (h:nlB e k=true):e[k]?=some .nl:=by
 unfold nlB at h;split at h
 ·assumption
 ·cases h
def vK (st:St) (dst d n:Nat) (q:Option (Nat×Nat)) (B:Blk) (r:Res):Tr (AV×St):=
 match q with
 |none=> .ofOpt (fU st dst d n none B r)
 |some (j,o)=>match r.up with
  | [fr']=>match zE 0 fr',st.get d n,B.k with
   |some ⟨0,sz',ty',.row inner'⟩,some ⟨g,sz,ty,.deep cols rows⟩,.row inner=>if ty'=B.ty/\sz'=B.sz/\r.rows.isEmpty=true/\r.v.cvs.all isP=true then
     .opt (rows[j]?) λe=> .ask (decide (inner'.length=inner.length)) (.done (r.v.map (bA st.up.length dst st.fr),st.set d n ⟨g,sz,ty,.deep cols (rows.set j (e.set o (.ls inner')))⟩)) .fail else .fail
   |_,_,_=> .fail
  |_=> .fail
theorem yU {st:St} {dst d n:Nat} {q:Option (Nat×Nat)} {B:Blk} {r:Res} {y:AV×St} (h:(vK st dst d n q B r).run=some y):fU st dst d n q B r=some y:=by
 unfold vK at h;split at h
 ·exact Tr.ofOpt_some h
 ·rename_i j o;unfold fU;simp only;split at h
  ·rename_i fr' hup;split at h
   ·rename_i sz' ty' inner' g sz ty cols rows inner h1 h2 h3;split at h
    ·rename_i hc;obtain ⟨e,he,h⟩:=Tr.opt_some h;obtain ⟨hl,h⟩:=Tr.ask_yes h;cases h;rw [hup];simp only [h1,h2,h3,he];rw [if_pos ⟨hc.1,hc.2.1,hc.2.2.1,hc.2.2.2,hl⟩]
    ·cases h
   ·cases h
  ·cases h
def rI (st:St) (d m g sz ty j o:Nat) (cols:List (Nat×Nat×TypeId)) (rows:List (List PV)) (xs:List CV):Tr St:=
 match uC cols o xs with
 |some (ys,none)=> .opt (rows[j]?) λe=> .ask (decide (o+ys.length<=e.length)) (.done (st.set d m ⟨g,sz,ty,.deep cols (rows.set j (zb e o ys))⟩)) .fail
 |some (ys,some (k,esz,ety,d2,n2,g2,m2))=>match st.get d2 n2 with
  |some ⟨g2',esz',ety',.row rows2⟩=>if g2=g2'/\esz'=esz/\ety'=ety then .opt (rows[j]?) λe=> .ask (decide (o+ys.length<=e.length/\m2=rows2.length/\nlB e k=true))
    (.done ((st.set d2 n2 ⟨g2+1,esz,ety,.dead⟩).set d m ⟨g,sz,ty,.deep cols (rows.set j ((zb e o ys).set k (.ls rows2)))⟩)) .fail else .fail
  |_=> .fail
 |none=> .fail
def Dn (st:St):AV->Bool
 | .c (.own d n _ _)=>match st.get d n with|some ⟨_,_,_,.deep _ _⟩=>true|_=>false
 |_=>false
def Bg (st:St) (kn:Kn) (x:AV) (ty sz bytes:Nat) (y:AV):Tr OpR:=match x,y with
 | .c (.own d n g m),.c (.own d2 n2 g2 m2)=>match st.get d n,st.get d2 n2 with
  |some ⟨g',sz',ty',.deep cols rows⟩,some ⟨g2',_,_,.box cells⟩=>
   if g=g'/\sz'=sz/\ty'=ty/\g2=g2'/\m2=1/\cells.length=sz/\0<sz/\0<bytes then match qJ cols 0 cells with
    |some (ys,none)=> .ask (decide (m=rows.length/\(m+1)*bytes<=140737488355328)) (.done (.c (.own d n (g+1) (m+1)),st.set d n ⟨g+1,sz,ty,.deep cols (rows++ [ys])⟩,kn,none)) .fail
    |some (ys,some (k,esz,ety,d3,n3,g3,m3))=>match st.get d3 n3 with
     |some ⟨g3',esz',ety',.row rows3⟩=>if g3=g3'/\esz'=esz/\ety'=ety then .ask (decide (m=rows.length/\(m+1)*bytes<=140737488355328/\m3=rows3.length))
       (.done (.c (.own d n (g+1) (m+1)),(st.set d3 n3 ⟨g3+1,esz,ety,.dead⟩).set d n ⟨g+1,sz,ty,.deep cols (rows++ [ys.set k (.ls rows3)])⟩,kn,none)) .fail else .fail
     |_=> .fail
    |none=> .fail
   else .fail
  |_,_=> .fail
 |_,_=> .fail
theorem Bh {st:St} {kn:Kn} {x:AV} {ty sz bytes:Nat} {y:AV} {z:OpR} (h:(Bg st kn x ty sz bytes y).run=some z):∃d n g m v s,x= .c (.own d n g m)/\oK st d n g m ty sz bytes y=some (v,s)/\st.rows y=none/\(Tr.done ((v,s,kn,none):OpR)).run=some z:=by
 unfold Bg at h;split at h
 ·rename_i d n g m d2 n2 g2 m2;split at h
  ·rename_i g' sz' ty' cols rows g2' sz2 ty2 cells hB hY;have hrow:st.rows (.c (.own d2 n2 g2 m2))=none:=by simp only [St.rows,hY]
   split at h
   ·rename_i hc;split at h
    ·rename_i ys hq;obtain ⟨h1,h⟩:=Tr.ask_yes h;refine ⟨d,n,g,m,_,_,rfl,?_,hrow,h⟩;simp only [oK,hB,hY];rw [if_pos ⟨hc.1,hc.2.1,hc.2.2.1,hc.2.2.2.1,hc.2.2.2.2.1,hc.2.2.2.2.2.1,hc.2.2.2.2.2.2.1,hc.2.2.2.2.2.2.2,h1.1,h1.2⟩,hq];rfl
    ·rename_i ys k esz ety d3 n3 g3 m3 hq;split at h
     ·rename_i g3' esz' ety' rows3 hR;split at h
      ·rename_i hc3;obtain ⟨h1,h⟩:=Tr.ask_yes h;refine ⟨d,n,g,m,_,_,rfl,?_,hrow,h⟩;simp only [oK,hB,hY];rw [if_pos ⟨hc.1,hc.2.1,hc.2.2.1,hc.2.2.2.1,hc.2.2.2.2.1,hc.2.2.2.2.2.1,hc.2.2.2.2.2.2.1,hc.2.2.2.2.2.2.2,h1.1,h1.2.1⟩,hq];simp only [aN,hR];rw [if_pos ⟨hc3.1,hc3.2.1,hc3.2.2,h1.2.2⟩]
      ·cases h
     ·cases h
    ·cases h
   ·cases h
  ·cases h
 ·cases h
def mC (CT:lR) (st:St) (kn:Kn) (dst:Nat):KOp->Tr OpR
 | .mv x=> .done (st.eval x,st,kn,knX kn x)
 | .pick c a b=>Bc st kn c λv st kn=>match v with
  |true=> .done (st.eval a,st,kn,knX kn a)
  |false=> .done (st.eval b,st,kn,knX kn b)
 | .un op x=>match op,st.eval x with
  | .not,.c (.p (.b v))=> .done (.c (.p (.b (!v))),st,kn,(knX kn x).map (!·))
  |_,_=>rG st kn dst (.un op x)
 | .bin op x y=>match st.eval x,st.eval y with
  | .c (.p (.i k a)),.c (.p (.i k' b))=>if k=k' then C0 op k (Dl y) a b (λr=> .done (.c (.p r),st,kn,none)) else .fail
  | .c (.p (.s a)),.c (.p (.s b))=>match op with
   | .add=> .ask (decide (a.size+b.size<=9223372036854775807)) (.done (.c (.p (.s (a++b))),st,kn,none)) .fail
   |op=>match AH op a b with
    |some r=> .done (.c (.p r),st,kn,none)
    |none=> .fail
  |_,_=> .fail
 | .load g n ks a=>match st.eval a with
  | .c (.rp e o)=>if ks.length=n/\0<n then (kP e o ks).bind λcs=>match fR g cs with
    |some v=> .done (v,st,kn,none)
    |none=> .fail
   else .fail
  | .c (.ptr d m gg j o)=>match st.get d m with
   |some ⟨g',_,_,.row rows⟩=>if gg=g'/\ks.length=n/\0<n/\o≠KO then .opt (rows[j]?) λe=>(kP e o ks).bind λcs=>match fR g cs with
     |some v=> .done (v,st,kn,none)
     |none=> .fail
    else .fail
   |some ⟨g',_,_,.deep cols rows⟩=>if gg=g'/\ks.length=n/\0<n/\o≠KO then .opt (rows[j]?) λe=>(tL d m gg j cols e o ks).bind λcs=>match fR g cs with
     |some v=> .done (v,st,kn,none)
     |none=> .fail
    else .fail
   |_=>rG st kn dst (.load g n ks a)
  |_=> .fail
 | .store n a x=>match st.eval a,st.eval x with
  | .c (.ptr d m gg j o),v=>match st.get d m,v with
   |some ⟨_,_,_,.row _⟩,.tup _=> .fail
   |some ⟨_,_,_,.row _⟩,v=>if v.cvs.length=n/\v.cvs.all (·.known)=true then
     (eZ st v.cvs).bind λ(ys,st)=>match st.get d m with
      |some ⟨g',sz,ty,.row rows⟩=>if gg=g'/\o≠KO then .opt (rows[j]?) λe=> .ask (decide (o+ys.length<=e.length)) (.done (.c .u,st.set d m ⟨g',sz,ty,.row (rows.set j (zb e o ys))⟩,kn,none)) .fail else .fail
      |_=> .fail
    else .fail
   |some ⟨_,_,_,.deep _ _⟩,.tup _=> .fail
   |some ⟨g',sz,ty,.deep cols rows⟩,v=>if v.cvs.length=n/\v.cvs.all (·.known)=true/\gg=g'/\o≠KO then
     (rI st d m g' sz ty j o cols rows v.cvs).bind λs=> .done (.c .u,s,kn,none) else .fail
   |_,_=>rG st kn dst (.store n a x)
  |_,_=> .fail
 | .index x i=>match st.eval x,st.eval i with
  | .c (.p (.s s)),.c (.p (.i .i64 i))=> .ask (decide (0<=i)) (.opt (s.toList[i.toNat]?) λc=> .done (.c (.p (.i .u8 c.toNat)),st,kn,none)) .fail
  |_,_=> .fail
 | .iaddr sz x i=>match st.eval x,st.eval i with
  | .c (.p (.ls rows)),.c (.p (.i .i64 z))=> .ask (decide (0<=z/\z<rows.length)) (.opt (rows[z.toNat]?) λe=> .ask (decide (e.length=sz)) (.done (.c (.rp e 0),st,kn,none)) .fail) .fail
  | .c (.own d n g m),.c (.p (.i .i64 z))=>match st.get d n with
   |some ⟨g',sz',_,.row rows⟩=>if g=g'/\sz'=sz then .ask (decide (m=rows.length/\0<=z/\z<m)) (.done (.c (.ptr d n g z.toNat 0),st,kn,none)) .fail else .fail
   |some ⟨g',sz',_,.deep _ rows⟩=>if g=g'/\sz'=sz then .ask (decide (m=rows.length/\0<=z/\z<m)) (.done (.c (.ptr d n g z.toNat 0),st,kn,none)) .fail else .fail
   |_=>rG st kn dst (.iaddr sz x i)
  |_,_=> .fail
 | .slcS x lo hi=>match st.eval x,st.bound 0 lo with
  | .c (.p (.s s)),some l=>match st.bound s.size hi with
   |some h=> .ask (decide (0<=l/\l<=h/\h<=s.size)) (.done (.c (.p (.s (s.extract l.toNat h.toNat))),st,kn,none)) .fail
   |none=> .fail
  |_,_=> .fail
 | .slc sz x lo hi=>match st.eval x,st.bound 0 lo with
  | .c (.p (.ls rows)),some l=>match st.bound rows.length hi with
   |some h=> .ask (decide (0<=l/\l<=h/\h<=rows.length/\rows.all (λe=>e.length==sz)=true)) (.done (.c (.p (.ls ((rows.take h.toNat).drop l.toNat))),st,kn,none)) .fail
   |none=> .fail
  |_,_=> .fail
 | .toStr x=>(xJ st (st.eval x)).bind λrows=> .opt (bytesOf rows) λl=> .done (.c (.p (.s ⟨l.toArray⟩)),st,kn,none)
 | .app ty sz bytes x y=>if Dn st (st.eval x)=true then Bg st kn (st.eval x) ty sz bytes (st.eval y) else (xJ st (st.eval y)).bind λys=>match st.eval x with
  | .c (.p .nl)=> .ask (decide (0<sz/\0<bytes/\ys.length*bytes<=140737488355328/\ys.all (λe=>e.length==sz)=true))
    (.done (.c (.own st.up.length (dst*64) (st.fresh (dst*64)) ys.length),(st.new (dst*64) sz ty (.row ys)).2,kn,none)) .fail
  | .c (.own d n g m)=>match st.get d n with
   |some ⟨g',sz',ty',.row rows⟩=>if g=g'/\sz'=sz/\ty'=ty then .ask (decide (m=rows.length/\0<sz/\0<bytes/\(m+ys.length)*bytes<=140737488355328/\ys.all (λe=>e.length==sz)=true))
     (.done (.c (.own d n (g+1) (m+ys.length)),st.set d n ⟨g+1,sz,ty,.row (rows++ys)⟩,kn,none)) .fail else .fail
   |_=> .fail
  |_=> .fail
 | .mksl ty sz bytes cols zero l c=>match st.eval l,st.eval c with
  | .c (.p (.i .i64 l)),.c (.p (.i .i64 c))=>if zero.length=sz/\AJ cols zero=true then .ask (decide (0<=l/\l=c/\bytes*l<=140737488355328/\l<=9223372036854775807))
    (.done (.c (.own st.up.length (dst*64) (st.fresh (dst*64)) l.toNat),(st.new (dst*64) sz ty (mH cols (rQ zero l.toNat))).2,kn,none)) .fail else .fail
  |_,_=> .fail
 | .call true f args=>match st.eval f with
  | .c (.fn f caps)=>(rF st (args.map st.eval++caps.map Cap.av)).bind λ(as,lent)=>(CT f as []).bind λr=>if jW r=true then
    (if lent=false then .done (r.v.map (bA st.up.length dst st.fr),{st with fr:=aU dst r.rows 0 st.fr},kn,none) else .ask (cI r) (.done (r.v.map (bA st.up.length dst st.fr),{st with fr:=aU dst r.rows 0 st.fr},kn,none)) .fail) else .fail
  |_=> .fail
 | .call false f args=>match st.eval f with
  | .c (.fn f caps)=>(rH st (args.map st.eval++caps.map Cap.av)).bind λ(as,d,n,q,B)=>(CT f as [[(0,B)]]).bind λr=>(vK st dst d n q B r).bind λ(v,s)=> .done (v,s,kn,none)
  |_=> .fail
 | .callN f args=>match st.eval f with
  | .c (.fn f caps)=>match args.map st.eval++caps.map Cap.av with
   |a::r=>(kS st r).bind λ(r,st)=>match iV st a with
    |some (a,q,q2)=>(CT f (a::r) [[(0,q.2.2),(1,q2.2.2)]]).bind λres=>match kU st q q2 res with
     |some (v,s)=> .done (v,s,kn,none)
     |none=> .fail
    |none=> .fail
   | []=> .fail
  |_=> .fail
 | .bslice ty sz len cols zero parts=>match cL ((List.replicate len zero).map (·.map .p)) sz (parts.map λ(j,x)=>(j,st.eval x)) with
  |some rows=>if (cols.isEmpty=true\/len=0)/\rows.any (·.any Dm)=true then (gI st rows).bind λ(rs,st)=> .done (.c (.own st.up.length (dst*64) (st.fresh (dst*64)) len),(st.new (dst*64) sz ty (bsK cols len rs)).2,kn,none) else rG st kn dst (.bslice ty sz len cols zero parts)
  |none=> .fail
 |k=>rG st kn dst k
def gW (CT:lR) (st:St) (kn:Kn) (o:KOper):Tr (St×Kn):=
 let go:St->Kn->Tr (St×Kn):=λst kn=>(mC CT st kn (o.dst.getD 0) o.op).bind λ(v,s,kn,kb)=> .done ({s with t:=eF s.t o.dst v},pX kn o.dst kb)
 match o.guard with
 |none=>go st kn
 |some (j,want)=>match zE j st.t with
  |some (.tup [])=> .done ({st with t:=eF st.t o.dst (.tup [])},pX kn o.dst none)
  |_=>Bc st kn (.t j) λv st kn=>if v=want then go st kn else .done ({st with t:=eF st.t o.dst (.tup [])},pX kn o.dst none)
def oC (CT:lR):List KOper->St->Kn->Tr (St×Kn)
 | [],st,kn=> .done (st,kn)
 |o::r,st,kn=>(gW CT st kn o).bind λ(st,kn)=>oC CT r st kn
def rJ (CT:lR):List (KOper×List Bool)->List Tch->St->Kn->Tr (St×Kn)
 | [],_,st,kn=> .done (st,kn)
 |(o,bs)::r,ts,st,kn=>if AK bs ts (tch st o)=true then (gW CT st kn o).bind λp=>rJ CT r (tch st o::ts) p.1 p.2 else .fail
def eR (CT:lR) (LT:tP):KCode->St->Kn->Tr (Ex×St×Kn)
 | .skip,st,kn=> .done (.normal,st,kn)
 | .ops l,st,kn=>(oC CT l st kn).bind λ(st,kn)=> .done (.normal,st,kn)
 | .draw l,st,kn=>(rJ CT l [] st kn).bind λ(st,kn)=> .done (.normal,st,kn)
 | .seq a b,st,kn=>(eR CT LT a st kn).bind λ(e,st,kn)=>match e with
  | .normal=>eR CT LT b st kn
  |e=> .done (e,st,kn)
 | .cond c a b,st,kn=>Bc st kn c λv st kn=>match v with
  |true=>eR CT LT a st kn
  |false=>eR CT LT b st kn
 | .block id c,st,kn=>(eR CT LT c st kn).bind λ(e,st,kn)=> .done (if e= .exit id then .normal else e,st,kn)
 | .loop mk keep bM c,st,kn=>(LT mk (st.norm keep)).bind λ(e,s)=> .done (e,s,[])
 | .exit id,st,kn=> .done (.exit id,st,kn)
 | .ret,st,kn=> .done (.ret,st,kn)
def Bi (st:St):List (Bool×List CV)->Tr (List (Bool×List CV)×St)
 | []=> .done ([],st)
 |(g,cs)::r=>(eZ st cs).bind λ(ps,st)=>(Bi st r).bind λ(l,st')=> .done ((g,ps.map CV.p)::l,st')
def rK (kf:KFun) (e:Ex) (st:St):Tr Res:=
 if (e= .normal\/e= .ret)/\kf.frozen=true then match fQ st kf.results with
  |some l=>(Bi st l).bind λ(l,st)=> .done ⟨bS l,st.up,[]⟩
  |none=> .fail
 else if e= .normal\/e= .ret then match (fQ st kf.results).bind (uG st) with
  |some r=> .done r
  |none=> .fail
 else .fail
def DR (kf:KFun) (args:List AV) (up:List Frame) (r:Res):Tr Res:=
 if kf.nil1=true then match args,up with
  | [.c (.p (.ls rows))],[]=> .ask (!rows.isEmpty||jY r) (.done r) .fail
  |_,_=> .fail
 else .done r
def Ck (CT:lR) (LT:tP) (kf:KFun) (args:List AV) (up:List Frame):Tr Res:=
 if args.length=kf.params.length then (eR CT LT kf.body ⟨mK args 0,[],up⟩ []).bind λ(e,st,_)=>(rK kf e st.low).bind (DR kf args up) else .fail
def oM (CT:lR) (run:zo):Prop:=∀f args up r,(CT f args up).run=some r->run f args up=some r
def bH:KCode->List (Nat×List Nat×List (Ex×List Nat)×KCode)
 | .seq a b| .cond _ a b=>bH a++bH b
 | .block _ c=>bH c
 | .loop mk keep bM c=> [(mk,keep,bM,c)]
 |_=> []
def lM (body:St->Option (Ex×St)) (keep:List Nat):Nat->St->Option (Ex×St)
 |0,_=>none
 |m+1,st=>(body st).bind λ(e,s)=>match e with
  | .normal=>lM body keep m (s.norm keep)
  |e=>some (e,s)
theorem xK (body:St->Option (Ex×St)) (keep:List Nat):∀(m:Nat) (st:St),uF body keep m st=lM body keep m (st.norm keep)
 |0,st=>rfl
 |m+1,st=>by
  simp only [uF,lM]
  congr 1
  funext p
  obtain ⟨e,s⟩:=p;cases e with
  |normal=>exact xK body keep m s
  |_=>rfl
def yV (LT:tP) (run:zo) (N:Nat) (c:KCode):Prop:=
 ∀mk keep bM b,(mk,keep,bM,b)∈bH c->∀st e s,(LT mk st).run=some (e,s)->∃s0,lM (aK run N b) keep N st=some (e,s0)/\s=s0.norm (kX e bM)
section
variable {CT:lR} {LT:tP} {run:zo} {N:Nat} {st:St} {kn:Kn}
theorem Cm {dst:Nat} {k:KOp} {v:AV} {s:St} {kn':Kn} {kb:Option Bool} (hk:KnOK kn st) (h:(rG st kn dst k).run=some (v,s,kn',kb)) (hst:∀{v s},zB Cz st dst k=some (v,s)->s.t=st.t):
  zB run st dst k=some (v,s)/\s.t=st.t/\KnOK kn' s/\∀b,kb=some b->v= .c (.p (.b b)):=by
 unfold rG at h;split at h
 ·rename_i v' s' he;cases h;have ht:=hst he;exact ⟨tK (λf a u r h=>by cases h) he,ht,hk.frame ht,λb hb=>by cases hb⟩
 ·cases h
theorem qA {c:CV} {st:St} {y:PV×St} (h:cD st c=some y):y.2.t=st.t:=by
 unfold cD at h;split at h
 ·cases h;rfl
 ·split at h
  ·split at h
   ·cases h;exact aY _ _ _ _
   ·cases h
  ·cases h
 ·cases h
theorem gX:∀{l:List CV} {st:St} {y:List PV×St},aP st l=some y->y.2.t=st.t
 | [],st,y,h=>by cases h;rfl
 |x::r,st,y,h=>by
  simp only [aP,zK,zS] at h;obtain ⟨⟨a,s1⟩,h1,⟨b,s2⟩,h2,rfl⟩:=h;exact (gX h2).trans (qA h1)
theorem jR:∀{l:List (List CV)} {st:St} {y:List (List PV)×St},zl st l=some y->y.2.t=st.t
 | [],st,y,h=>by cases h;rfl
 |x::r,st,y,h=>by
  simp only [zl,zK,zS] at h;obtain ⟨⟨a,s1⟩,h1,⟨b,s2⟩,h2,rfl⟩:=h;exact (jR h2).trans (gX h1)
theorem oD:∀{l:List AV} {st:St} {y:List AV×St},aV st l=some y->y.2.t=st.t
 | [],st,y,h=>by cases h;rfl
 |x::r,st,y,h=>by
  simp only [aV,zK,zD] at h;obtain ⟨⟨a,s1⟩,h1,⟨b,s2⟩,h2,rfl⟩:=h;refine (oD h2).trans ?_;cases x with
  |c x=>
   simp only [bB,zD,zamL,Prod.exists] at h1;obtain ⟨p,s,h3,_,rfl⟩:=h1;exact qA h3
  |agg cs=>
   simp only [bB,zD,zamL,Prod.exists] at h1;obtain ⟨p,s,h3,_,rfl⟩:=h1;exact gX h3
  |tup vs=>cases h1
theorem Cn {st:St} {dst d n:Nat} {q:Option (Nat×Nat)} {B:Blk} {r:Res} {v:AV} {s:St} (h:fU st dst d n q B r=some (v,s)):s.t=st.t:=by
 unfold fU at h;split at h
 ·split at h
  ·split at h
   ·split at h
    ·split at h
     ·cases h;exact aY _ _ _ _
     ·cases h
    ·cases h
   ·cases h
  ·cases h
 ·split at h
  ·split at h
   ·split at h
    ·cases h;exact aY _ _ _ _
    ·cases h
   ·cases h
  ·cases h
theorem rL {a:AV} {xs:List CV} {s:St} (h:st.write a xs=some s):s.t=st.t:=by
 unfold St.write at h;split at h
 ·split at h
  ·split at h
   ·cases h;exact aY _ _ _ _
   ·cases h
  ·simp only [zK] at h;obtain ⟨⟨ys,s1⟩,h1,h⟩:=h;have ht:=gX h1;simp only at h ht;split at h
   ·split at h
    ·split at h
     ·split at h
      ·cases h;exact (aY _ _ _ _).trans ht
      ·cases h
     ·cases h
    ·cases h
   ·cases h
  ·obtain ⟨⟨ys,q⟩,_,h⟩:=zK.1 h;simp only at h;split at h
   ·split at h
    ·split at h
     ·split at h
      ·cases h;exact aY _ _ _ _
      ·split at h
       ·split at h
        ·cases h;rw [aY,aY]
        ·cases h
       ·cases h
     ·cases h
    ·cases h
   ·cases h
  ·cases h
 ·cases h
theorem gY {base:Nat}:∀(l:List (Nat×TypeId×Nat)) (i:Nat) (cs:List CV) (st:St),(zZ base l i cs st).2.t=st.t
 | [],_,_,_=>rfl
 |(col,ty,sz)::r,i,cs,st=>by
  unfold zZ;split
  ·exact gY r (i+1) _ _
  ·exact gY r (i+1) cs st
theorem tU {dst:Nat} {k:KOp} {v:AV} {s:St} (h:zB run st dst k=some (v,s)):s.t=st.t:=by
 cases k<;>simp only [zB] at h
 case nil=>cases h;rfl
 case mv=>cases h;rfl
 case mvR=>
  split at h
  ·split at h
   ·split at h
    ·split at h
     ·cases h;exact aY _ _ _ _
     ·cases h
    ·cases h
   ·cases h;rfl
  ·cases h;rfl
 case rel=>
  split at h
  ·split at h<;>cases h;rfl
  ·cases h
 case pick=>split at h<;>cases h;rfl
 case box=>
  split at h
  ·cases h
  ·split at h
   ·cases h;rfl
   ·cases h
 case build=>
  obtain ⟨cs,_,h⟩:=zD.1 h;cases h;rfl
 case bslice=>
  obtain ⟨rows,_,h⟩:=zK.1 h;split at h
  ·rename_i rs s1 hf;cases h;unfold frz at hf;split at hf
   ·exact jR hf
   ·cases hf
  ·split at h
   ·cases h;rfl
   ·cases h
 case load=>
  obtain ⟨cs,_,h⟩:=zK.1 h;obtain ⟨v',_,h⟩:=zD.1 h;cases h;rfl
 case store=>
  split at h
  ·cases h
  ·split at h
   ·obtain ⟨s',h1,h⟩:=zD.1 h;cases h;exact rL h1
   ·cases h
 case storeN=>
  split at h
  ·cases h
  ·split at h
   ·obtain ⟨s',h1,h⟩:=zD.1 h;cases h;exact (rL h1).trans (gY _ _ _ _)
   ·cases h
 case chk=>
  split at h
  ·split at h<;>cases h;rfl
  ·cases h;rfl
  ·cases h;rfl
  ·cases h
 case bin=>
  split at h
  ·obtain ⟨_,_,h⟩:=zD.1 h;cases h;rfl
  ·cases h
 case eqs=>
  split at h
  ·obtain ⟨_,_,h⟩:=zD.1 h;cases h;rfl
  ·cases h
 case beq=>split at h<;>cases h;rfl
 case inil=>split at h<;>cases h<;>rfl
 case un=>
  split at h
  ·obtain ⟨_,_,h⟩:=zD.1 h;cases h;rfl
  ·cases h
 case conv=>split at h<;>cases h;rfl
 case str=>split at h<;>cases h;rfl
 case toStr=>
  obtain ⟨_,_,h⟩:=zK.1 h;obtain ⟨_,_,h⟩:=zD.1 h;cases h;rfl
 case mkfn=>obtain ⟨_,_,h⟩:=zD.1 h;cases h;rfl
 case mksl=>
  obtain ⟨_,_,h⟩:=zK.1 h;obtain ⟨_,_,h⟩:=zK.1 h;split at h<;>cases h;rfl
 case slcS=>
  split at h
  ·obtain ⟨_,_,h⟩:=zK.1 h;obtain ⟨_,_,h⟩:=zK.1 h;split at h<;>cases h;rfl
  ·cases h
 case slc=>
  split at h
  ·obtain ⟨_,_,h⟩:=zK.1 h;obtain ⟨_,_,h⟩:=zK.1 h;split at h<;>cases h;rfl
  ·cases h
 case faddr=>
  split at h
  ·split at h<;>cases h;rfl
  ·cases h;rfl
  ·cases h
 case field=>
  split at h
  ·split at h
   ·obtain ⟨_,_,h⟩:=zD.1 h;cases h;rfl
   ·cases h
  ·cases h
 case iaddr=>
  obtain ⟨i,_,h⟩:=zK.1 h;split at h
  ·split at h
   ·split at h
    ·split at h<;>cases h;rfl
    ·cases h
   ·cases h
  ·split at h
   ·split at h<;>cases h;rfl
   ·split at h<;>cases h;rfl
   ·split at h<;>cases h;rfl
   ·cases h
  ·cases h
 case index=>
  obtain ⟨i,_,h⟩:=zK.1 h;split at h
  ·split at h
   ·split at h<;>cases h;rfl
   ·cases h
  ·cases h
 case ext=>
  split at h
  ·split at h
   ·obtain ⟨_,_,h⟩:=zD.1 h;cases h;rfl
   ·cases h
  ·cases h
 case app=>
  split at h
  ·split at h<;>cases h;rfl
  ·split at h
   ·split at h
    ·cases h;exact aY _ _ _ _
    ·cases h
   ·cases h
  ·unfold oK at h;split at h
   ·split at h
    ·split at h
     ·obtain ⟨⟨ys,q⟩,_,h⟩:=zK.1 h;cases q with
      |none=>simp only at h;cases h;exact aY _ _ _ _
      |some t=>
       obtain ⟨k,esz,ety,d3,n3,g3,m3⟩:=t;simp only at h;split at h
       ·split at h
        ·cases h;rw [aY,aY]
        ·cases h
       ·cases h
     ·cases h
    ·cases h
   ·cases h
  ·cases h
 case boxN=>
  split at h
  ·cases h
  ·split at h
   ·cases h;rfl
   ·cases h
 case storeB=>
  split at h
  ·obtain ⟨s',h1,h⟩:=zD.1 h;cases h;exact (rL h1).trans (gY _ _ _ _)
  ·cases h
 case callN f args=>
  split at h
  ·cases hq:args.map st.eval++(List.map Cap.av ‹_›) with
   |nil=>rw [hq] at h;cases h
   |cons a0 r=>
    rw [hq] at h;simp only [callN] at h;obtain ⟨⟨r',s1⟩,h1,h⟩:=zK.1 h;obtain ⟨⟨a',q,q2⟩,h2,h⟩:=zK.1 h;obtain ⟨res,h3,h⟩:=zK.1 h;exact (Cj h).trans (oD h1)
  ·cases h
 case len s x=>
  cases s
  ·simp only [zB] at h;split at h
   ·cases h;rfl
   ·cases h;rfl
   ·split at h<;>cases h;rfl
   ·split at h<;>cases h;rfl
   ·cases h
  ·simp only [zB] at h;split at h<;>cases h;rfl
 case mm=>obtain ⟨_,_,h⟩:=zD.1 h;cases h;rfl
 case call bo f args=>
  split at h
  ·unfold dY at h;split at h
   ·obtain ⟨⟨as,l⟩,_,h⟩:=zK.1 h;obtain ⟨r,_,h⟩:=zK.1 h;split at h<;>cases h;rfl
   ·obtain ⟨⟨ar,d,n,q,B⟩,_,h⟩:=zK.1 h;obtain ⟨r,_,h⟩:=zK.1 h;exact Cn h
  ·cases h
def Bj (run:zo) (st:St) (dst:Nat) (k:KOp) (x:OpR):Prop:=zB run st dst k=some (x.1,x.2.1)/\KnOK x.2.2.1 x.2.1/\∀b,x.2.2.2=some b->x.1= .c (.p (.b b))
theorem fA {dst:Nat} {k:KOp} {x:OpR} (hk:KnOK kn st) (h:(rG st kn dst k).run=some x):Bj run st dst k x:=by
 obtain ⟨v,s,kn',kb⟩:=x;obtain ⟨h1,h2,h3,h4⟩:=Cm (run:=run) hk h (λh=>tU h);exact ⟨h1,h3,h4⟩
theorem gZ {dst:Nat} {k:KOp} {v:AV} {kn':Kn} {kb:Option Bool} {x:OpR} (he:zB run st dst k=some (v,st)) (hk:KnOK kn' st) (hb:∀b,kb=some b->v= .c (.p (.b b))) (h:(Tr.done (v,st,kn',kb)).run=some x):Bj run st dst k x:=by
 cases h;exact ⟨he,hk,hb⟩
theorem zx {dst:Nat} {k:KOp} {v:AV} {s:St} {x:OpR} (he:zB run st dst k=some (v,s)) (hk:KnOK kn st) (h:(Tr.done (v,s,kn,none)).run=some x):Bj run st dst k x:=by
 cases h;exact ⟨he,hk.frame (tU he),λb hb=>by cases hb⟩
theorem yW {a:AV} {y:AV×Nat×Nat×Option (Nat×Nat)×Blk} (h:(vJ st a).run=some y):eT st a=some y:=by
 unfold vJ at h;unfold eT;split at h
 ·split at h
  ·rename_i g' sz ty rows hB;split at h
   ·rename_i hg;obtain ⟨hm,h⟩:=Tr.ask_yes h;cases h;simp only [hB];rw [if_pos ⟨hg,hm⟩]
   ·cases h
  ·rename_i g' sz ty cols rows hB;split at h
   ·rename_i hg;obtain ⟨hm,h⟩:=Tr.ask_yes h;cases h;simp only [hB];rw [if_pos ⟨hg,hm⟩]
   ·cases h
  ·cases h
 ·obtain ⟨q,h1,h2⟩:=Tr.bind_some h;cases h2;simp only [xI h1,zamW]
 ·split at h
  ·rename_i g' sz ty cells hB;split at h
   ·rename_i hc;cases h;simp only [hB];rw [if_pos hc]
   ·cases h
  ·cases h
 ·cases h
theorem vM {a:AV} (h:¬Be a=true):eT st a=none:=by
 unfold Be at h;unfold eT;split
 ·simp at h
 ·simp at h
 ·simp at h
 ·rfl
theorem qC:∀{l:List AV} {y:List AV×Nat×Nat×Option (Nat×Nat)×Blk},(rH st l).run=some y->dX st l=some y
 | [],y,h=>by cases h
 |a::r,y,h=>by
  simp only [rH] at h;simp only [dX];split at h
  ·obtain ⟨⟨a',q⟩,h1,h⟩:=Tr.bind_some h;rw [yW h1];simp only at h⊢;split at h
   ·rename_i r' hr;cases h;rw [hr];rfl
   ·cases h
  ·rename_i hn;rw [vM hn];simp only;split at h
   ·rename_i a' ha;obtain ⟨⟨r',q⟩,h1,h⟩:=Tr.bind_some h;cases h;rw [ha,qC h1];rfl
   ·cases h
theorem tV {n dst:Nat} {a x:KX} (h:∀vs,st.eval x= .tup vs->False):zB run st dst (.store n a x)=if (st.eval x).cvs.length=n/\(st.eval x).cvs.all (·.known)=true then (st.write (st.eval a) (st.eval x).cvs).map λst=>(.c .u,st) else none:=by
 simp only [zB]
theorem vN {st:St} {d m g sz ty j o gg:Nat} {cols:List (Nat×Nat×TypeId)} {rows:List (List PV)} {xs:List CV} {s:St} (h:(rI st d m g sz ty j o cols rows xs).run=some s) (hB:st.get d m=some ⟨g,sz,ty,.deep cols rows⟩) (hg:gg=g/\o≠KO):
  st.write (.c (.ptr d m gg j o)) xs=some s:=by
 simp only [St.write,hB];unfold rI at h;split at h
 ·rename_i ys hp;obtain ⟨e,he,h⟩:=Tr.opt_some h;obtain ⟨h1,h⟩:=Tr.ask_yes h;cases h;rw [hp];simp only [aN];rw [if_pos hg,he];simp only;rw [if_pos h1]
 ·rename_i ys k esz ety d2 n2 g2 m2 hp;split at h
  ·rename_i g2' esz' ety' rows2 hR;split at h
   ·rename_i hc;obtain ⟨e,he,h⟩:=Tr.opt_some h;obtain ⟨h1,h⟩:=Tr.ask_yes h;cases h;rw [hp];simp only [aN];rw [if_pos hg,he];simp only;rw [if_pos h1.1,hR,Bf h1.2.2];simp only;rw [if_pos ⟨hc.1,hc.2.1,hc.2.2,h1.2.1⟩]
   ·cases h
  ·cases h
 ·cases h
theorem vO (hC:oM CT run) (hk:KnOK kn st) {dst:Nat} {k:KOp} {x:OpR} (h:(mC CT st kn dst k).run=some x):Bj run st dst k x:=by
 unfold mC at h;split at h
 ·--mv
  exact gZ rfl hk (λb hb=>rC hk hb) h
 ·--pick
  obtain ⟨v,kn',h1,h2,h3⟩:=rD hk h;cases v
  ·exact gZ (by simp only [zB,h1];rfl) h2 (λb hb=>rC h2 hb) h3
  ·exact gZ (by simp only [zB,h1];rfl) h2 (λb hb=>rC h2 hb) h3
 ·--un
  split at h
  ·rename_i v hx;refine gZ (by simp only [zB,hx,unP];rfl) hk (λb hb=>?_) h;obtain ⟨c,hc,rfl⟩:=zD.1 hb;have:=rC hk hc;rw [hx] at this;cases this;rfl
  ·exact fA hk h
 ·--bin
  rename_i op x y;split at h
  ·rename_i k a k' b hx hy;split at h
   ·rename_i e;subst e;have key:∀{r:PV} {z:OpR},qH op k a b=some r->(Tr.done ((.c (.p r),st,kn,none):OpR)).run=some z->Bj run st dst (.bin op x y) z:=fun {r z} hr h'=>
     zx (by simp only [zB,hx,hy,uD,if_true,hr,zamW]) hk h'
    unfold C0 at h;split at h
    ·split at h
     ·split at h
      ·rename_i r hr;exact key hr h
      ·cases h
     ·rcases Tr.ask_some h with ⟨_,h2⟩|⟨h1,h2⟩
      ·cases h2
      ·have h1:¬b=0:=by simpa using h1
       exact key (by simp only [qH];rw [if_neg h1]) h2
    ·split at h
     ·split at h
      ·rename_i r hr;exact key hr h
      ·cases h
     ·rcases Tr.ask_some h with ⟨_,h2⟩|⟨h1,h2⟩
      ·cases h2
      ·have h1:¬b=0:=by simpa using h1
       exact key (by simp only [qH];rw [if_neg h1]) h2
    ·split at h
     ·split at h
      ·rename_i r hr;exact key hr h
      ·cases h
     ·cases h
    ·split at h
     ·split at h
      ·rename_i r hr;exact key hr h
      ·cases h
     ·cases h
    ·split at h
     ·rename_i r hr;exact key hr h
     ·cases h
   ·cases h
  ·rename_i a b hx hy;split at h
   ·obtain ⟨h1,h2⟩:=Tr.ask_yes h;exact zx (by simp only [zB,hx,hy,uD,AH];rw [if_pos h1];rfl) hk h2
   ·split at h
    ·rename_i r hr;exact zx (by simp only [zB,hx,hy,uD,hr,zamW]) hk h
    ·cases h
  ·cases h
 ·--load
  rename_i g n ks a;split at h
  ·rename_i e o ha;split at h
   ·rename_i hc;obtain ⟨cs,h1,h2⟩:=Tr.bind_some h;obtain ⟨ps,rfl,h3,h4⟩:=kQ h1;obtain ⟨h5,h6⟩:=iQ (by omega) h4;split at h2
    ·rename_i v hv;rw [h3,hc.1] at h5 h6;exact zx (by simp only [zB,ha,St.read];rw [if_pos h5,h6];simp only [aN,hv,zamW]) hk h2
    ·cases h2
   ·cases h
  ·rename_i d m gg j o ha;split at h
   ·rename_i g' sz ty rows hB;split at h
    ·rename_i hc;obtain ⟨e,he,h⟩:=Tr.opt_some h;obtain ⟨cs,h1,h2⟩:=Tr.bind_some h;obtain ⟨ps,rfl,h3,h4⟩:=kQ h1;obtain ⟨h5,h6⟩:=iQ (by omega) h4;split at h2
     ·rename_i v hv;rw [h3,hc.2.1] at h5 h6;exact zx (by simp only [zB,ha,St.read,hB];rw [if_pos ⟨hc.1,hc.2.2.2⟩,he];simp only;rw [if_pos h5,h6];simp only [aN,hv,zamW]) hk h2
     ·cases h2
    ·cases h
   ·rename_i g' sz ty cols rows hB;split at h
    ·rename_i hc;obtain ⟨e,he,h⟩:=Tr.opt_some h;obtain ⟨cs,h1,h2⟩:=Tr.bind_some h;obtain ⟨ps,rfl,h3,h4⟩:=tM h1;obtain ⟨h5,h6⟩:=iQ (by omega) h4;split at h2
     ·rename_i v hv;rw [h3,hc.2.1] at h5 h6;exact zx (by simp only [zB,ha,St.read,hB];rw [if_pos ⟨hc.1,hc.2.2.2⟩,he];simp only;rw [if_pos h5,h6];simp only [aN,hv,zamW]) hk h2
     ·cases h2
    ·cases h
   ·exact fA hk h
  ·cases h
 ·--store
  rename_i n a x;split at h
  ·rename_i d m gg j o v ha;split at h
   ·cases h
   ·rename_i B1 B2 B3 B4 hB hnt;split at h
    ·rename_i hc;obtain ⟨⟨ys,s1⟩,h1,h2⟩:=Tr.bind_some h;obtain ⟨h3,h4⟩:=dM h1;simp only at h2;split at h2
     ·rename_i g' sz ty rows hB';split at h2
      ·rename_i hg;obtain ⟨e,he,h2⟩:=Tr.opt_some h2;obtain ⟨h5,h2⟩:=Tr.ask_yes h2;refine zx ?_ hk h2;rw [tV hnt,if_pos hc,ha];simp only [St.write,hB,h3,aN,hB'];rw [if_pos hg,he];simp only;rw [if_pos h5];rfl
      ·cases h2
     ·cases h2
    ·cases h
   ·cases h
   ·rename_i g' sz ty cols rows hB hnt;split at h
    ·rename_i hc;obtain ⟨s2,h1,h2⟩:=Tr.bind_some h;refine zx ?_ hk h2;rw [tV hnt,if_pos ⟨hc.1,hc.2.1⟩,ha];rw [vN h1 hB hc.2.2];rfl
    ·cases h
   ·exact fA hk h
  ·cases h
 ·--index
  split at h
  ·rename_i s i hx hi;obtain ⟨h1,h⟩:=Tr.ask_yes h;obtain ⟨c,h2,h⟩:=Tr.opt_some h;exact zx (by simp only [zB,hi,dB,aN,hx];rw [if_pos h1,h2]) hk h
  ·cases h
 ·--iaddr
  rename_i sz x i;split at h
  ·rename_i rows z hx hi;obtain ⟨h1,h⟩:=Tr.ask_yes h;obtain ⟨e,h2,h⟩:=Tr.opt_some h;obtain ⟨h3,h⟩:=Tr.ask_yes h;exact zx (by simp only [zB,hi,dB,aN,hx];rw [if_pos h1,h2];simp only;rw [if_pos h3]) hk h
  ·rename_i d n g m z hx hi;split at h
   ·rename_i g' sz' ty rows hB;split at h
    ·rename_i hc;obtain ⟨h1,h⟩:=Tr.ask_yes h;exact zx (by simp only [zB,hi,dB,aN,hx,hB];rw [if_pos ⟨hc.1,hc.2,h1⟩]) hk h
    ·cases h
   ·rename_i g' sz' ty cols rows hB;split at h
    ·rename_i hc;obtain ⟨h1,h⟩:=Tr.ask_yes h;exact zx (by simp only [zB,hi,dB,aN,hx,hB];rw [if_pos ⟨hc.1,hc.2,h1⟩]) hk h
    ·cases h
   ·exact fA hk h
  ·cases h
 ·--slcS
  rename_i x lo hi;split at h
  ·rename_i s l hx hl;split at h
   ·rename_i u hu;obtain ⟨h1,h⟩:=Tr.ask_yes h;exact zx (by simp only [zB,hx,hl,hu,aN];rw [if_pos h1]) hk h
   ·cases h
  ·cases h
 ·--slc
  rename_i sz x lo hi;split at h
  ·rename_i rows l hx hl;split at h
   ·rename_i u hu;obtain ⟨h1,h⟩:=Tr.ask_yes h;exact zx (by simp only [zB,hx,hl,hu,aN];rw [if_pos h1]) hk h
   ·cases h
  ·cases h
 ·--toStr
  obtain ⟨rows,h1,h⟩:=Tr.bind_some h;obtain ⟨l,h2,h⟩:=Tr.opt_some h;exact zx (by simp only [zB,tO h1,aN,h2,zamW]) hk h
 ·--app
  rename_i ty sz bytes x y;split at h
  ·obtain ⟨d,n,g,m,v,s,hx,h1,h2,h3⟩:=Bh h;exact zx (by simp only [zB,hx,h2,h1]) hk h3
  obtain ⟨ys,h1,h⟩:=Tr.bind_some h;have h1:=tO h1;split at h
  ·rename_i hx;obtain ⟨h2,h⟩:=Tr.ask_yes h;exact zx (by simp only [zB,hx,h1];rw [if_pos h2]) hk h
  ·rename_i d n g m hx;split at h
   ·rename_i g' sz' ty' rows hB;split at h
    ·rename_i hc;obtain ⟨h2,h⟩:=Tr.ask_yes h;exact zx (by simp only [zB,hx,h1,hB];rw [if_pos ⟨hc.1,hc.2.1,hc.2.2,h2⟩]) hk h
    ·cases h
   ·cases h
  ·cases h
 ·--mksl
  split at h
  ·rename_i l c hl hc;split at h
   ·rename_i hz;obtain ⟨h2,h⟩:=Tr.ask_yes h;exact zx (by simp only [zB,hl,hc,dB,aN];rw [if_pos ⟨h2.1,h2.2.1,h2.2.2.1,h2.2.2.2,hz.1,hz.2⟩]) hk h
   ·cases h
  ·cases h
 ·--call
  rename_i f args;split at h
  ·rename_i g caps hf;obtain ⟨⟨as,lent⟩,h1,h⟩:=Tr.bind_some h;obtain ⟨r,h2,h⟩:=Tr.bind_some h;have h1:=oB h1;have h2:=hC _ _ _ _ h2;split at h
   ·rename_i hs;split at h
    ·rename_i hc;refine zx ?_ hk h;simp only [zB,hf,dY,if_true,h1,aN,h2];rw [if_pos ⟨.inl hc,hs⟩]
    ·rcases Tr.ask_some h with ⟨hc,h⟩|⟨_,h⟩
     ·refine zx ?_ hk h;simp only [zB,hf,dY,if_true,h1,aN,h2];rw [if_pos ⟨.inr hc,hs⟩]
     ·cases h
   ·cases h
  ·cases h
 ·--a call that is lent a block
  rename_i f args;split at h
  ·rename_i g caps hf;obtain ⟨⟨as,d,n,q,B⟩,h1,h⟩:=Tr.bind_some h;obtain ⟨r,h2,h⟩:=Tr.bind_some h;obtain ⟨⟨v,s⟩,hb,h⟩:=Tr.bind_some h;have h1:=qC h1;have h2:=hC _ _ _ _ h2;have hb:=yU hb;refine zx ?_ hk h;simp only [zB,hf,dY,dO,if_false,h1,aN,h2,hb]
  ·cases h
 ·--a call that is lent a box with an own row
  rename_i f args;split at h
  ·rename_i g caps hf;split at h
   ·rename_i a r hq;obtain ⟨⟨r',s1⟩,h1,h⟩:=Tr.bind_some h;have h1:=(jQ h1).1;simp only at h;split at h
    ·rename_i a' q q2 hl;obtain ⟨res,h2,h⟩:=Tr.bind_some h;have h2:=hC _ _ _ _ h2;split at h
     ·rename_i v s hb;refine zx ?_ hk h;simp only [zB,hf,hq,callN,h1,aN,hl,h2,hb]
     ·cases h
    ·cases h
   ·cases h
  ·cases h
 ·--a literal slice
  split at h
  ·rename_i rows hrows;split at h
   ·rename_i hcl;obtain ⟨⟨rs,s1⟩,h1,h⟩:=Tr.bind_some h;obtain ⟨h1,ht⟩:=gJ h1;cases h;exact ⟨by simp only [zB,hrows,aN,frz,if_pos hcl.1,h1],hk.frame ht,λb hb=>by cases hb⟩
   ·exact fA hk h
  ·cases h
 ·exact fA hk h
theorem jS (hC:oM CT run) (hk:KnOK kn st) {o:KOper} {s:St} {kn':Kn} (h:(gW CT st kn o).run=some (s,kn')):zW run st o=some s/\KnOK kn' s:=by
 have go:∀{kn:Kn},KnOK kn st->((mC CT st kn (o.dst.getD 0) o.op).bind λ(v,s,kn,kb)=>Tr.done (({s with t:=eF s.t o.dst v}:St),pX kn o.dst kb)).run=some (s,kn')->
   (zB run st (o.dst.getD 0) o.op).map (λ(a,st)=>({st with t:=eF st.t o.dst a}:St))=some s/\KnOK kn' s:=fun {kn} hk h=>by
  obtain ⟨⟨v,s1,kn1,kb⟩,h1,h2⟩:=Tr.bind_some h;obtain ⟨e1,e2,e3⟩:=vO hC hk h1;cases h2;exact ⟨by rw [e1];rfl,nV e2 e3⟩
 unfold gW at h;cases hg:o.guard with
 |none=>
  simp only [hg] at h;simp only [zW,hg];exact go hk h
 |some jw=>
  obtain ⟨j,want⟩:=jw;simp only [hg] at h;split at h
  ·rename_i hu;simp only [zW,hg,hu];cases h;exact ⟨rfl,nV hk (λb hb=>by cases hb)⟩
  obtain ⟨v,kn1,h1,h2,h3⟩:=rD hk h;have h1':zE j st.t=some (.c (.p (.b v))):=by
   simp only [St.eval] at h1;cases hq:zE j st.t with
   |none=>rw [hq] at h1;cases h1
   |some a=>rw [hq] at h1;simp only at h1;rw [h1]
  simp only [zW,hg,h1'];split at h3
  ·rename_i e;rw [if_pos e];exact go h2 h3
  ·rename_i e;rw [if_neg e];cases h3;exact ⟨rfl,nV h2 (λb hb=>by cases hb)⟩
theorem lN (hC:oM CT run):∀{l:List KOper} {st:St} {kn:Kn} {s:St} {kn':Kn},KnOK kn st->(oC CT l st kn).run=some (s,kn')->eI run l st=some s/\KnOK kn' s
 | [],st,kn,s,kn',hk,h=>by cases h;exact ⟨rfl,hk⟩
 |o::r,st,kn,s,kn',hk,h=>by
  obtain ⟨⟨s1,kn1⟩,h1,h2⟩:=Tr.bind_some h;obtain ⟨e1,e2⟩:=jS hC hk h1;obtain ⟨e3,e4⟩:=lN hC e2 h2;exact ⟨by simp only [eI,e1,aN,e3],e4⟩
theorem qD (hC:oM CT run):∀{l:List (KOper×List Bool)} {ts:List Tch} {st:St} {kn:Kn} {s:St} {kn':Kn},KnOK kn st->(rJ CT l ts st kn).run=some (s,kn')->mI run l ts st=some s/\KnOK kn' s
 | [],ts,st,kn,s,kn',hk,h=>by cases h;exact ⟨rfl,hk⟩
 |(o,bs)::r,ts,st,kn,s,kn',hk,h=>by
  simp only [rJ] at h;split at h
  ·rename_i hc;obtain ⟨⟨s1,kn1⟩,h1,h2⟩:=Tr.bind_some h;obtain ⟨e1,e2⟩:=jS hC hk h1;obtain ⟨e3,e4⟩:=qD hC e2 h2;exact ⟨by simp only [mI,hc,if_true,e1,aN];exact e3,e4⟩
  ·cases h
theorem qE (hC:oM CT run):∀(c:KCode),yV LT run N c->∀{st:St} {kn:Kn} {e:Ex} {s:St} {kn':Kn},KnOK kn st->(eR CT LT c st kn).run=some (e,s,kn')->aK run N c st=some (e,s)/\KnOK kn' s:=by
 intro c
 induction c with
 |skip=>intro hL st kn e s kn' hk h;cases h;exact ⟨rfl,hk⟩
 |ops l=>
  intro hL st kn e s kn' hk h;obtain ⟨⟨s1,kn1⟩,h1,h2⟩:=Tr.bind_some h;cases h2;obtain ⟨e1,e2⟩:=lN hC hk h1;exact ⟨by simp only [aK,e1,zamW],e2⟩
 |draw l=>
  intro hL st kn e s kn' hk h;obtain ⟨⟨s1,kn1⟩,h1,h2⟩:=Tr.bind_some h;cases h2;obtain ⟨e1,e2⟩:=qD hC hk h1;exact ⟨by simp only [aK,e1,zamW],e2⟩
 |seq a b iha ihb=>
  intro hL st kn e s kn' hk h;obtain ⟨⟨e1,s1,kn1⟩,h1,h2⟩:=Tr.bind_some h;obtain ⟨g1,g2⟩:=iha (λmk keep bM b hm=>hL mk keep bM b (by simp only [bH];exact zamU _ hm)) hk h1;simp only [aK,g1,aN];cases e1 with
  |normal=>exact ihb (λmk keep bM b hm=>hL mk keep bM b (by simp only [bH];exact zamZ _ hm)) g2 h2
  |exit id=>cases h2;exact ⟨rfl,g2⟩
  |ret=>cases h2;exact ⟨rfl,g2⟩
 |cond c a b iha ihb=>
  intro hL st kn e s kn' hk h;obtain ⟨v,kn1,h1,h2,h3⟩:=rD hk h;simp only [aK,h1];cases v
  ·exact ihb (λmk keep bM b hm=>hL mk keep bM b (by simp only [bH];exact zamZ _ hm)) h2 h3
  ·exact iha (λmk keep bM b hm=>hL mk keep bM b (by simp only [bH];exact zamU _ hm)) h2 h3
 |block id c ih=>
  intro hL st kn e s kn' hk h;obtain ⟨⟨e1,s1,kn1⟩,h1,h2⟩:=Tr.bind_some h;cases h2;obtain ⟨g1,g2⟩:=ih (λmk keep bM b hm=>hL mk keep bM b (by simpa only [bH] using hm)) hk h1;exact ⟨by simp only [aK,g1,zamW],g2⟩
 |loop mk keep bM c ih=>
  intro hL st kn e s kn' hk h;obtain ⟨⟨e1,s1⟩,h1,h2⟩:=Tr.bind_some h;cases h2;obtain ⟨s0,g1,rfl⟩:=hL mk keep bM c (by simp [bH]) _ _ _ h1;exact ⟨by simp only [aK,xK,g1,zamW],λn b hn=>by cases hn⟩
 |exit id=>intro hL st kn e s kn' hk h;cases h;exact ⟨rfl,hk⟩
 |ret=>intro hL st kn e s kn' hk h;cases h;exact ⟨rfl,hk⟩
theorem tW:∀{l:List (Bool×List CV)} {st:St} {y:List (Bool×List CV)×St},(Bi st l).run=some y->bM st l=some y
 | [],st,y,h=>by cases h;rfl
 |(g,cs)::r,st,y,h=>by
  obtain ⟨⟨ps,s1⟩,h1,h2⟩:=Tr.bind_some h;obtain ⟨⟨l,s2⟩,h3,h4⟩:=Tr.bind_some h2;cases h4;simp only [bM,(dM h1).1,aN,tW h3,zamW]
theorem vP {kf:KFun} {e:Ex} {st:St} {r:Res} (h:(rK kf e st).run=some r):jX kf e st=some r:=by
 unfold rK at h;unfold jX;split at h
 ·rename_i hc;rw [if_pos hc];split at h
  ·rename_i l hl;obtain ⟨⟨l',s⟩,h1,h2⟩:=Tr.bind_some h;cases h2;simp only [hl,aN,tW h1,zamW]
  ·cases h
 ·rename_i hc;rw [if_neg hc];split at h
  ·rename_i hc2;rw [if_pos hc2];split at h
   ·rename_i r' hr;cases h;exact hr
   ·cases h
  ·cases h
theorem Co {kf:KFun} {args:List AV} {up:List Frame} {q r:Res} (h:(DR kf args up q).run=some r):uH kf args up q=some r:=by
 unfold DR at h;unfold uH;split at h
 ·rename_i hn;rw [if_pos hn];split at h
  ·rcases Tr.ask_some h with ⟨hc,h⟩|⟨_,h⟩
   ·cases h;simp only;rw [if_pos hc]
   ·cases h
  ·cases h
 ·rename_i hn;rw [if_neg hn];exact h
theorem Cp (hC:oM CT run) {kf:KFun} (hL:yV LT run N kf.body) {args:List AV} {up:List Frame} {r:Res} (h:(Ck CT LT kf args up).run=some r):
  args.length=kf.params.length/\((aK run N kf.body ⟨mK args 0,[],up⟩).bind λ(e,st)=>(jX kf e st.low).bind (uH kf args up))=some r:=by
 unfold Ck at h;split at h
 ·rename_i hl;obtain ⟨⟨e,s,kn⟩,h1,h2⟩:=Tr.bind_some h;obtain ⟨g1,_⟩:=qE (N:=N) hC kf.body hL (λn b hn=>by cases hn) h1;obtain ⟨q,h3,h4⟩:=Tr.bind_some h2;exact ⟨hl,by rw [g1];simp only [aN,vP h3];exact Co h4⟩
 ·cases h
end
theorem yX {KP:FuncId->Option KFun} {lib:zo} {n:Nat} {CT:lR} {LT:tP} {f:FuncId} {kf:KFun} (hf:KP f=some kf) (hC:oM CT (fC KP lib n)) (hL:yV LT (fC KP lib n) n kf.body) {args:List AV} {up:List Frame} {r:Res}
  (h:(Ck CT LT kf args up).run=some r):fC KP lib (n+1) f args up=some r:=by
 obtain ⟨h1,h2⟩:=Cp hC hL h;simp only [fC,hf];rw [if_pos h1];exact h2
universe u
inductive Hv where
 |b (x:Bool)
 |i (x:Int)
 |s (x:ByteArray)
 |r (x:List (List PV))
 |n (x:Nat)
inductive LK where
 |b|i|s|r|n
abbrev LK.T:LK->Type
 | .b=>Bool
 | .i=>Int
 | .s=>ByteArray
 | .r=>List (List PV)
 | .n=>Nat
abbrev Tup:List LK->Type
 | []=>Unit
 | [k]=>k.T
 |k::l::r=>k.T×Tup (l::r)
def LK.hv:(k:LK)->k.T->Hv
 | .b,x=> .b x
 | .i,x=> .i x
 | .s,x=> .s x
 | .r,x=> .r x
 | .n,x=> .n x
def LK.un:(k:LK)->Hv->Option k.T
 | .b,.b x=>some x
 | .i,.i x=>some x
 | .s,.s x=>some x
 | .r,.r x=>some x
 | .n,.n x=>some x
 |_,_=>none
def hvs:(ks:List LK)->Tup ks->List Hv
 | [],_=> []
 | [k],x=> [k.hv x]
 |k::l::r,x=>k.hv x.1::hvs (l::r) x.2
def unH:(ks:List LK)->List Hv->Option (Tup ks)
 | [],[]=>some ()
 | [k],[h]=>k.un h
 |k::l::r,h::t=>match k.un h,unH (l::r) t with
  |some x,some y=>some (x,y)
  |_,_=>none
 |_,_=>none
theorem LK.un_hv {k:LK} {h:Hv} {x:k.T} (e:k.un h=some x):k.hv x=h:=by
 cases k<;>cases h<;>simp only [LK.un,reduceCtorEq] at e<;>(cases e;rfl)
theorem mD:∀{ks:List LK} {h:List Hv} {x:Tup ks},unH ks h=some x->hvs ks x=h
 | [],[],x,e=>rfl
 | [],_::_,x,e=>by simp [unH] at e
 | [k],[],x,e=>by simp [unH] at e
 | [k],[h],x,e=>by
  have e:k.un h=some x:=e;show [k.hv x]= [h];rw [LK.un_hv e]
 | [k],_::_::_,x,e=>by simp [unH] at e
 |k::l::r,[],x,e=>by simp [unH] at e
 |k::l::r,h::t,x,e=>by
  simp only [unH] at e;split at e
  ·rename_i y z hy hz;cases e;show k.hv y::hvs (l::r) z=h::t;rw [LK.un_hv hy,mD hz]
  ·cases e
abbrev Cur (R:Type u):List LK->Type u
 | []=>R
 |k::r=>k.T->Cur R r
def unc {R:Type u}:(ks:List LK)->Cur R ks->Tup ks->R
 | [],f,_=>f
 | [_],f,x=>f x
 |_::l::r,f,x=>unc (l::r) (f x.1) x.2
section
variable {α:Type}
def lkL (q:α->List LK):List α->List LK
 | []=> []
 |a::l=>q a++lkL q l
def flL (q:α->List Hv->α×List Hv):List α->List Hv->List α×List Hv
 | [],h=>([],h)
 |a::l,h=>((q a h).1::(flL q l (q a h).2).1,(flL q l (q a h).2).2)
def mtL (q:α->α->Option (List Hv)):List α->List α->Option (List Hv)
 | [],[]=>some []
 |a::r,b::l=>match q a b,mtL q r l with
  |some x,some y=>some (x++y)
  |_,_=>none
 |_,_=>none
def Fyts (m:α->α->Option (List Hv)) (f:α->List Hv->α×List Hv):Prop:=∀a b h r,m a b=some h->f a (h++r)=(b,r)
theorem Fyts.go {m:α->α->Option (List Hv)} {f:α->List Hv->α×List Hv} (q:Fyts m f) {a b:α} {h:List Hv} (r:List Hv) (e:m a b=some h):f a (h++r)=(b,r):=q a b h r e
theorem dF {m:α->α->Option (List Hv)} {f:α->List Hv->α×List Hv} (hq:Fyts m f):Fyts (mtL m) (flL f)
 | [],[],h,r,e=>by cases e;rfl
 |a::l,b::k,h,r,e=>by
  simp only [mtL] at e;split at e
  ·rename_i x y hx hy;cases e;simp only [flL];rw [List.append_assoc,hq.go _ hx,dF hq l k y r hy]
  ·cases e
 | [],_::_,h,r,e=>by simp [mtL] at e
 |_::_,[],h,r,e=>by simp [mtL] at e
end
def PV.lk:PV->List LK
 | .b _=> [.b]
 | .i _ _=> [.i]
 | .s _=> [.s]
 | .ls _=> [.r]
 |_=> []
def PV.fl:PV->List Hv->PV×List Hv
 | .b _,.b x::r=>(.b x,r)
 | .i k _,.i x::r=>(.i k x,r)
 | .s _,.s x::r=>(.s x,r)
 | .ls _,.r x::r=>(.ls x,r)
 |p,r=>(p,r)
def mtP:PV->PV->Option (List Hv)
 | .b _,.b x=>some [.b x]
 | .i k _,.i k' x=>if k=k' then some [.i x] else none
 | .s _,.s x=>some [.s x]
 | .nif,.nif=>some []
 | .ifc,.ifc=>some []
 | .nl,.nl=>some []
 | .op,.op=>some []
 | .np,.np=>some []
 | .ls _,.ls x=>some [.r x]
 |_,_=>none
theorem rM:Fyts mtP PV.fl:=by
 intro a b h r e;cases a<;>cases b<;>simp only [mtP,reduceCtorEq] at e
 case i.i=>
  split at e
  ·rename_i q;cases e;rw [q];rfl
  ·cases e
 all_goals (cases e;rfl)
def Cap.lk:Cap->List LK
 | .p x=>x.lk
 | .rp l=>lkL PV.lk l
 |_=> []
def Cap.fl:Cap->List Hv->Cap×List Hv
 | .p x,h=>(.p (x.fl h).1,(x.fl h).2)
 | .rp l,h=>(.rp (flL PV.fl l h).1,(flL PV.fl l h).2)
 |c,h=>(c,h)
def Bl:Cap->Cap->Option (List Hv)
 | .p a,.p b=>mtP a b
 | .ptr d t g,.ptr d' t' g'=>if d=d'/\t=t'/\g=g' then some [] else none
 | .rp a,.rp b=>mtL mtP a b
 |_,_=>none
theorem Bm:Fyts Bl Cap.fl:=by
 intro a b h r e;cases a<;>cases b<;>simp only [Bl,reduceCtorEq] at e
 ·simp only [Cap.fl];rw [rM.go r e]
 ·split at e
  ·rename_i q;obtain ⟨rfl,rfl,rfl⟩:=q;cases e;rfl
  ·cases e
 ·simp only [Cap.fl];rw [(dF rM).go r e]
def CV.lk:CV->List LK
 | .p x=>x.lk
 | .rp l _=>lkL PV.lk l
 | .own ..=> [.n]
 | .fn _ cs=>lkL Cap.lk cs
 |_=> []
def CV.fl:CV->List Hv->CV×List Hv
 | .p x,h=>(.p (x.fl h).1,(x.fl h).2)
 | .rp l o,h=>(.rp (flL PV.fl l h).1 o,(flL PV.fl l h).2)
 | .own d t g _,.n x::r=>(.own d t g x,r)
 | .fn f cs,h=>(.fn f (flL Cap.fl cs h).1,(flL Cap.fl cs h).2)
 |c,h=>(c,h)
def mtC:CV->CV->Option (List Hv)
 | .p a,.p b=>mtP a b
 | .own d t g _,.own d' t' g' n=>if d=d'/\t=t'/\g=g' then some [.n n] else none
 | .ptr d t g j o,.ptr d' t' g' j' o'=>if d=d'/\t=t'/\g=g'/\j=j'/\o=o' then some [] else none
 | .fn f cs,.fn f' cs'=>if f=f' then mtL Bl cs cs' else none
 | .rp l o,.rp l' o'=>if o=o' then mtL mtP l l' else none
 | .nfn,.nfn=>some []
 | .u,.u=>some []
 |_,_=>none
theorem vQ:Fyts mtC CV.fl:=by
 intro a b h r e;cases a<;>cases b<;>simp only [mtC,reduceCtorEq] at e
 case p.p=>simp only [CV.fl];rw [rM.go r e]
 case rp.rp=>
  split at e
  ·rename_i q;subst q;simp only [CV.fl];rw [(dF rM).go r e]
  ·cases e
 case own.own=>
  split at e
  ·rename_i q;obtain ⟨rfl,rfl,rfl⟩:=q;cases e;rfl
  ·cases e
 case ptr.ptr=>
  split at e
  ·rename_i q;obtain ⟨rfl,rfl,rfl,rfl,rfl⟩:=q;cases e;rfl
  ·cases e
 case fn.fn=>
  split at e
  ·rename_i q;subst q;simp only [CV.fl];rw [(dF Bm).go r e]
  ·cases e
 all_goals (cases e;rfl)
def DU (x:Bool×List CV):List LK:=lkL CV.lk x.2
def Bn (x:Bool×List CV) (h:List Hv):(Bool×List CV)×List Hv:=((x.1,(flL CV.fl x.2 h).1),(flL CV.fl x.2 h).2)
def AV.lk:AV->List LK
 | .c x=>x.lk
 | .agg l=>lkL CV.lk l
 | .tup l=>lkL DU l
def AV.fl:AV->List Hv->AV×List Hv
 | .c x,h=>(.c (x.fl h).1,(x.fl h).2)
 | .agg l,h=>(.agg (flL CV.fl l h).1,(flL CV.fl l h).2)
 | .tup l,h=>(.tup (flL Bn l h).1,(flL Bn l h).2)
def mtA:AV->AV->Option (List Hv)
 | .c a,.c b=>mtC a b
 | .agg a,.agg b=>mtL mtC a b
 |_,_=>none
theorem vR:Fyts mtA AV.fl:=by
 intro a b h r e;cases a<;>cases b<;>simp only [mtA,reduceCtorEq] at e
 ·simp only [AV.fl];rw [vQ.go r e]
 ·simp only [AV.fl];rw [(dF vQ).go r e]
def Dz (x:Nat×AV):List LK:=x.2.lk
def Bo (x:Nat×AV) (h:List Hv):(Nat×AV)×List Hv:=((x.1,(x.2.fl h).1),(x.2.fl h).2)
def DV (a b:Nat×AV):Option (List Hv):=if a.1=b.1 then mtA a.2 b.2 else none
theorem Cq:Fyts DV Bo:=by
 intro a b h r e;obtain ⟨n,a⟩:=a;obtain ⟨m,b⟩:=b;unfold DV at e;split at e
 ·rename_i q;simp only at q e;subst q;simp only [Bo];rw [vR.go r e]
 ·cases e
def BK.lk:BK->List LK
 | .box l=>lkL CV.lk l
 | .row _=> [.r]
 | .deep _ _=> [.r]
 | .dead=> []
def BK.fl:BK->List Hv->BK×List Hv
 | .box l,h=>(.box (flL CV.fl l h).1,(flL CV.fl l h).2)
 | .row _,.r x::r=>(.row x,r)
 | .deep c _,.r x::r=>(.deep c x,r)
 |k,h=>(k,h)
def mtK:BK->BK->Option (List Hv)
 | .box a,.box b=>mtL mtC a b
 | .row _,.row x=>some [.r x]
 | .deep c _,.deep c' x=>if c=c' then some [.r x] else none
 | .dead,.dead=>some []
 |_,_=>none
theorem DW:Fyts mtK BK.fl:=by
 intro a b h r e;cases a<;>cases b<;>simp only [mtK,reduceCtorEq] at e
 case box.box=>simp only [BK.fl];rw [(dF vQ).go r e]
 case deep.deep=>
  split at e
  ·rename_i q;subst q;cases e;rfl
  ·cases e
 all_goals (cases e;rfl)
def Blk.fl (x:Blk) (h:List Hv):Blk×List Hv:=(⟨x.g,x.sz,x.ty,(x.k.fl h).1⟩,(x.k.fl h).2)
def Do (x:Nat×Blk):List LK:=x.2.k.lk
def Bp (x:Nat×Blk) (h:List Hv):(Nat×Blk)×List Hv:=((x.1,(x.2.fl h).1),(x.2.fl h).2)
def Cr (a b:Nat×Blk):Option (List Hv):=if a.1=b.1/\a.2.g=b.2.g/\a.2.sz=b.2.sz/\a.2.ty=b.2.ty then mtK a.2.k b.2.k else none
theorem xL:Fyts Cr Bp:=by
 intro a b h r e;obtain ⟨n,⟨g,sz,ty,k⟩⟩:=a;obtain ⟨n',⟨g',sz',ty',k'⟩⟩:=b;unfold Cr at e;split at e
 ·rename_i q;simp only at q e;obtain ⟨rfl,rfl,rfl,rfl⟩:=q;simp only [Bp,Blk.fl];rw [DW.go r e]
 ·cases e
def DX:Frame->List LK:=lkL Do
def Bs:Frame->List Hv->Frame×List Hv:=flL Bp
def mtF:Frame->Frame->Option (List Hv):=mtL Cr
theorem Bt:Fyts mtF Bs:=dF xL
def St.lk (s:St):List LK:=lkL Dz s.t++(lkL Do s.fr++lkL DX s.up)
def St.fl (s:St) (h:List Hv):St:=⟨(flL Bo s.t h).1,(flL Bp s.fr (flL Bo s.t h).2).1,(flL Bs s.up (flL Bp s.fr (flL Bo s.t h).2).2).1⟩
def mtS (a b:St):Option (List Hv):=match mtL DV a.t b.t,mtL Cr a.fr b.fr,mtL mtF a.up b.up with
 |some x,some y,some z=>some (x++(y++z))
 |_,_,_=>none
theorem DY {a b:St} {h:List Hv} (e:mtS a b=some h):a.fl h=b:=by
 unfold mtS at e;split at e
 ·rename_i x y z hx hy hz;cases e;have h3:=(dF Bt).go [] hz;rw [List.append_nil] at h3;simp only [St.fl];rw [(dF Cq).go _ hx,(dF xL).go _ hy,h3]
 ·cases e
def Res.lk (r:Res):List LK:=r.v.lk++(lkL DX r.up++lkL (λB=>B.k.lk) r.rows)
def Res.fl (r:Res) (h:List Hv):Res:=⟨(r.v.fl h).1,(flL Bs r.up (r.v.fl h).2).1,(flL Blk.fl r.rows (flL Bs r.up (r.v.fl h).2).2).1⟩
abbrev vI:PV:= .i .i64 0
abbrev vB:PV:= .b false
abbrev vS:PV:= .s ⟨#[]⟩
abbrev vL:PV:= .ls []
abbrev qI:CV:= .p vI
abbrev qB:CV:= .p vB
abbrev qS:CV:= .p vS
abbrev qL:CV:= .p vL
abbrev aI:AV:= .c qI
abbrev aB:AV:= .c qB
abbrev aS:AV:= .c qS
abbrev aL:AV:= .c qL
structure Sg where
 f:FuncId
 A:List AV
 U:List Frame
 O:Res
def Sg.ks (s:Sg):List LK:=lkL AV.lk s.A++lkL DX s.U
def Sg.rs (s:Sg):List LK:=s.O.lk
def Sg.Af (s:Sg) (a:Tup s.ks):List AV:=(flL AV.fl s.A (hvs s.ks a)).1
def Sg.Uf (s:Sg) (a:Tup s.ks):List Frame:=(flL Bs s.U (flL AV.fl s.A (hvs s.ks a)).2).1
def Sg.Of (s:Sg) (r:Tup s.rs):Res:=s.O.fl (hvs s.rs r)
def Sg.mt (s:Sg) (ar:List AV) (up:List Frame):Option (Tup s.ks):=match mtL mtA s.A ar,mtL mtF s.U up with
 |some h,some u=>unH s.ks (h++u)
 |_,_=>none
theorem Sg.mt_ok {s:Sg} {ar:List AV} {up:List Frame} {a:Tup s.ks} (e:s.mt ar up=some a):s.Af a=ar/\s.Uf a=up:=by
 unfold Sg.mt at e;split at e
 ·rename_i h u hh hu;have h1:=mD e;have h2:=(dF Bt).go [] hu;rw [List.append_nil] at h2;simp only [Sg.Af,Sg.Uf,h1];rw [(dF vR).go _ hh,h2];exact ⟨rfl,rfl⟩
 ·cases e
def Ok (run:zo) (s:Sg) (F:Cur (Option (Tup s.rs)) s.ks):Prop:=∀a r,unc s.ks F a=some r->run s.f (s.Af a) (s.Uf a)=some (s.Of r)
abbrev ED:=List AV->List Frame->Tr Res
structure Ent (run:zo) where
 f:FuncId
 c:ED->ED
 ok:∀d:ED,(∀ar up r,(d ar up).run=some r->run f ar up=some r)->∀ar up r,(c d ar up).run=some r->run f ar up=some r
def en {run:zo} {s:Sg} {F:Cur (Option (Tup s.rs)) s.ks} (h:Ok run s F):Ent run:=⟨s.f,λd ar up=>match s.mt ar up with
 |some a=> .opt (unc s.ks F a) λr=> .done (s.Of r)
 |none=>d ar up,λd hd ar up r hr=>by
  split at hr
  ·rename_i a ha;obtain ⟨x,h1,h2⟩:=Tr.opt_some hr;cases h2;have h3:=h a x h1;rw [(Sg.mt_ok ha).1,(Sg.mt_ok ha).2] at h3;exact h3
  ·exact hd ar up r hr⟩
def yY {run:zo}:List (Ent run)->lR
 | [],_,_,_=> .fail
 |e::l,f,ar,up=>if e.f=f then e.c (yY l f) ar up else yY l f ar up
theorem mE {run:zo}:∀l:List (Ent run),oM (yY l) run
 | [],f,ar,up,r,h=>by cases h
 |e::l,f,ar,up,r,h=>by
  simp only [yY] at h;split at h
  ·rename_i q;subst q;exact e.ok _ (λar up r h=>mE l e.f ar up r h) ar up r h
  ·exact mE l f ar up r h
theorem oE {KP:FuncId->Option KFun} {lib:zo} {n:Nat} {f:FuncId} {args:List AV} {up:List Frame} {r:Res} (hk:KP f=none) (hl:lib f args up=some r):fC KP lib (n+1) f args up=some r:=by
 simp only [fC,hk,hl]
structure Sg2 where
 f:FuncId
 A:List AV
 O1:AV
 O2:AV
def Sg2.Of (s:Sg2):Tup s.O1.lk⊕Tup s.O2.lk->Res
 | .inl r=>⟨(s.O1.fl (hvs _ r)).1,[],[]⟩
 | .inr r=>⟨(s.O2.fl (hvs _ r)).1,[],[]⟩
def Ok2 (run:zo) (s:Sg2) (F:Cur (Option (Tup s.O1.lk⊕Tup s.O2.lk)) (lkL AV.lk s.A)):Prop:=∀a r,unc _ F a=some r->run s.f (flL AV.fl s.A (hvs _ a)).1 []=some (s.Of r)
def en2 {run:zo} {s:Sg2} {F:Cur (Option (Tup s.O1.lk⊕Tup s.O2.lk)) (lkL AV.lk s.A)} (h:Ok2 run s F):Ent run:=⟨s.f,λd ar up=>match mtL mtA s.A ar,up with
 |some hs,[]=>match unH _ hs with
  |some a=> .opt (unc _ F a) λr=> .alt r (λa=> .done (s.Of (.inl a))) (λb=> .done (s.Of (.inr b)))
  |none=>d ar up
 |_,_=>d ar up,λd hd ar up r hr=>by
  split at hr
  ·rename_i hs hm;split at hr
   ·rename_i a ha;obtain ⟨x,h1,h2⟩:=Tr.opt_some hr;have h3:=h a x h1;have h4:=(dF vR).go [] hm;rw [List.append_nil] at h4;rw [mD ha,h4] at h3;rcases x with x|x
    ·cases h2;exact h3
    ·cases h2;exact h3
   ·exact hd _ _ r hr
  ·exact hd _ _ r hr⟩
def zF {V R:Type} (B:V->Tr (V⊕R)):Nat->V->Option R
 |0,_=>none
 |m+1,v=>match (B v).run with
  |some (.inl v')=>zF B m v'
  |some (.inr r)=>some r
  |none=>none
def Bu {V R:Type} (sk:V->St) (D:R->Ex×St):V⊕R->Tr (Ex×St)
 | .inl v=> .done (.normal,sk v)
 | .inr r=> .done (D r)
def Bv (keep:List Nat) (bM:List (Ex×List Nat)) (p:Ex×St×Kn):Tr (Ex×St):= .done (p.1,p.2.1.norm (if p.1= .normal then keep else kX p.1 bM))
abbrev LD:=Nat×List Nat×List (Ex×List Nat)×KCode
def oF (mk:Nat) (c:KCode):LD:=match (bH c).filter (λx=>x.1==mk) with
 |x::_=>x
 | []=>(mk,[],[],.skip)
abbrev lb (mk:Nat) (c:KCode):KCode:=(oF mk c).2.2.2
theorem qF:∀{l:List LD} {x:LD},fY (l.map (·.1))=true->x∈l->l.filter (λy=>y.1==x.1)= [x]
 | [],x,_,h=>by cases h
 |y::l,x,hn,h=>by
  simp only [zanE,fY,zL,Bool.not_eq_true'] at hn;have hne:∀z∈l,z.1≠y.1:=λz hz e=>by
   have:(l.map (·.1)).contains y.1=true:=List.contains_iff_mem.2 (List.mem_map.2 ⟨z,hz,e⟩);rw [hn.1] at this;cases this
  rcases zamT.1 h with rfl|h
  ·rw [List.filter_cons_of_pos (by simp),List.filter_eq_nil_iff.2 λz hz=>by simpa using hne z hz]
  ·rw [List.filter_cons_of_neg (by simpa using (hne x h).symm)];exact qF hn.2 h
section
variable {CT:lR} {LT:tP} {run:zo} {N:Nat}
theorem tX {V R:Type} {body:KCode} {keep:List Nat} {bM:List (Ex×List Nat)} {sk:V->St} {B:V->Tr (V⊕R)} {D:R->Ex×St} (hC:oM CT run) (hL:yV LT run N body)
  (hT:∀v,(eR CT LT body (sk v) []).bind (Bv keep bM)=(B v).bind (Bu sk D)):
  ∀(m:Nat) (v:V) (r:R),(D r).1≠ .normal->zF B m v=some r->∃s0,lM (aK run N body) keep m (sk v)=some ((D r).1,s0)/\(D r).2=s0.norm (kX (D r).1 bM)
 |0,v,r,hD,h=>by simp [zF] at h
 |m+1,v,r,hD,h=>by
  have key:∀{x:V⊕R} {y:Ex×St},(B v).run=some x->(Bu sk D x).run=some y->∃s kn,aK run N body (sk v)=some (y.1,s)/\y.2=s.norm (if y.1= .normal then keep else kX y.1 bM):=fun {x y} hx hy=>by
   have h1:((B v).bind (Bu sk D)).run=some y:=by rw [Tr.run_bind,hx];exact hy
   rw [<-hT v] at h1;obtain ⟨⟨e,s,kn⟩,h2,h3⟩:=Tr.bind_some h1;cases h3;exact ⟨s,kn,(qE hC body hL (λn b hn=>by cases hn) h2).1,rfl⟩
  simp only [zF] at h;split at h
  ·rename_i v' hv;obtain ⟨s,kn,h1,h2⟩:=key (y:=(.normal,sk v')) hv rfl;obtain ⟨s0,h3,h4⟩:=tX hC hL hT m v' r hD h;simp only [if_true] at h2;refine ⟨s0,?_,h4⟩;simp only [lM,h1,aN];rw [<-h2];exact h3
  ·rename_i r' hr;cases h;obtain ⟨s,kn,h1,h2⟩:=key (y:=D r) hr rfl;rw [if_neg hD] at h2;refine ⟨s,?_,h2⟩;simp only [lM,h1,aN]
  ·cases h
def Dp (run:zo) (N:Nat) (x:LD) (q:St->Tr (Ex×St)):Prop:=
 ∀st e s,(q st).run=some (e,s)->∃s0,lM (aK run N x.2.2.2) x.2.1 N st=some (e,s0)/\s=s0.norm (kX e x.2.2.1)
end
structure LEnt (c:KCode) (run:zo) (N:Nat) where
 key:Nat
 q:St->Tr (Ex×St)
 ok:Dp run N (oF key c) q
def Bw {c:KCode} {run:zo} {N:Nat}:List (LEnt c run N)->tP
 | [],_,_=> .fail
 |e::l,f,st=>if e.key=f then e.q st else Bw l f st
def oG:Nat->KCode->Bool
 |0,c=>(bH c).isEmpty
 |n+1,c=>fY ((bH c).map (·.1))&&(bH c).all λx=>oG n x.2.2.2
abbrev Uniq (c:KCode):Prop:=∃n,oG n c=true
theorem Uniq.nodup {c:KCode} (h:Uniq c):fY ((bH c).map (·.1))=true:=by
 obtain ⟨n,h⟩:=h;cases n with
 |zero=>simp only [oG,List.isEmpty_iff] at h;rw [h];rfl
 |succ n=>simp only [oG,zL] at h;exact h.1
theorem Uniq.pick {c:KCode} (h:Uniq c) (mk:Nat):Uniq (lb mk c):=by
 obtain ⟨n,h⟩:=h;unfold lb oF;split
 ·rename_i x r hx;have hm:x∈bH c:=(List.mem_filter.1 (by rw [hx];exact zamN ..)).1;cases n with
  |zero=>simp only [oG,List.isEmpty_iff] at h;rw [h] at hm;cases hm
  |succ n=>simp only [oG,zL] at h;exact ⟨n,zamK.1 h.2 x hm⟩
 ·exact ⟨0,rfl⟩
theorem rN {c:KCode} {run:zo} {N:Nat} (hu:Uniq c):∀l:List (LEnt c run N),yV (Bw l) run N c
 | [],mk,keep,bM,b,hm,st,e,s,h=>by cases h
 |x::l,mk,keep,bM,b,hm,st,e,s,h=>by
  simp only [Bw] at h;split at h
  ·rename_i q;have h1:oF x.key c=(mk,keep,bM,b):=by
    unfold oF;rw [q,qF hu.nodup hm]
   have h2:=x.ok st e s h;rw [h1] at h2;exact h2
  ·exact rN hu l mk keep bM b hm st e s h
structure Lsk where
 S:St
 X:List (Ex×St)
abbrev RT:List (Ex×St)->Type
 | []=>Empty
 | [x]=>Tup x.2.lk
 |x::y::l=>Tup x.2.lk⊕RT (y::l)
def stf (s:St) (v:Tup s.lk):St:=s.fl (hvs s.lk v)
def Dx:(X:List (Ex×St))->RT X->Ex×St
 | [],r=>nomatch r
 | [x],r=>(x.1,stf x.2 r)
 |x::_::_,.inl r=>(x.1,stf x.2 r)
 |_::y::l,.inr r=>Dx (y::l) r
def dnx (x:Ex×St) (r:Tup x.2.lk):Tr (Ex×St):=match x.1 with
 | .normal=> .fail
 |e=> .done (e,stf x.2 r)
def DTx:(X:List (Ex×St))->RT X->Tr (Ex×St)
 | [],_=> .fail
 | [x],r=>dnx x r
 |x::y::l,r=> .alt r (λa=>dnx x a) (λb=>DTx (y::l) b)
theorem By {x:Ex×St} {r:Tup x.2.lk} {y:Ex×St} (h:(dnx x r).run=some y):y=(x.1,stf x.2 r)/\x.1≠ .normal:=by
 unfold dnx at h;split at h
 ·cases h
 ·rename_i e he;cases h;exact ⟨rfl,λhn=>he hn⟩
theorem Bz:∀{X:List (Ex×St)} {r:RT X} {y:Ex×St},(DTx X r).run=some y->y=Dx X r/\(Dx X r).1≠ .normal
 | [],r,y,h=>nomatch r
 | [x],r,y,h=>By h
 |x::z::l,.inl r,y,h=>By (x:=x) h
 |x::z::l,.inr r,y,h=>Bz (X:=z::l) h
def lq (L:Lsk) (B:Tup L.S.lk->Tr (Tup L.S.lk⊕RT L.X)) (N:Nat) (st:St):Tr (Ex×St):=match mtS L.S st with
 |some hs=>match unH L.S.lk hs with
  |some v=> .opt (zF B N v) (DTx L.X)
  |none=> .fail
 |none=> .fail
theorem Dq {run:zo} {N:Nat} {CT:lR} {LT:tP} {x:LD} {L:Lsk} {B:Tup L.S.lk->Tr (Tup L.S.lk⊕RT L.X)} (hC:oM CT run) (hL:yV LT run N x.2.2.2)
  (hT:∀v,(eR CT LT x.2.2.2 (stf L.S v) []).bind (Bv x.2.1 x.2.2.1)=(B v).bind (Bu (stf L.S) (Dx L.X))):Dp run N x (lq L B N):=by
 intro st e s h;unfold lq at h;split at h
 ·rename_i hs hm;split at h
  ·rename_i v hv;obtain ⟨r,h1,h2⟩:=Tr.opt_some h;obtain ⟨h3,hD⟩:=Bz h2;obtain ⟨s0,h4,h5⟩:=tX hC hL hT N v r hD h1;rw [<-h3] at h4 h5;have e:stf L.S v=st:=by
    unfold stf;rw [mD hv,DY hm]
   rw [e] at h4;exact ⟨s0,h4,h5⟩
  ·cases h
 ·cases h
def kp (P:Program) (h:Hints) (but:List FuncId) (f:FuncId):Option KFun:=if but.contains f then none else match P.funcs[f]? with
 |none=>none
 | some fn => if fn.name == "runtime.NumGoroutine" then none else match lX P h f fn with
  |none=>none
  |some kf=>if bnd (max fn.ntmps kf.params.length) kf.body&&oG 9 kf.body then some kf else none
abbrev kg (P:Program) (h:Hints) (but:List FuncId) (f:FuncId):KFun:=(kp P h but f).getD default
section
variable {P:Program} {h:Hints} {but:List FuncId} {f:FuncId} {kf:KFun}
theorem C1 (e:kp P h but f=some kf):fZ P h f kf/\Uniq kf.body:=by
 unfold kp at e;split at e
 ·cases e
 ·split at e
  ·cases e
  ·rename_i fn hf;split at e
   ·cases e
   ·rename_i hn;split at e
    ·cases e
    ·rename_i k hk;split at e
     ·rename_i hb;cases e;simp only [zL] at hb;exact ⟨⟨fn,hf,by simpa using hn,hk,hb.1⟩,9,hb.2⟩
     ·cases e
theorem DZ (e:(kp P h but f).isSome=true):kp P h but f=some (kg P h but f):=by
 obtain ⟨k,hk⟩:=Option.isSome_iff_exists.1 e;rw [kg,hk];rfl
variable {lib:zo} {n N:Nat}
abbrev kb (P:Program) (h:Hints) (but:List FuncId) (f:FuncId):KCode:=(kg P h but f).body
def lok {c:KCode} {run:zo} (hu:Uniq c) (mk:Nat) (L:Lsk) (B:Tup L.S.lk->Tr (Tup L.S.lk⊕RT L.X)) (l:List (Ent run)) (ls:List (LEnt (lb mk c) run N))
  (ht:∀v,(eR (yY l) (Bw ls) (lb mk c) (stf L.S v) []).bind (Bv (oF mk c).2.1 (oF mk c).2.2.1)=(B v).bind (Bu (stf L.S) (Dx L.X))):LEnt c run N:=
 ⟨mk,lq L B N,Dq (mE l) (rN (hu.pick mk) ls) ht⟩
theorem zd (f:FuncId):Uniq (kb P h but f):=by
 cases e:kp P h but f with
 |none=>rw [kb,kg,e];exact ⟨0,rfl⟩
 |some kf=>rw [kb,kg,e];exact (C1 e).2
theorem ok0 {run:zo} {s:Sg} {F:Cur (Option (Tup s.rs)) s.ks} (h:∀a,unc s.ks F a=none):Ok run s F:=λa r e=>by rw [h a] at e;cases e
theorem stO {s:Sg} {F:Cur (Option (Tup s.rs)) s.ks} {T:Cur (Tr (Tup s.rs)) s.ks} (hk:(kp P h but s.f).isSome=true) (l:List (Ent (fC (kp P h but) lib n))) (ls:List (LEnt (kb P h but s.f) (fC (kp P h but) lib n) n))
  (ht:∀a,Ck (yY l) (Bw ls) (kg P h but s.f) (s.Af a) (s.Uf a)=(unc s.ks T a).bind λr=> .done (s.Of r)) (h1:∀a,unc s.ks F a=(unc s.ks T a).run):Ok (fC (kp P h but) lib (n+1)) s F:=λa r e=>by
 rw [h1 a] at e;exact yX (DZ hk) (mE l) (rN (zd s.f) ls) (by rw [ht a,Tr.run_bind,e];rfl)
theorem stL (q:List AV->Option AV) {s:Sg} {F:Cur (Option (Tup s.rs)) s.ks} (hk:kp P h but s.f=none) (hq:∀xs up,lib s.f xs up=tH q xs up) (hl:∀a r,unc s.ks F a=some r->q (s.Af a)=some (s.Of r).v) (hU:s.U= []) (h1:s.O.up= []) (h2:s.O.rows= []):Ok (fC (kp P h but) lib (n+1)) s F:=λa r e=>by
 have h3:lib s.f (s.Af a) (s.Uf a)=some ⟨(s.Of r).v,s.Uf a,[]⟩:=by rw [hq,tH,hl a r e];rfl
 rw [oE hk h3];simp only [Sg.Uf,Sg.Of,Res.fl,hU,h1,h2,flL]
theorem D1 (q:List AV->Option AV) {s:Sg2} {F:Cur (Option (Tup s.O1.lk⊕Tup s.O2.lk)) (lkL AV.lk s.A)} (hk:kp P h but s.f=none) (hq:∀xs up,lib s.f xs up=tH q xs up) (hl:∀a r,unc _ F a=some r->q (flL AV.fl s.A (hvs _ a)).1=some (s.Of r).v):Ok2 (fC (kp P h but) lib (n+1)) s F:=λa r e=>by
 have h3:lib s.f (flL AV.fl s.A (hvs _ a)).1 []=some ⟨(s.Of r).v,[],[]⟩:=by rw [hq,tH,hl a r e];rfl
 rw [oE hk h3];rcases r with r|r<;>rfl
theorem stN {s:Sg} {F:Cur (Option (Tup s.rs)) s.ks} (hk:kp P h but s.f=none) (hl:∀a r,unc s.ks F a=some r->lib s.f (s.Af a) (s.Uf a)=some (s.Of r)):Ok (fC (kp P h but) lib (n+1)) s F:=λa r e=>oE hk (hl a r e)
end
end Go.Eng
namespace Go.Eng
open Go.RowKit Go.WideShapes
theorem vT {h:Bool×List Sh} {l:List (Bool×List Sh)} {xss:List (List PV)} (o:pW (h::l) xss):∃x r,xss=x::r/\okR h.2 x/\pW l r:=by
 cases xss with
 |nil=>exact o.elim
 |cons x r=>exact ⟨x,r,rfl,o⟩
theorem yZ {xss:List (List PV)} (o:pW [] xss):xss= []:=by
 cases xss with
 |nil=>rfl
 |cons x r=>exact o.elim
theorem tY {h:Sh} {l:List Sh} {xs:List PV} (o:okR (h::l) xs):∃x r,xs=x::r/\okP h x/\okR l r:=by
 cases xs with
 |nil=>simp [okR] at o
 |cons x r=>simp only [okR] at o;exact ⟨x,r,rfl,o⟩
theorem xM {xs:List PV} (o:okR [] xs):xs= []:=by
 cases xs with
 |nil=>rfl
 |cons x r=>simp [okR] at o
theorem Dr {k:IntKind} {x:PV} (o:okP (.i k) x):∃n,x= .i k n/\(Lit.int k n).wf=true:=by
 cases x<;>simp [okP] at o;exact ⟨_,by rw [o.1],o.2⟩
theorem Da {n:Nat} {e:List Sh} {x:PV} (o:okP (.sl n e) x):∃rows,x= .ls rows/\rows.length*n<=140737488351232/\∀r∈rows,okR e r:=by
 cases x<;>simp only [okP] at o;exact ⟨_,rfl,o⟩
section
variable {P:Program} {H:Type} {enc:TypeId×Value->H} {w:World} {sp:Nat->Bool} {base:Nat} {ps:List MemPlace}
theorem iD {w':World}:∀{ts:List TypeId} {vs:List Value} {ds:List (DataW H)} {ps:List MemPlace},
  DataW.TrodAll enc P w base sp true ts vs ds ps->(∀p∈ps,w.sameAt w' p)->DataW.TrodAll enc P w' base sp true ts vs ds ps
 | [],[],[],_,h,_=>h
 |_::_,_::_,_::_,_,⟨p,q,⟨n,h1⟩,h2,e⟩,hs=>
  ⟨p,q,⟨n,DataW.trod_carry n _ _ _ h1 (λx hx=>hs x (by rw [e];exact zamU _ hx))⟩,iD h2 (λx hx=>hs x (by rw [e];exact zamZ _ hx)),e⟩
theorem args_again {w':World} {ts:List TypeId} {vs:List Value} {ds:List (DataW H)} (hl:laidOutB P=true) (hm:mapsRowed P=true)
  (hz:((List.range P.types.size).all λt=>match P.underlying t with|some (.slice e)=>decide (0<P.cellsOf e)|_=>true)=true) (hts:∀t∈ts,t<P.types.size)
  (h:DataW.TrodAll enc P w 0 (λ_=>true) true ts vs ds ps) (hb:Below w.heap.size w w'):DataW.TrodAll enc P w' 0 (λb=>decide (b<w.heap.size)) true ts vs ds ps:=
 iD (h.respare (kids_rows hl hm) (λt e h1 h2=>slices_full_of P hz t e h1 h2) hts (λp hp=>zC (h.lt p hp))) (λp hp=>hb.same (h.lt p hp))
end
end Go.Eng
