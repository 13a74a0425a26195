import Derived.Test.YtilkdjfhbahhdaaE29
set_option linter.unusedVariables false
set_option linter.unusedSimpArgs false
namespace Go.Eng
abbrev zDK:=FuncId→List AV→List Frame→Tr Res
abbrev zGK:=Nat→St→Tr (Ex×St)
def zKb:zg:=fun _ _ _=>none
abbrev OpR:=AV×St×Kn×Option Bool
def zFQ (st:St) (kn:Kn) (dst:Nat) (k:KOp):Tr OpR:=match zC zKb st dst k with
 |some (v,s)=> .done (v,s,kn,none)
 |none=> .fail
def zKc (op:BinOp) (k:IntKind) (lit:Bool) (x y:Int) (done:PV→Tr OpR):Tr OpR:=
 match op with
 | .quo| .rem=>if lit then (match zE4 op k x y with|some r=>done r|none=> .fail) else .ask (decide (y=0)) .fail (match op with| .quo=>done (.i k (k.wrap (x.tdiv y)))|_=>done (.i k (x.tmod y)))
 | .shl| .shr=>if lit then (match zE4 op k x y with|some r=>done r|none=> .fail) else .fail
 |_=>match zE4 op k x y with
  |some r=>done r
  |none=> .fail
def zLC:KX→Bool
 | .k _=>true
 | .t _=>false
def zGw (st:St):AV→Tr (AV×Nat×Nat×Option (Nat×Nat)×Blk)
 | .c (.own d n g m)=>match st.get d n with
  |some ⟨g',sz,ty,.row rows⟩=>if g=g' then .ask (decide (m=rows.length)) (.done (.c (.own 0 0 0 m),d,n,none,⟨0,sz,ty,.row rows⟩)) .fail else .fail
  |some ⟨g',sz,ty,.deep cols rows⟩=>if g=g' then .ask (decide (m=rows.length)) (.done (.c (.own 0 0 0 m),d,n,none,⟨0,sz,ty,.deep cols rows⟩)) .fail else .fail
  |_=> .fail
 | .c (.sub d n g j o m esz)=>(zKM st d n g j o m esz).bind fun q=> .done (.c (.own 0 0 0 m),d,n,some (j,o),⟨0,esz,q.1,.row q.2⟩)
 | .c (.ptr d n g 0 0)=>match st.get d n with
  |some ⟨g',sz,ty,.box cells⟩=>if g=g'∧cells.all isP=true then .done (.c (.ptr 0 0 0 0 0),d,n,none,⟨0,sz,ty,.box cells⟩) else .fail
  |_=> .fail
 |_=> .fail
def zJW:AV→Bool
 | .c (.own ..)| .c (.ptr ..)| .c (.sub ..)=>true
 |_=>false
def zFR (st:St):List AV→Tr (List AV×Nat×Nat×Option (Nat×Nat)×Blk)
 | []=> .fail
 |a::r=>if zJW a=true then (zGw st a).bind fun (a,q)=>match zCD r with
   |some r=> .done (a::r,q)
   |none=> .fail
  else match zCe a with
   |some a=>(zFR st r).bind fun (r,q)=> .done (a::r,q)
   |none=> .fail
def zGL (st:St):AV→Tr (AV×St)
 | .c x=>(zCY st x).bind fun (a,st)=> .done (.c (.p a),st)
 | .agg cs=>(zA9 st cs).bind fun (l,st)=> .done (.agg (l.map .p),st)
 | .tup _=> .fail
def zCx (st:St):List AV→Tr (List AV×St)
 | []=> .done ([],st)
 |x::r=>(zGL st x).bind fun (a,st)=>(zCx st r).bind fun (l,st)=> .done (a::l,st)
theorem zGM {st:St} {a:AV} {y:AV×St} (h:(zGL st a).run=some y):zw st a=some y∧y.2.t=st.t:=by
 cases a with
 |c x=>
  obtain ⟨⟨p,s⟩,h1,h2⟩:=Tr.bind_some h
  cases h2
  obtain ⟨e1,t1⟩:=zDF h1
  exact ⟨by simp only [zw,e1,Option.map_some],t1⟩
 |agg cs=>
  obtain ⟨⟨p,s⟩,h1,h2⟩:=Tr.bind_some h
  cases h2
  obtain ⟨e1,t1⟩:=zAZ h1
  exact ⟨by simp only [zw,e1,Option.map_some],t1⟩
 |tup vs=>cases h
theorem zCa:∀{l:List AV} {st:St} {y:List AV×St},(zCx st l).run=some y→zn st l=some y∧y.2.t=st.t
 | [],st,y,h=>by cases h;exact ⟨rfl,rfl⟩
 |x::r,st,y,h=>by
  obtain ⟨⟨a,st1⟩,h1,h2⟩:=Tr.bind_some h
  obtain ⟨⟨b,st2⟩,h3,h4⟩:=Tr.bind_some h2
  cases h4
  obtain ⟨e1,t1⟩:=zGM h1
  obtain ⟨e2,t2⟩:=zCa h3
  simp only [zn,e1,Option.bind_some,e2,Option.map_some]
  exact ⟨by first|rfl|trivial,t2.trans t1⟩
theorem zKN {st st':St} {q q2:Nat×Nat×Blk} {r:Res} {v:AV} (h:zCz st q q2 r=some (v,st')):st'.t=st.t:=by
 obtain ⟨_,_,_,_,_,_,_,_,_,_,_,_,_,_,_,_,_,_,_,_,_,_,rfl⟩:=zEf h
 rw [zp,zp]
def zBa (st:St):List (List CV)→Tr (List (List PV)×St)
 | []=> .done ([],st)
 |x::r=>(zA9 st x).bind fun (a,st)=>(zBa st r).bind fun (b,st)=> .done (a::b,st)
theorem zBb:∀{l:List (List CV)} {st:St} {y:List (List PV)×St},(zBa st l).run=some y→zW st l=some y∧y.2.t=st.t
 | [],st,y,h=>by cases h;exact ⟨rfl,rfl⟩
 |x::r,st,y,h=>by
  obtain ⟨⟨a,st1⟩,h1,h2⟩:=Tr.bind_some h
  obtain ⟨⟨b,st2⟩,h3,h4⟩:=Tr.bind_some h2
  cases h4
  obtain ⟨e1,t1⟩:=zAZ h1
  obtain ⟨e2,t2⟩:=zBb h3
  simp only [zW,e1,Option.bind_some,e2]
  exact ⟨by first|rfl|trivial,t2.trans t1⟩
def zLD:CV→Bool
 | .own ..=>true
 |_=>false
def nlB (e:List PV) (k:Nat):Bool:=match e[k]? with
 |some .nl=>true
 |_=>false
theorem zJX {e:List PV} {k:Nat} (h:nlB e k=true):e[k]?=some .nl:=by
 unfold nlB at h
 split at h
 ·assumption
 ·cases h
def zGx (st:St) (dst d n:Nat) (q:Option (Nat×Nat)) (B:Blk) (r:Res):Tr (AV×St):=
 match q with
 |none=> .ofOpt (zBQ st dst d n none B r)
 |some (j,o)=>match r.up with
  | [fr']=>match zD 0 fr',st.get d n,B.k with
   |some ⟨0,sz',ty',.row inner'⟩,some ⟨g,sz,ty,.deep cols rows⟩,.row inner=>if ty'=B.ty∧sz'=B.sz∧r.rows.isEmpty=true∧r.v.cvs.all isP=true then
     .opt (rows[j]?) fun e=> .ask (decide (inner'.length=inner.length)) (.done (r.v.map (zt st.up.length dst st.fr),st.set d n ⟨g,sz,ty,.deep cols (rows.set j (e.set o (.ls inner')))⟩)) .fail else .fail
   |_,_,_=> .fail
  |_=> .fail
theorem zIF {st:St} {dst d n:Nat} {q:Option (Nat×Nat)} {B:Blk} {r:Res} {y:AV×St} (h:(zGx st dst d n q B r).run=some y):zBQ st dst d n q B r=some y:=by
 unfold zGx at h
 split at h
 ·exact Tr.ofOpt_some h
 ·rename_i j o
  unfold zBQ
  simp only
  split at h
  ·rename_i fr' hup
   split at h
   ·rename_i sz' ty' inner' g sz ty cols rows inner h1 h2 h3
    split at h
    ·rename_i hc
     obtain ⟨e,he,h⟩:=Tr.opt_some h
     obtain ⟨hl,h⟩:=Tr.ask_yes h
     cases h
     rw [hup]
     simp only [h1,h2,h3,he]
     rw [if_pos ⟨hc.1,hc.2.1,hc.2.2.1,hc.2.2.2,hl⟩]
    ·cases h
   ·cases h
  ·cases h
def zFS (st:St) (d m g sz ty j o:Nat) (cols:List (Nat×Nat×TypeId)) (rows:List (List PV)) (xs:List CV):Tr St:=
 match zGR cols o xs with
 |some (ys,none)=> .opt (rows[j]?) fun e=> .ask (decide (o+ys.length≤e.length)) (.done (st.set d m ⟨g,sz,ty,.deep cols (rows.set j (zA e o ys))⟩)) .fail
 |some (ys,some (k,esz,ety,d2,n2,g2,m2))=>match st.get d2 n2 with
  |some ⟨g2',esz',ety',.row rows2⟩=>if g2=g2'∧esz'=esz∧ety'=ety then .opt (rows[j]?) fun e=> .ask (decide (o+ys.length≤e.length∧m2=rows2.length∧nlB e k=true))
    (.done ((st.set d2 n2 ⟨g2+1,esz,ety,.dead⟩).set d m ⟨g,sz,ty,.deep cols (rows.set j ((zA e o ys).set k (.ls rows2)))⟩)) .fail else .fail
  |_=> .fail
 |none=> .fail
def zLE (st:St):AV→Bool
 | .c (.own d n _ _)=>match st.get d n with|some ⟨_,_,_,.deep _ _⟩=>true|_=>false
 |_=>false
def zJY (st:St) (kn:Kn) (x:AV) (ty sz bytes:Nat) (y:AV):Tr OpR:=match x,y with
 | .c (.own d n g m),.c (.own d2 n2 g2 m2)=>match st.get d n,st.get d2 n2 with
  |some ⟨g',sz',ty',.deep cols rows⟩,some ⟨g2',_,_,.box cells⟩=>
   if g=g'∧sz'=sz∧ty'=ty∧g2=g2'∧m2=1∧cells.length=sz∧0<sz∧0<bytes then match zE5 cols 0 cells with
    |some (ys,none)=> .ask (decide (m=rows.length∧(m+1)*bytes≤140737488355328)) (.done (.c (.own d n (g+1) (m+1)),st.set d n ⟨g+1,sz,ty,.deep cols (rows++ [ys])⟩,kn,none)) .fail
    |some (ys,some (k,esz,ety,d3,n3,g3,m3))=>match st.get d3 n3 with
     |some ⟨g3',esz',ety',.row rows3⟩=>if g3=g3'∧esz'=esz∧ety'=ety then .ask (decide (m=rows.length∧(m+1)*bytes≤140737488355328∧m3=rows3.length))
       (.done (.c (.own d n (g+1) (m+1)),(st.set d3 n3 ⟨g3+1,esz,ety,.dead⟩).set d n ⟨g+1,sz,ty,.deep cols (rows++ [ys.set k (.ls rows3)])⟩,kn,none)) .fail else .fail
     |_=> .fail
    |none=> .fail
   else .fail
  |_,_=> .fail
 |_,_=> .fail
theorem zJZ {st:St} {kn:Kn} {x:AV} {ty sz bytes:Nat} {y:AV} {z:OpR} (h:(zJY st kn x ty sz bytes y).run=some z):∃d n g m v s,x= .c (.own d n g m)∧zEL st d n g m ty sz bytes y=some (v,s)∧st.rows y=none∧(Tr.done ((v,s,kn,none):OpR)).run=some z:=by
 unfold zJY at h
 split at h
 ·rename_i d n g m d2 n2 g2 m2
  split at h
  ·rename_i g' sz' ty' cols rows g2' sz2 ty2 cells hB hY
   have hrow:st.rows (.c (.own d2 n2 g2 m2))=none:=by simp only [St.rows,hY]
   split at h
   ·rename_i hc
    split at h
    ·rename_i ys hq
     obtain ⟨h1,h⟩:=Tr.ask_yes h
     refine ⟨d,n,g,m,_,_,rfl,?_,hrow,h⟩
     simp only [zEL,hB,hY]
     rw [if_pos ⟨hc.1,hc.2.1,hc.2.2.1,hc.2.2.2.1,hc.2.2.2.2.1,hc.2.2.2.2.2.1,hc.2.2.2.2.2.2.1,hc.2.2.2.2.2.2.2,h1.1,h1.2⟩,hq]
     rfl
    ·rename_i ys k esz ety d3 n3 g3 m3 hq
     split at h
     ·rename_i g3' esz' ety' rows3 hR
      split at h
      ·rename_i hc3
       obtain ⟨h1,h⟩:=Tr.ask_yes h
       refine ⟨d,n,g,m,_,_,rfl,?_,hrow,h⟩
       simp only [zEL,hB,hY]
       rw [if_pos ⟨hc.1,hc.2.1,hc.2.2.1,hc.2.2.2.1,hc.2.2.2.2.1,hc.2.2.2.2.2.1,hc.2.2.2.2.2.2.1,hc.2.2.2.2.2.2.2,h1.1,h1.2.1⟩,hq]
       simp only [Option.bind_some,hR]
       rw [if_pos ⟨hc3.1,hc3.2.1,hc3.2.2,h1.2.2⟩]
      ·cases h
     ·cases h
    ·cases h
   ·cases h
  ·cases h
 ·cases h
def zDT (CT:zDK) (st:St) (kn:Kn) (dst:Nat):KOp→Tr OpR
 | .mv x=> .done (st.eval x,st,kn,knX kn x)
 | .pick c a b=>zJU st kn c fun v st kn=>match v with
  |true=> .done (st.eval a,st,kn,knX kn a)
  |false=> .done (st.eval b,st,kn,knX kn b)
 | .un op x=>match op,st.eval x with
  | .not,.c (.p (.b v))=> .done (.c (.p (.b (!v))),st,kn,(knX kn x).map (!·))
  |_,_=>zFQ st kn dst (.un op x)
 | .bin op x y=>match st.eval x,st.eval y with
  | .c (.p (.i k a)),.c (.p (.i k' b))=>if k=k' then zKc op k (zLC y) a b (fun r=> .done (.c (.p r),st,kn,none)) else .fail
  | .c (.p (.s a)),.c (.p (.s b))=>match op with
   | .add=> .ask (decide (a.size+b.size≤9223372036854775807)) (.done (.c (.p (.s (a++b))),st,kn,none)) .fail
   |op=>match zIL op a b with
    |some r=> .done (.c (.p r),st,kn,none)
    |none=> .fail
  |_,_=> .fail
 | .load g n ks a=>match st.eval a with
  | .c (.rp e o)=>if ks.length=n∧0<n then (zCu e o ks).bind fun cs=>match zBO g cs with
    |some v=> .done (v,st,kn,none)
    |none=> .fail
   else .fail
  | .c (.ptr d m gg j o)=>match st.get d m with
   |some ⟨g',_,_,.row rows⟩=>if gg=g'∧ks.length=n∧0<n∧o≠KO then .opt (rows[j]?) fun e=>(zCu e o ks).bind fun cs=>match zBO g cs with
     |some v=> .done (v,st,kn,none)
     |none=> .fail
    else .fail
   |some ⟨g',_,_,.deep cols rows⟩=>if gg=g'∧ks.length=n∧0<n∧o≠KO then .opt (rows[j]?) fun e=>(zGG d m gg j cols e o ks).bind fun cs=>match zBO g cs with
     |some v=> .done (v,st,kn,none)
     |none=> .fail
    else .fail
   |_=>zFQ st kn dst (.load g n ks a)
  |_=> .fail
 | .store n a x=>match st.eval a,st.eval x with
  | .c (.ptr d m gg j o),v=>match st.get d m,v with
   |some ⟨_,_,_,.row _⟩,.tup _=> .fail
   |some ⟨_,_,_,.row _⟩,v=>if v.cvs.length=n∧v.cvs.all (·.known)=true then
     (zA9 st v.cvs).bind fun (ys,st)=>match st.get d m with
      |some ⟨g',sz,ty,.row rows⟩=>if gg=g'∧o≠KO then .opt (rows[j]?) fun e=> .ask (decide (o+ys.length≤e.length)) (.done (.c .u,st.set d m ⟨g',sz,ty,.row (rows.set j (zA e o ys))⟩,kn,none)) .fail else .fail
      |_=> .fail
    else .fail
   |some ⟨_,_,_,.deep _ _⟩,.tup _=> .fail
   |some ⟨g',sz,ty,.deep cols rows⟩,v=>if v.cvs.length=n∧v.cvs.all (·.known)=true∧gg=g'∧o≠KO then
     (zFS st d m g' sz ty j o cols rows v.cvs).bind fun s=> .done (.c .u,s,kn,none) else .fail
   |_,_=>zFQ st kn dst (.store n a x)
  |_,_=> .fail
 | .index x i=>match st.eval x,st.eval i with
  | .c (.p (.s s)),.c (.p (.i .i64 i))=> .ask (decide (0≤i)) (.opt (s.toList[i.toNat]?) fun c=> .done (.c (.p (.i .u8 c.toNat)),st,kn,none)) .fail
  |_,_=> .fail
 | .iaddr sz x i=>match st.eval x,st.eval i with
  | .c (.p (.ls rows)),.c (.p (.i .i64 z))=> .ask (decide (0≤z∧z<rows.length)) (.opt (rows[z.toNat]?) fun e=> .ask (decide (e.length=sz)) (.done (.c (.rp e 0),st,kn,none)) .fail) .fail
  | .c (.own d n g m),.c (.p (.i .i64 z))=>match st.get d n with
   |some ⟨g',sz',_,.row rows⟩=>if g=g'∧sz'=sz then .ask (decide (m=rows.length∧0≤z∧z<m)) (.done (.c (.ptr d n g z.toNat 0),st,kn,none)) .fail else .fail
   |some ⟨g',sz',_,.deep _ rows⟩=>if g=g'∧sz'=sz then .ask (decide (m=rows.length∧0≤z∧z<m)) (.done (.c (.ptr d n g z.toNat 0),st,kn,none)) .fail else .fail
   |_=>zFQ st kn dst (.iaddr sz x i)
  |_,_=> .fail
 | .slcS x lo hi=>match st.eval x,st.bound 0 lo with
  | .c (.p (.s s)),some l=>match st.bound s.size hi with
   |some h=> .ask (decide (0≤l∧l≤h∧h≤s.size)) (.done (.c (.p (.s (s.extract l.toNat h.toNat))),st,kn,none)) .fail
   |none=> .fail
  |_,_=> .fail
 | .slc sz x lo hi=>match st.eval x,st.bound 0 lo with
  | .c (.p (.ls rows)),some l=>match st.bound rows.length hi with
   |some h=> .ask (decide (0≤l∧l≤h∧h≤rows.length∧rows.all (fun e=>e.length==sz)=true)) (.done (.c (.p (.ls ((rows.take h.toNat).drop l.toNat))),st,kn,none)) .fail
   |none=> .fail
  |_,_=> .fail
 | .toStr x=>(zHd st (st.eval x)).bind fun rows=> .opt (bytesOf rows) fun l=> .done (.c (.p (.s ⟨l.toArray⟩)),st,kn,none)
 | .app ty sz bytes x y=>if zLE st (st.eval x)=true then zJY st kn (st.eval x) ty sz bytes (st.eval y) else (zHd st (st.eval y)).bind fun ys=>match st.eval x with
  | .c (.p .nl)=> .ask (decide (0<sz∧0<bytes∧ys.length*bytes≤140737488355328∧ys.all (fun e=>e.length==sz)=true))
    (.done (.c (.own st.up.length (dst*64) (st.fresh (dst*64)) ys.length),(st.new (dst*64) sz ty (.row ys)).2,kn,none)) .fail
  | .c (.own d n g m)=>match st.get d n with
   |some ⟨g',sz',ty',.row rows⟩=>if g=g'∧sz'=sz∧ty'=ty then .ask (decide (m=rows.length∧0<sz∧0<bytes∧(m+ys.length)*bytes≤140737488355328∧ys.all (fun e=>e.length==sz)=true))
     (.done (.c (.own d n (g+1) (m+ys.length)),st.set d n ⟨g+1,sz,ty,.row (rows++ys)⟩,kn,none)) .fail else .fail
   |_=> .fail
  |_=> .fail
 | .mksl ty sz bytes cols zero l c=>match st.eval l,st.eval c with
  | .c (.p (.i .i64 l)),.c (.p (.i .i64 c))=>if zero.length=sz∧zIM cols zero=true then .ask (decide (0≤l∧l=c∧bytes*l≤140737488355328∧l≤9223372036854775807))
    (.done (.c (.own st.up.length (dst*64) (st.fresh (dst*64)) l.toNat),(st.new (dst*64) sz ty (zDX cols (zAJ zero l.toNat))).2,kn,none)) .fail else .fail
  |_,_=> .fail
 | .call true f args=>match st.eval f with
  | .c (.fn f caps)=>(zFP st (args.map st.eval++caps.map Cap.av)).bind fun (as,lent)=>(CT f as []).bind fun r=>if zCf r=true then
    (if lent=false then .done (r.v.map (zt st.up.length dst st.fr),{st with fr:=zm dst r.rows 0 st.fr},kn,none) else .ask (zu r) (.done (r.v.map (zt st.up.length dst st.fr),{st with fr:=zm dst r.rows 0 st.fr},kn,none)) .fail) else .fail
  |_=> .fail
 | .call false f args=>match st.eval f with
  | .c (.fn f caps)=>(zFR st (args.map st.eval++caps.map Cap.av)).bind fun (as,d,n,q,B)=>(CT f as [[(0,B)]]).bind fun r=>(zGx st dst d n q B r).bind fun (v,s)=> .done (v,s,kn,none)
  |_=> .fail
 | .callN f args=>match st.eval f with
  | .c (.fn f caps)=>match args.map st.eval++caps.map Cap.av with
   |a::r=>(zCx st r).bind fun (r,st)=>match zCE st a with
    |some (a,q,q2)=>(CT f (a::r) [[(0,q.2.2),(1,q2.2.2)]]).bind fun res=>match zCz st q q2 res with
     |some (v,s)=> .done (v,s,kn,none)
     |none=> .fail
    |none=> .fail
   | []=> .fail
  |_=> .fail
 | .bslice ty sz len cols zero parts=>match zAE ((List.replicate len zero).map (·.map .p)) sz (parts.map fun (j,x)=>(j,st.eval x)) with
  |some rows=>if (cols.isEmpty=true∨len=0)∧rows.any (·.any zLD)=true then (zBa st rows).bind fun (rs,st)=> .done (.c (.own st.up.length (dst*64) (st.fresh (dst*64)) len),(st.new (dst*64) sz ty (bsK cols len rs)).2,kn,none) else zFQ st kn dst (.bslice ty sz len cols zero parts)
  |none=> .fail
 |k=>zFQ st kn dst k
def zBl (CT:zDK) (st:St) (kn:Kn) (o:KOper):Tr (St×Kn):=
 let go:St→Kn→Tr (St×Kn):=fun st kn=>(zDT CT st kn (o.dst.getD 0) o.op).bind fun (v,s,kn,kb)=> .done ({s with t:=zAp s.t o.dst v},zEw kn o.dst kb)
 match o.guard with
 |none=>go st kn
 |some (j,want)=>match zD j st.t with
  |some (.tup [])=> .done ({st with t:=zAp st.t o.dst (.tup [])},zEw kn o.dst none)
  |_=>zJU st kn (.t j) fun v st kn=>if v=want then go st kn else .done ({st with t:=zAp st.t o.dst (.tup [])},zEw kn o.dst none)
def zEH (CT:zDK):List KOper→St→Kn→Tr (St×Kn)
 | [],st,kn=> .done (st,kn)
 |o::r,st,kn=>(zBl CT st kn o).bind fun (st,kn)=>zEH CT r st kn
def zFT (CT:zDK):List (KOper×List Bool)→List Tch→St→Kn→Tr (St×Kn)
 | [],_,st,kn=> .done (st,kn)
 |(o,bs)::r,ts,st,kn=>if zIN bs ts (tch st o)=true then (zBl CT st kn o).bind fun p=>zFT CT r (tch st o::ts) p.1 p.2 else .fail
def zA1 (CT:zDK) (LT:zGK):KCode→St→Kn→Tr (Ex×St×Kn)
 | .skip,st,kn=> .done (.normal,st,kn)
 | .ops l,st,kn=>(zEH CT l st kn).bind fun (st,kn)=> .done (.normal,st,kn)
 | .draw l,st,kn=>(zFT CT l [] st kn).bind fun (st,kn)=> .done (.normal,st,kn)
 | .seq a b,st,kn=>(zA1 CT LT a st kn).bind fun (e,st,kn)=>match e with
  | .normal=>zA1 CT LT b st kn
  |e=> .done (e,st,kn)
 | .cond c a b,st,kn=>zJU st kn c fun v st kn=>match v with
  |true=>zA1 CT LT a st kn
  |false=>zA1 CT LT b st kn
 | .block id c,st,kn=>(zA1 CT LT c st kn).bind fun (e,st,kn)=> .done (if e= .exit id then .normal else e,st,kn)
 | .loop mk keep z0 c,st,kn=>(LT mk (st.norm keep)).bind fun (e,s)=> .done (e,s,[])
 | .exit id,st,kn=> .done (.exit id,st,kn)
 | .ret,st,kn=> .done (.ret,st,kn)
def zJa (st:St):List (Bool×List CV)→Tr (List (Bool×List CV)×St)
 | []=> .done ([],st)
 |(g,cs)::r=>(zA9 st cs).bind fun (ps,st)=>(zJa st r).bind fun (l,st')=> .done ((g,ps.map CV.p)::l,st')
def zFU (kf:KFun) (e:Ex) (st:St):Tr Res:=
 if (e= .normal∨e= .ret)∧kf.frozen=true then match zBM st kf.results with
  |some l=>(zJa st l).bind fun (l,st)=> .done ⟨z9 l,st.up,[]⟩
  |none=> .fail
 else if e= .normal∨e= .ret then match (zBM st kf.results).bind (zGV st) with
  |some r=> .done r
  |none=> .fail
 else .fail
def zKx (kf:KFun) (args:List AV) (up:List Frame) (r:Res):Tr Res:=
 if kf.nil1=true then match args,up with
  | [.c (.p (.ls rows))],[]=> .ask (!rows.isEmpty||zBw r) (.done r) .fail
  |_,_=> .fail
 else .done r
def zKO (CT:zDK) (LT:zGK) (kf:KFun) (args:List AV) (up:List Frame):Tr Res:=
 if args.length=kf.params.length then (zA1 CT LT kf.body ⟨zDa args 0,[],up⟩ []).bind fun (e,st,_)=>(zFU kf e st.low).bind (zKx kf args up) else .fail
def zEN (CT:zDK) (run:zg):Prop:=∀f args up r,(CT f args up).run=some r→run f args up=some r
def zy:KCode→List (Nat×List Nat×List (Ex×List Nat)×KCode)
 | .seq a b| .cond _ a b=>zy a++zy b
 | .block _ c=>zy c
 | .loop mk keep z0 c=> [(mk,keep,z0,c)]
 |_=> []
def zDG (body:St→Option (Ex×St)) (keep:List Nat):Nat→St→Option (Ex×St)
 |0,_=>none
 |m+1,st=>(body st).bind fun (e,s)=>match e with
  | .normal=>zDG body keep m (s.norm keep)
  |e=>some (e,s)
theorem zHe (body:St→Option (Ex×St)) (keep:List Nat):∀(m:Nat) (st:St),zGU body keep m st=zDG body keep m (st.norm keep)
 |0,st=>rfl
 |m+1,st=>by
  simp only [zGU,zDG]
  congr 1
  funext p
  obtain ⟨e,s⟩:=p
  cases e with
  |normal=>exact zHe body keep m s
  |_=>rfl
def zIG (LT:zGK) (run:zg) (N:Nat) (c:KCode):Prop:=
 ∀mk keep z0 b,(mk,keep,z0,b)∈zy c→∀st e s,(LT mk st).run=some (e,s)→∃s0,zDG (zh run N b) keep N st=some (e,s0)∧s=s0.norm (zC2 e z0)
section
variable {CT:zDK} {LT:zGK} {run:zg} {N:Nat} {st:St} {kn:Kn}
theorem zKP {dst:Nat} {k:KOp} {v:AV} {s:St} {kn':Kn} {kb:Option Bool} (hk:KnOK kn st) (h:(zFQ st kn dst k).run=some (v,s,kn',kb)) (hst:∀{v s},zC zKb st dst k=some (v,s)→s.t=st.t):
  zC run st dst k=some (v,s)∧s.t=st.t∧KnOK kn' s∧∀b,kb=some b→v= .c (.p (.b b)):=by
 unfold zFQ at h
 split at h
 ·rename_i v' s' he
  cases h
  have ht:=hst he
  exact ⟨zGF (fun f a u r h=>by cases h) he,ht,hk.frame ht,fun b hb=>by cases hb⟩
 ·cases h
theorem zEz {c:CV} {st:St} {y:PV×St} (h:zAB st c=some y):y.2.t=st.t:=by
 unfold zAB at h
 split at h
 ·cases h;rfl
 ·split at h
  ·split at h
   ·cases h;exact zp _ _ _ _
   ·cases h
  ·cases h
 ·cases h
theorem zBm:∀{l:List CV} {st:St} {y:List PV×St},zj st l=some y→y.2.t=st.t
 | [],st,y,h=>by cases h;rfl
 |x::r,st,y,h=>by
  simp only [zj,Option.bind_eq_some_iff,Option.some.injEq] at h
  obtain ⟨⟨a,s1⟩,h1,⟨b,s2⟩,h2,rfl⟩:=h
  exact (zBm h2).trans (zEz h1)
theorem zCb:∀{l:List (List CV)} {st:St} {y:List (List PV)×St},zW st l=some y→y.2.t=st.t
 | [],st,y,h=>by cases h;rfl
 |x::r,st,y,h=>by
  simp only [zW,Option.bind_eq_some_iff,Option.some.injEq] at h
  obtain ⟨⟨a,s1⟩,h1,⟨b,s2⟩,h2,rfl⟩:=h
  exact (zCb h2).trans (zBm h1)
theorem zEI:∀{l:List AV} {st:St} {y:List AV×St},zn st l=some y→y.2.t=st.t
 | [],st,y,h=>by cases h;rfl
 |x::r,st,y,h=>by
  simp only [zn,Option.bind_eq_some_iff,Option.map_eq_some_iff] at h
  obtain ⟨⟨a,s1⟩,h1,⟨b,s2⟩,h2,rfl⟩:=h
  refine (zEI h2).trans ?_
  cases x with
  |c x=>
   simp only [zw,Option.map_eq_some_iff,Prod.mk.injEq,Prod.exists] at h1
   obtain ⟨p,s,h3,_,rfl⟩:=h1
   exact zEz h3
  |agg cs=>
   simp only [zw,Option.map_eq_some_iff,Prod.mk.injEq,Prod.exists] at h1
   obtain ⟨p,s,h3,_,rfl⟩:=h1
   exact zBm h3
  |tup vs=>cases h1
theorem zKQ {st:St} {dst d n:Nat} {q:Option (Nat×Nat)} {B:Blk} {r:Res} {v:AV} {s:St} (h:zBQ st dst d n q B r=some (v,s)):s.t=st.t:=by
 unfold zBQ at h
 split at h
 ·split at h
  ·split at h
   ·split at h
    ·split at h
     ·cases h;exact zp _ _ _ _
     ·cases h
    ·cases h
   ·cases h
  ·cases h
 ·split at h
  ·split at h
   ·split at h
    ·cases h;exact zp _ _ _ _
    ·cases h
   ·cases h
  ·cases h
theorem zFV {a:AV} {xs:List CV} {s:St} (h:st.write a xs=some s):s.t=st.t:=by
 unfold St.write at h
 split at h
 ·split at h
  ·split at h
   ·cases h;exact zp _ _ _ _
   ·cases h
  ·simp only [Option.bind_eq_some_iff] at h
   obtain ⟨⟨ys,s1⟩,h1,h⟩:=h
   have ht:=zBm h1
   simp only at h ht
   split at h
   ·split at h
    ·split at h
     ·split at h
      ·cases h;exact (zp _ _ _ _).trans ht
      ·cases h
     ·cases h
    ·cases h
   ·cases h
  ·obtain ⟨⟨ys,q⟩,_,h⟩:=Option.bind_eq_some_iff.1 h
   simp only at h
   split at h
   ·split at h
    ·split at h
     ·split at h
      ·cases h;exact zp _ _ _ _
      ·split at h
       ·split at h
        ·cases h;rw [zp,zp]
        ·cases h
       ·cases h
     ·cases h
    ·cases h
   ·cases h
  ·cases h
 ·cases h
theorem zBn {base:Nat}:∀(l:List (Nat×TypeId×Nat)) (i:Nat) (cs:List CV) (st:St),(zO base l i cs st).2.t=st.t
 | [],_,_,_=>rfl
 |(col,ty,sz)::r,i,cs,st=>by
  unfold zO
  split
  ·exact zBn r (i+1) _ _
  ·exact zBn r (i+1) cs st
theorem zGN {dst:Nat} {k:KOp} {v:AV} {s:St} (h:zC run st dst k=some (v,s)):s.t=st.t:=by
 cases k<;>simp only [zC] at h
 case nil=>cases h;rfl
 case mv=>cases h;rfl
 case mvR=>
  split at h
  ·split at h
   ·split at h
    ·split at h
     ·cases h;exact zp _ _ _ _
     ·cases h
    ·cases h
   ·cases h;rfl
  ·cases h;rfl
 case rel=>
  split at h
  ·split at h<;>cases h;rfl
  ·cases h
 case pick=>split at h<;>cases h;rfl
 case box=>
  split at h
  ·cases h
  ·split at h
   ·cases h;rfl
   ·cases h
 case build=>
  obtain ⟨cs,_,h⟩:=Option.map_eq_some_iff.1 h
  cases h;rfl
 case bslice=>
  obtain ⟨rows,_,h⟩:=Option.bind_eq_some_iff.1 h
  split at h
  ·rename_i rs s1 hf
   cases h
   unfold frz at hf
   split at hf
   ·exact zCb hf
   ·cases hf
  ·split at h
   ·cases h;rfl
   ·cases h
 case load=>
  obtain ⟨cs,_,h⟩:=Option.bind_eq_some_iff.1 h
  obtain ⟨v',_,h⟩:=Option.map_eq_some_iff.1 h
  cases h;rfl
 case store=>
  split at h
  ·cases h
  ·split at h
   ·obtain ⟨s',h1,h⟩:=Option.map_eq_some_iff.1 h
    cases h
    exact zFV h1
   ·cases h
 case storeN=>
  split at h
  ·cases h
  ·split at h
   ·obtain ⟨s',h1,h⟩:=Option.map_eq_some_iff.1 h
    cases h
    exact (zFV h1).trans (zBn _ _ _ _)
   ·cases h
 case chk=>
  split at h
  ·split at h<;>cases h;rfl
  ·cases h;rfl
  ·cases h;rfl
  ·cases h
 case bin=>
  split at h
  ·obtain ⟨_,_,h⟩:=Option.map_eq_some_iff.1 h;cases h;rfl
  ·cases h
 case eqs=>
  split at h
  ·obtain ⟨_,_,h⟩:=Option.map_eq_some_iff.1 h;cases h;rfl
  ·cases h
 case beq=>split at h<;>cases h;rfl
 case inil=>split at h<;>cases h<;>rfl
 case un=>
  split at h
  ·obtain ⟨_,_,h⟩:=Option.map_eq_some_iff.1 h;cases h;rfl
  ·cases h
 case conv=>split at h<;>cases h;rfl
 case str=>split at h<;>cases h;rfl
 case toStr=>
  obtain ⟨_,_,h⟩:=Option.bind_eq_some_iff.1 h
  obtain ⟨_,_,h⟩:=Option.map_eq_some_iff.1 h;cases h;rfl
 case mkfn=>obtain ⟨_,_,h⟩:=Option.map_eq_some_iff.1 h;cases h;rfl
 case mksl=>
  obtain ⟨_,_,h⟩:=Option.bind_eq_some_iff.1 h
  obtain ⟨_,_,h⟩:=Option.bind_eq_some_iff.1 h
  split at h<;>cases h;rfl
 case slcS=>
  split at h
  ·obtain ⟨_,_,h⟩:=Option.bind_eq_some_iff.1 h
   obtain ⟨_,_,h⟩:=Option.bind_eq_some_iff.1 h
   split at h<;>cases h;rfl
  ·cases h
 case slc=>
  split at h
  ·obtain ⟨_,_,h⟩:=Option.bind_eq_some_iff.1 h
   obtain ⟨_,_,h⟩:=Option.bind_eq_some_iff.1 h
   split at h<;>cases h;rfl
  ·cases h
 case faddr=>
  split at h
  ·split at h<;>cases h;rfl
  ·cases h;rfl
  ·cases h
 case field=>
  split at h
  ·split at h
   ·obtain ⟨_,_,h⟩:=Option.map_eq_some_iff.1 h;cases h;rfl
   ·cases h
  ·cases h
 case iaddr=>
  obtain ⟨i,_,h⟩:=Option.bind_eq_some_iff.1 h
  split at h
  ·split at h
   ·split at h
    ·split at h<;>cases h;rfl
    ·cases h
   ·cases h
  ·split at h
   ·split at h<;>cases h;rfl
   ·split at h<;>cases h;rfl
   ·split at h<;>cases h;rfl
   ·cases h
  ·cases h
 case index=>
  obtain ⟨i,_,h⟩:=Option.bind_eq_some_iff.1 h
  split at h
  ·split at h
   ·split at h<;>cases h;rfl
   ·cases h
  ·cases h
 case ext=>
  split at h
  ·split at h
   ·obtain ⟨_,_,h⟩:=Option.map_eq_some_iff.1 h;cases h;rfl
   ·cases h
  ·cases h
 case app=>
  split at h
  ·split at h<;>cases h;rfl
  ·split at h
   ·split at h
    ·cases h;exact zp _ _ _ _
    ·cases h
   ·cases h
  ·unfold zEL at h
   split at h
   ·split at h
    ·split at h
     ·obtain ⟨⟨ys,q⟩,_,h⟩:=Option.bind_eq_some_iff.1 h
      cases q with
      |none=>simp only at h;cases h;exact zp _ _ _ _
      |some t=>
       obtain ⟨k,esz,ety,d3,n3,g3,m3⟩:=t
       simp only at h
       split at h
       ·split at h
        ·cases h;rw [zp,zp]
        ·cases h
       ·cases h
     ·cases h
    ·cases h
   ·cases h
  ·cases h
 case boxN=>
  split at h
  ·cases h
  ·split at h
   ·cases h;rfl
   ·cases h
 case storeB=>
  split at h
  ·obtain ⟨s',h1,h⟩:=Option.map_eq_some_iff.1 h
   cases h
   exact (zFV h1).trans (zBn _ _ _ _)
  ·cases h
 case callN f args=>
  split at h
  ·cases hq:args.map st.eval++(List.map Cap.av ‹_›) with
   |nil=>rw [hq] at h;cases h
   |cons a0 r=>
    rw [hq] at h
    simp only [callN] at h
    obtain ⟨⟨r',s1⟩,h1,h⟩:=Option.bind_eq_some_iff.1 h
    obtain ⟨⟨a',q,q2⟩,h2,h⟩:=Option.bind_eq_some_iff.1 h
    obtain ⟨res,h3,h⟩:=Option.bind_eq_some_iff.1 h
    exact (zKN h).trans (zEI h1)
  ·cases h
 case len s x=>
  cases s
  ·simp only [zC] at h
   split at h
   ·cases h;rfl
   ·cases h;rfl
   ·split at h<;>cases h;rfl
   ·split at h<;>cases h;rfl
   ·cases h
  ·simp only [zC] at h
   split at h<;>cases h;rfl
 case mm=>obtain ⟨_,_,h⟩:=Option.map_eq_some_iff.1 h;cases h;rfl
 case call bo f args=>
  split at h
  ·unfold zAi at h
   split at h
   ·obtain ⟨⟨as,l⟩,_,h⟩:=Option.bind_eq_some_iff.1 h
    obtain ⟨r,_,h⟩:=Option.bind_eq_some_iff.1 h
    split at h<;>cases h;rfl
   ·obtain ⟨⟨ar,d,n,q,B⟩,_,h⟩:=Option.bind_eq_some_iff.1 h
    obtain ⟨r,_,h⟩:=Option.bind_eq_some_iff.1 h
    exact zKQ h
  ·cases h
def zJb (run:zg) (st:St) (dst:Nat) (k:KOp) (x:OpR):Prop:=zC run st dst k=some (x.1,x.2.1)∧KnOK x.2.2.1 x.2.1∧∀b,x.2.2.2=some b→x.1= .c (.p (.b b))
theorem zBA {dst:Nat} {k:KOp} {x:OpR} (hk:KnOK kn st) (h:(zFQ st kn dst k).run=some x):zJb run st dst k x:=by
 obtain ⟨v,s,kn',kb⟩:=x
 obtain ⟨h1,h2,h3,h4⟩:=zKP (run:=run) hk h (fun h=>zGN h)
 exact ⟨h1,h3,h4⟩
theorem zBo {dst:Nat} {k:KOp} {v:AV} {kn':Kn} {kb:Option Bool} {x:OpR} (he:zC run st dst k=some (v,st)) (hk:KnOK kn' st) (hb:∀b,kb=some b→v= .c (.p (.b b))) (h:(Tr.done (v,st,kn',kb)).run=some x):zJb run st dst k x:=by
 cases h
 exact ⟨he,hk,hb⟩
theorem zb {dst:Nat} {k:KOp} {v:AV} {s:St} {x:OpR} (he:zC run st dst k=some (v,s)) (hk:KnOK kn st) (h:(Tr.done (v,s,kn,none)).run=some x):zJb run st dst k x:=by
 cases h
 exact ⟨he,hk.frame (zGN he),fun b hb=>by cases hb⟩
theorem zIH {a:AV} {y:AV×Nat×Nat×Option (Nat×Nat)×Blk} (h:(zGw st a).run=some y):zA2 st a=some y:=by
 unfold zGw at h
 unfold zA2
 split at h
 ·split at h
  ·rename_i g' sz ty rows hB
   split at h
   ·rename_i hg
    obtain ⟨hm,h⟩:=Tr.ask_yes h
    cases h
    simp only [hB]
    rw [if_pos ⟨hg,hm⟩]
   ·cases h
  ·rename_i g' sz ty cols rows hB
   split at h
   ·rename_i hg
    obtain ⟨hm,h⟩:=Tr.ask_yes h
    cases h
    simp only [hB]
    rw [if_pos ⟨hg,hm⟩]
   ·cases h
  ·cases h
 ·obtain ⟨q,h1,h2⟩:=Tr.bind_some h
  cases h2
  simp only [zHc h1,Option.map_some]
 ·split at h
  ·rename_i g' sz ty cells hB
   split at h
   ·rename_i hc
    cases h
    simp only [hB]
    rw [if_pos hc]
   ·cases h
  ·cases h
 ·cases h
theorem zGy {a:AV} (h:¬zJW a=true):zA2 st a=none:=by
 unfold zJW at h
 unfold zA2
 split
 ·simp at h
 ·simp at h
 ·simp at h
 ·rfl
theorem zE0:∀{l:List AV} {y:List AV×Nat×Nat×Option (Nat×Nat)×Blk},(zFR st l).run=some y→zAh st l=some y
 | [],y,h=>by cases h
 |a::r,y,h=>by
  simp only [zFR] at h
  simp only [zAh]
  split at h
  ·obtain ⟨⟨a',q⟩,h1,h⟩:=Tr.bind_some h
   rw [zIH h1]
   simp only at h⊢
   split at h
   ·rename_i r' hr
    cases h
    rw [hr]
    rfl
   ·cases h
  ·rename_i hn
   rw [zGy hn]
   simp only
   split at h
   ·rename_i a' ha
    obtain ⟨⟨r',q⟩,h1,h⟩:=Tr.bind_some h
    cases h
    rw [ha,zE0 h1]
    rfl
   ·cases h
theorem zGO {n dst:Nat} {a x:KX} (h:∀vs,st.eval x= .tup vs→False):zC run st dst (.store n a x)=if (st.eval x).cvs.length=n∧(st.eval x).cvs.all (·.known)=true then (st.write (st.eval a) (st.eval x).cvs).map fun st=>(.c .u,st) else none:=by
 simp only [zC]
theorem zGz {st:St} {d m g sz ty j o gg:Nat} {cols:List (Nat×Nat×TypeId)} {rows:List (List PV)} {xs:List CV} {s:St} (h:(zFS st d m g sz ty j o cols rows xs).run=some s) (hB:st.get d m=some ⟨g,sz,ty,.deep cols rows⟩) (hg:gg=g∧o≠KO):
  st.write (.c (.ptr d m gg j o)) xs=some s:=by
 simp only [St.write,hB]
 unfold zFS at h
 split at h
 ·rename_i ys hp
  obtain ⟨e,he,h⟩:=Tr.opt_some h
  obtain ⟨h1,h⟩:=Tr.ask_yes h
  cases h
  rw [hp]
  simp only [Option.bind_some]
  rw [if_pos hg,he]
  simp only
  rw [if_pos h1]
 ·rename_i ys k esz ety d2 n2 g2 m2 hp
  split at h
  ·rename_i g2' esz' ety' rows2 hR
   split at h
   ·rename_i hc
    obtain ⟨e,he,h⟩:=Tr.opt_some h
    obtain ⟨h1,h⟩:=Tr.ask_yes h
    cases h
    rw [hp]
    simp only [Option.bind_some]
    rw [if_pos hg,he]
    simp only
    rw [if_pos h1.1,hR,zJX h1.2.2]
    simp only
    rw [if_pos ⟨hc.1,hc.2.1,hc.2.2,h1.2.1⟩]
   ·cases h
  ·cases h
 ·cases h
theorem zG0 (hC:zEN CT run) (hk:KnOK kn st) {dst:Nat} {k:KOp} {x:OpR} (h:(zDT CT st kn dst k).run=some x):zJb run st dst k x:=by
 unfold zDT at h
 split at h
 ·--mv
  exact zBo rfl hk (fun b hb=>zFM hk hb) h
 ·--pick
  obtain ⟨v,kn',h1,h2,h3⟩:=zFN hk h
  cases v
  ·exact zBo (by simp only [zC,h1];rfl) h2 (fun b hb=>zFM h2 hb) h3
  ·exact zBo (by simp only [zC,h1];rfl) h2 (fun b hb=>zFM h2 hb) h3
 ·--un
  split at h
  ·rename_i v hx
   refine zBo (by simp only [zC,hx,unP];rfl) hk (fun b hb=>?_) h
   obtain ⟨c,hc,rfl⟩:=Option.map_eq_some_iff.1 hb
   have:=zFM hk hc
   rw [hx] at this
   cases this
   rfl
  ·exact zBA hk h
 ·--bin
  rename_i op x y
  split at h
  ·rename_i k a k' b hx hy
   split at h
   ·rename_i e
    subst e
    have key:∀{r:PV} {z:OpR},zE4 op k a b=some r→(Tr.done ((.c (.p r),st,kn,none):OpR)).run=some z→zJb run st dst (.bin op x y) z:=fun {r z} hr h'=>
     zb (by simp only [zC,hx,hy,zGS,if_true,hr,Option.map_some]) hk h'
    unfold zKc at h
    split at h
    ·split at h
     ·split at h
      ·rename_i r hr;exact key hr h
      ·cases h
     ·rcases Tr.ask_some h with ⟨_,h2⟩|⟨h1,h2⟩
      ·cases h2
      ·have h1:¬b=0:=by simpa using h1
       exact key (by simp only [zE4];rw [if_neg h1]) h2
    ·split at h
     ·split at h
      ·rename_i r hr;exact key hr h
      ·cases h
     ·rcases Tr.ask_some h with ⟨_,h2⟩|⟨h1,h2⟩
      ·cases h2
      ·have h1:¬b=0:=by simpa using h1
       exact key (by simp only [zE4];rw [if_neg h1]) h2
    ·split at h
     ·split at h
      ·rename_i r hr;exact key hr h
      ·cases h
     ·cases h
    ·split at h
     ·split at h
      ·rename_i r hr;exact key hr h
      ·cases h
     ·cases h
    ·split at h
     ·rename_i r hr;exact key hr h
     ·cases h
   ·cases h
  ·rename_i a b hx hy
   split at h
   ·obtain ⟨h1,h2⟩:=Tr.ask_yes h
    exact zb (by simp only [zC,hx,hy,zGS,zIL];rw [if_pos h1];rfl) hk h2
   ·split at h
    ·rename_i r hr
     exact zb (by simp only [zC,hx,hy,zGS,hr,Option.map_some]) hk h
    ·cases h
  ·cases h
 ·--load
  rename_i g n ks a
  split at h
  ·rename_i e o ha
   split at h
   ·rename_i hc
    obtain ⟨cs,h1,h2⟩:=Tr.bind_some h
    obtain ⟨ps,rfl,h3,h4⟩:=zCv h1
    obtain ⟨h5,h6⟩:=zB9 (by omega) h4
    split at h2
    ·rename_i v hv
     rw [h3,hc.1] at h5 h6
     exact zb (by simp only [zC,ha,St.read];rw [if_pos h5,h6];simp only [Option.bind_some,hv,Option.map_some]) hk h2
    ·cases h2
   ·cases h
  ·rename_i d m gg j o ha
   split at h
   ·rename_i g' sz ty rows hB
    split at h
    ·rename_i hc
     obtain ⟨e,he,h⟩:=Tr.opt_some h
     obtain ⟨cs,h1,h2⟩:=Tr.bind_some h
     obtain ⟨ps,rfl,h3,h4⟩:=zCv h1
     obtain ⟨h5,h6⟩:=zB9 (by omega) h4
     split at h2
     ·rename_i v hv
      rw [h3,hc.2.1] at h5 h6
      exact zb (by simp only [zC,ha,St.read,hB];rw [if_pos ⟨hc.1,hc.2.2.2⟩,he];simp only;rw [if_pos h5,h6];simp only [Option.bind_some,hv,Option.map_some]) hk h2
     ·cases h2
    ·cases h
   ·rename_i g' sz ty cols rows hB
    split at h
    ·rename_i hc
     obtain ⟨e,he,h⟩:=Tr.opt_some h
     obtain ⟨cs,h1,h2⟩:=Tr.bind_some h
     obtain ⟨ps,rfl,h3,h4⟩:=zGH h1
     obtain ⟨h5,h6⟩:=zB9 (by omega) h4
     split at h2
     ·rename_i v hv
      rw [h3,hc.2.1] at h5 h6
      exact zb (by simp only [zC,ha,St.read,hB];rw [if_pos ⟨hc.1,hc.2.2.2⟩,he];simp only;rw [if_pos h5,h6];simp only [Option.bind_some,hv,Option.map_some]) hk h2
     ·cases h2
    ·cases h
   ·exact zBA hk h
  ·cases h
 ·--store
  rename_i n a x
  split at h
  ·rename_i d m gg j o v ha
   split at h
   ·cases h
   ·rename_i B1 B2 B3 B4 hB hnt
    split at h
    ·rename_i hc
     obtain ⟨⟨ys,s1⟩,h1,h2⟩:=Tr.bind_some h
     obtain ⟨h3,h4⟩:=zAZ h1
     simp only at h2
     split at h2
     ·rename_i g' sz ty rows hB'
      split at h2
      ·rename_i hg
       obtain ⟨e,he,h2⟩:=Tr.opt_some h2
       obtain ⟨h5,h2⟩:=Tr.ask_yes h2
       refine zb ?_ hk h2
       rw [zGO hnt,if_pos hc,ha]
       simp only [St.write,hB,h3,Option.bind_some,hB']
       rw [if_pos hg,he]
       simp only
       rw [if_pos h5]
       rfl
      ·cases h2
     ·cases h2
    ·cases h
   ·cases h
   ·rename_i g' sz ty cols rows hB hnt
    split at h
    ·rename_i hc
     obtain ⟨s2,h1,h2⟩:=Tr.bind_some h
     refine zb ?_ hk h2
     rw [zGO hnt,if_pos ⟨hc.1,hc.2.1⟩,ha]
     rw [zGz h1 hB hc.2.2]
     rfl
    ·cases h
   ·exact zBA hk h
  ·cases h
 ·--index
  split at h
  ·rename_i s i hx hi
   obtain ⟨h1,h⟩:=Tr.ask_yes h
   obtain ⟨c,h2,h⟩:=Tr.opt_some h
   exact zb (by simp only [zC,hi,zAR,Option.bind_some,hx];rw [if_pos h1,h2]) hk h
  ·cases h
 ·--iaddr
  rename_i sz x i
  split at h
  ·rename_i rows z hx hi
   obtain ⟨h1,h⟩:=Tr.ask_yes h
   obtain ⟨e,h2,h⟩:=Tr.opt_some h
   obtain ⟨h3,h⟩:=Tr.ask_yes h
   exact zb (by simp only [zC,hi,zAR,Option.bind_some,hx];rw [if_pos h1,h2];simp only;rw [if_pos h3]) hk h
  ·rename_i d n g m z hx hi
   split at h
   ·rename_i g' sz' ty rows hB
    split at h
    ·rename_i hc
     obtain ⟨h1,h⟩:=Tr.ask_yes h
     exact zb (by simp only [zC,hi,zAR,Option.bind_some,hx,hB];rw [if_pos ⟨hc.1,hc.2,h1⟩]) hk h
    ·cases h
   ·rename_i g' sz' ty cols rows hB
    split at h
    ·rename_i hc
     obtain ⟨h1,h⟩:=Tr.ask_yes h
     exact zb (by simp only [zC,hi,zAR,Option.bind_some,hx,hB];rw [if_pos ⟨hc.1,hc.2,h1⟩]) hk h
    ·cases h
   ·exact zBA hk h
  ·cases h
 ·--slcS
  rename_i x lo hi
  split at h
  ·rename_i s l hx hl
   split at h
   ·rename_i u hu
    obtain ⟨h1,h⟩:=Tr.ask_yes h
    exact zb (by simp only [zC,hx,hl,hu,Option.bind_some];rw [if_pos h1]) hk h
   ·cases h
  ·cases h
 ·--slc
  rename_i sz x lo hi
  split at h
  ·rename_i rows l hx hl
   split at h
   ·rename_i u hu
    obtain ⟨h1,h⟩:=Tr.ask_yes h
    exact zb (by simp only [zC,hx,hl,hu,Option.bind_some];rw [if_pos h1]) hk h
   ·cases h
  ·cases h
 ·--toStr
  obtain ⟨rows,h1,h⟩:=Tr.bind_some h
  obtain ⟨l,h2,h⟩:=Tr.opt_some h
  exact zb (by simp only [zC,zGJ h1,Option.bind_some,h2,Option.map_some]) hk h
 ·--app
  rename_i ty sz bytes x y
  split at h
  ·obtain ⟨d,n,g,m,v,s,hx,h1,h2,h3⟩:=zJZ h
   exact zb (by simp only [zC,hx,h2,h1]) hk h3
  obtain ⟨ys,h1,h⟩:=Tr.bind_some h
  have h1:=zGJ h1
  split at h
  ·rename_i hx
   obtain ⟨h2,h⟩:=Tr.ask_yes h
   exact zb (by simp only [zC,hx,h1];rw [if_pos h2]) hk h
  ·rename_i d n g m hx
   split at h
   ·rename_i g' sz' ty' rows hB
    split at h
    ·rename_i hc
     obtain ⟨h2,h⟩:=Tr.ask_yes h
     exact zb (by simp only [zC,hx,h1,hB];rw [if_pos ⟨hc.1,hc.2.1,hc.2.2,h2⟩]) hk h
    ·cases h
   ·cases h
  ·cases h
 ·--mksl
  split at h
  ·rename_i l c hl hc
   split at h
   ·rename_i hz
    obtain ⟨h2,h⟩:=Tr.ask_yes h
    exact zb (by simp only [zC,hl,hc,zAR,Option.bind_some];rw [if_pos ⟨h2.1,h2.2.1,h2.2.2.1,h2.2.2.2,hz.1,hz.2⟩]) hk h
   ·cases h
  ·cases h
 ·--call
  rename_i f args
  split at h
  ·rename_i g caps hf
   obtain ⟨⟨as,lent⟩,h1,h⟩:=Tr.bind_some h
   obtain ⟨r,h2,h⟩:=Tr.bind_some h
   have h1:=zEG h1
   have h2:=hC _ _ _ _ h2
   split at h
   ·rename_i hs
    split at h
    ·rename_i hc
     refine zb ?_ hk h
     simp only [zC,hf,zAi,if_true,h1,Option.bind_some,h2]
     rw [if_pos ⟨.inl hc,hs⟩]
    ·rcases Tr.ask_some h with ⟨hc,h⟩|⟨_,h⟩
     ·refine zb ?_ hk h
      simp only [zC,hf,zAi,if_true,h1,Option.bind_some,h2]
      rw [if_pos ⟨.inr hc,hs⟩]
     ·cases h
   ·cases h
  ·cases h
 ·--a call that is lent a block
  rename_i f args
  split at h
  ·rename_i g caps hf
   obtain ⟨⟨as,d,n,q,B⟩,h1,h⟩:=Tr.bind_some h
   obtain ⟨r,h2,h⟩:=Tr.bind_some h
   obtain ⟨⟨v,s⟩,hb,h⟩:=Tr.bind_some h
   have h1:=zE0 h1
   have h2:=hC _ _ _ _ h2
   have hb:=zIF hb
   refine zb ?_ hk h
   simp only [zC,hf,zAi,Bool.false_eq_true,if_false,h1,Option.bind_some,h2,hb]
  ·cases h
 ·--a call that is lent a box with an own row
  rename_i f args
  split at h
  ·rename_i g caps hf
   split at h
   ·rename_i a r hq
    obtain ⟨⟨r',s1⟩,h1,h⟩:=Tr.bind_some h
    have h1:=(zCa h1).1
    simp only at h
    split at h
    ·rename_i a' q q2 hl
     obtain ⟨res,h2,h⟩:=Tr.bind_some h
     have h2:=hC _ _ _ _ h2
     split at h
     ·rename_i v s hb
      refine zb ?_ hk h
      simp only [zC,hf,hq,callN,h1,Option.bind_some,hl,h2,hb]
     ·cases h
    ·cases h
   ·cases h
  ·cases h
 ·--a literal slice
  split at h
  ·rename_i rows hrows
   split at h
   ·rename_i hcl
    obtain ⟨⟨rs,s1⟩,h1,h⟩:=Tr.bind_some h
    obtain ⟨h1,ht⟩:=zBb h1
    cases h
    exact ⟨by simp only [zC,hrows,Option.bind_some,frz,if_pos hcl.1,h1],hk.frame ht,fun b hb=>by cases hb⟩
   ·exact zBA hk h
  ·cases h
 ·exact zBA hk h
theorem zCc (hC:zEN CT run) (hk:KnOK kn st) {o:KOper} {s:St} {kn':Kn} (h:(zBl CT st kn o).run=some (s,kn')):zM run st o=some s∧KnOK kn' s:=by
 have go:∀{kn:Kn},KnOK kn st→((zDT CT st kn (o.dst.getD 0) o.op).bind fun (v,s,kn,kb)=>Tr.done (({s with t:=zAp s.t o.dst v}:St),zEw kn o.dst kb)).run=some (s,kn')→
   (zC run st (o.dst.getD 0) o.op).map (fun (a,st)=>({st with t:=zAp st.t o.dst a}:St))=some s∧KnOK kn' s:=fun {kn} hk h=>by
  obtain ⟨⟨v,s1,kn1,kb⟩,h1,h2⟩:=Tr.bind_some h
  obtain ⟨e1,e2,e3⟩:=zG0 hC hk h1
  cases h2
  exact ⟨by rw [e1];rfl,zEA e2 e3⟩
 unfold zBl at h
 cases hg:o.guard with
 |none=>
  simp only [hg] at h
  simp only [zM,hg]
  exact go hk h
 |some jw=>
  obtain ⟨j,want⟩:=jw
  simp only [hg] at h
  split at h
  ·rename_i hu
   simp only [zM,hg,hu]
   cases h
   exact ⟨rfl,zEA hk (fun b hb=>by cases hb)⟩
  obtain ⟨v,kn1,h1,h2,h3⟩:=zFN hk h
  have h1':zD j st.t=some (.c (.p (.b v))):=by
   simp only [St.eval] at h1
   cases hq:zD j st.t with
   |none=>rw [hq] at h1;cases h1
   |some a=>rw [hq] at h1;simp only at h1;rw [h1]
  simp only [zM,hg,h1']
  split at h3
  ·rename_i e
   rw [if_pos e]
   exact go h2 h3
  ·rename_i e
   rw [if_neg e]
   cases h3
   exact ⟨rfl,zEA h2 (fun b hb=>by cases hb)⟩
theorem zDH (hC:zEN CT run):∀{l:List KOper} {st:St} {kn:Kn} {s:St} {kn':Kn},KnOK kn st→(zEH CT l st kn).run=some (s,kn')→zAr run l st=some s∧KnOK kn' s
 | [],st,kn,s,kn',hk,h=>by cases h;exact ⟨rfl,hk⟩
 |o::r,st,kn,s,kn',hk,h=>by
  obtain ⟨⟨s1,kn1⟩,h1,h2⟩:=Tr.bind_some h
  obtain ⟨e1,e2⟩:=zCc hC hk h1
  obtain ⟨e3,e4⟩:=zDH hC e2 h2
  exact ⟨by simp only [zAr,e1,Option.bind_some,e3],e4⟩
theorem zE1 (hC:zEN CT run):∀{l:List (KOper×List Bool)} {ts:List Tch} {st:St} {kn:Kn} {s:St} {kn':Kn},KnOK kn st→(zFT CT l ts st kn).run=some (s,kn')→zDY run l ts st=some s∧KnOK kn' s
 | [],ts,st,kn,s,kn',hk,h=>by cases h;exact ⟨rfl,hk⟩
 |(o,bs)::r,ts,st,kn,s,kn',hk,h=>by
  simp only [zFT] at h
  split at h
  ·rename_i hc
   obtain ⟨⟨s1,kn1⟩,h1,h2⟩:=Tr.bind_some h
   obtain ⟨e1,e2⟩:=zCc hC hk h1
   obtain ⟨e3,e4⟩:=zE1 hC e2 h2
   exact ⟨by simp only [zDY,hc,if_true,e1,Option.bind_some];exact e3,e4⟩
  ·cases h
theorem zE2 (hC:zEN CT run):∀(c:KCode),zIG LT run N c→∀{st:St} {kn:Kn} {e:Ex} {s:St} {kn':Kn},KnOK kn st→(zA1 CT LT c st kn).run=some (e,s,kn')→zh run N c st=some (e,s)∧KnOK kn' s:=by
 intro c
 induction c with
 |skip=>intro hL st kn e s kn' hk h;cases h;exact ⟨rfl,hk⟩
 |ops l=>
  intro hL st kn e s kn' hk h
  obtain ⟨⟨s1,kn1⟩,h1,h2⟩:=Tr.bind_some h
  cases h2
  obtain ⟨e1,e2⟩:=zDH hC hk h1
  exact ⟨by simp only [zh,e1,Option.map_some],e2⟩
 |draw l=>
  intro hL st kn e s kn' hk h
  obtain ⟨⟨s1,kn1⟩,h1,h2⟩:=Tr.bind_some h
  cases h2
  obtain ⟨e1,e2⟩:=zE1 hC hk h1
  exact ⟨by simp only [zh,e1,Option.map_some],e2⟩
 |seq a b iha ihb=>
  intro hL st kn e s kn' hk h
  obtain ⟨⟨e1,s1,kn1⟩,h1,h2⟩:=Tr.bind_some h
  obtain ⟨g1,g2⟩:=iha (fun mk keep z0 b hm=>hL mk keep z0 b (by simp only [zy];exact List.mem_append_left _ hm)) hk h1
  simp only [zh,g1,Option.bind_some]
  cases e1 with
  |normal=>exact ihb (fun mk keep z0 b hm=>hL mk keep z0 b (by simp only [zy];exact List.mem_append_right _ hm)) g2 h2
  |exit id=>cases h2;exact ⟨rfl,g2⟩
  |ret=>cases h2;exact ⟨rfl,g2⟩
 |cond c a b iha ihb=>
  intro hL st kn e s kn' hk h
  obtain ⟨v,kn1,h1,h2,h3⟩:=zFN hk h
  simp only [zh,h1]
  cases v
  ·exact ihb (fun mk keep z0 b hm=>hL mk keep z0 b (by simp only [zy];exact List.mem_append_right _ hm)) h2 h3
  ·exact iha (fun mk keep z0 b hm=>hL mk keep z0 b (by simp only [zy];exact List.mem_append_left _ hm)) h2 h3
 |block id c ih=>
  intro hL st kn e s kn' hk h
  obtain ⟨⟨e1,s1,kn1⟩,h1,h2⟩:=Tr.bind_some h
  cases h2
  obtain ⟨g1,g2⟩:=ih (fun mk keep z0 b hm=>hL mk keep z0 b (by simpa only [zy] using hm)) hk h1
  exact ⟨by simp only [zh,g1,Option.map_some],g2⟩
 |loop mk keep z0 c ih=>
  intro hL st kn e s kn' hk h
  obtain ⟨⟨e1,s1⟩,h1,h2⟩:=Tr.bind_some h
  cases h2
  obtain ⟨s0,g1,rfl⟩:=hL mk keep z0 c (by simp [zy]) _ _ _ h1
  exact ⟨by simp only [zh,zHe,g1,Option.map_some],fun n b hn=>by cases hn⟩
 |exit id=>intro hL st kn e s kn' hk h;cases h;exact ⟨rfl,hk⟩
 |ret=>intro hL st kn e s kn' hk h;cases h;exact ⟨rfl,hk⟩
theorem zGP:∀{l:List (Bool×List CV)} {st:St} {y:List (Bool×List CV)×St},(zJa st l).run=some y→z0 st l=some y
 | [],st,y,h=>by cases h;rfl
 |(g,cs)::r,st,y,h=>by
  obtain ⟨⟨ps,s1⟩,h1,h2⟩:=Tr.bind_some h
  obtain ⟨⟨l,s2⟩,h3,h4⟩:=Tr.bind_some h2
  cases h4
  simp only [z0,(zAZ h1).1,Option.bind_some,zGP h3,Option.map_some]
theorem zG1 {kf:KFun} {e:Ex} {st:St} {r:Res} (h:(zFU kf e st).run=some r):zCg kf e st=some r:=by
 unfold zFU at h
 unfold zCg
 split at h
 ·rename_i hc
  rw [if_pos hc]
  split at h
  ·rename_i l hl
   obtain ⟨⟨l',s⟩,h1,h2⟩:=Tr.bind_some h
   cases h2
   simp only [hl,Option.bind_some,zGP h1,Option.map_some]
  ·cases h
 ·rename_i hc
  rw [if_neg hc]
  split at h
  ·rename_i hc2
   rw [if_pos hc2]
   split at h
   ·rename_i r' hr
    cases h
    exact hr
   ·cases h
  ·cases h
theorem zKR {kf:KFun} {args:List AV} {up:List Frame} {q r:Res} (h:(zKx kf args up q).run=some r):zGW kf args up q=some r:=by
 unfold zKx at h
 unfold zGW
 split at h
 ·rename_i hn
  rw [if_pos hn]
  split at h
  ·rcases Tr.ask_some h with ⟨hc,h⟩|⟨_,h⟩
   ·cases h
    simp only
    rw [if_pos hc]
   ·cases h
  ·cases h
 ·rename_i hn
  rw [if_neg hn]
  exact h
theorem zKS (hC:zEN CT run) {kf:KFun} (hL:zIG LT run N kf.body) {args:List AV} {up:List Frame} {r:Res} (h:(zKO CT LT kf args up).run=some r):
  args.length=kf.params.length∧((zh run N kf.body ⟨zDa args 0,[],up⟩).bind fun (e,st)=>(zCg kf e st.low).bind (zGW kf args up))=some r:=by
 unfold zKO at h
 split at h
 ·rename_i hl
  obtain ⟨⟨e,s,kn⟩,h1,h2⟩:=Tr.bind_some h
  obtain ⟨g1,_⟩:=zE2 (N:=N) hC kf.body hL (fun n b hn=>by cases hn) h1
  obtain ⟨q,h3,h4⟩:=Tr.bind_some h2
  exact ⟨hl,by rw [g1];simp only [Option.bind_some,zG1 h3];exact zKR h4⟩
 ·cases h
end
theorem zII {KP:FuncId→Option KFun} {lib:zg} {n:Nat} {CT:zDK} {LT:zGK} {f:FuncId} {kf:KFun} (hf:KP f=some kf) (hC:zEN CT (zBx KP lib n)) (hL:zIG LT (zBx KP lib n) n kf.body) {args:List AV} {up:List Frame} {r:Res}
  (h:(zKO CT LT kf args up).run=some r):zBx KP lib (n+1) f args up=some r:=by
 obtain ⟨h1,h2⟩:=zKS hC hL h
 simp only [zBx,hf]
 rw [if_pos h1]
 exact h2
end Go.Eng

