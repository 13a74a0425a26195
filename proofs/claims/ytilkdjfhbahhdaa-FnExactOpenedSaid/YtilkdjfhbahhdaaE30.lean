import Derived.Test.YtilkdjfhbahhdaaE29
set_option linter.unusedVariables false
set_option linter.unusedSimpArgs false
namespace Go.Eng
abbrev zBx:=FuncId→List AV→List Frame→Tr Res
abbrev zDW:=Nat→St→Tr (Ex×St)
def zKj:zh:=fun _ _ _=>none
abbrev OpR:=AV×St×Kn×Option Bool
def zFa (st:St) (kn:Kn) (dst:Nat) (k:KOp):Tr OpR:=match zC zKj st dst k with
 |some (v,s)=> .done (v,s,kn,none)
 |none=> .fail
def zKk (op:BinOp) (k:IntKind) (lit:Bool) (x y:Int) (done:PV→Tr OpR):Tr OpR:=
 match op with
 | .quo| .rem=>if lit then (match zFE op k x y with|some r=>done r|none=> .fail) else .ask (decide (y=0)) .fail (match op with| .quo=>done (.i k (k.wrap (x.tdiv y)))|_=>done (.i k (x.tmod y)))
 | .shl| .shr=>if lit then (match zFE op k x y with|some r=>done r|none=> .fail) else .fail
 |_=>match zFE op k x y with
  |some r=>done r
  |none=> .fail
def zLN:KX→Bool
 | .k _=>true
 | .t _=>false
def zG5 (st:St):AV→Tr (AV×Nat×Nat×Option (Nat×Nat)×Blk)
 | .c (.own d n g m)=>match st.get d n with
  |some ⟨g',sz,ty,.row rows⟩=>if g=g' then .ask (decide (m=rows.length)) (.done (.c (.own 0 0 0 m),d,n,none,⟨0,sz,ty,.row rows⟩)) .fail else .fail
  |some ⟨g',sz,ty,.deep cols rows⟩=>if g=g' then .ask (decide (m=rows.length)) (.done (.c (.own 0 0 0 m),d,n,none,⟨0,sz,ty,.deep cols rows⟩)) .fail else .fail
  |_=> .fail
 | .c (.sub d n g j o m esz)=>(zKU st d n g j o m esz).bind fun q=> .done (.c (.own 0 0 0 m),d,n,some (j,o),⟨0,esz,q.1,.row q.2⟩)
 | .c (.ptr d n g 0 0)=>match st.get d n with
  |some ⟨g',sz,ty,.box cells⟩=>if g=g'∧cells.all isP=true then .done (.c (.ptr 0 0 0 0 0),d,n,none,⟨0,sz,ty,.box cells⟩) else .fail
  |_=> .fail
 |_=> .fail
def zJf:AV→Bool
 | .c (.own ..)| .c (.ptr ..)| .c (.sub ..)=>true
 |_=>false
def zFb (st:St):List AV→Tr (List AV×Nat×Nat×Option (Nat×Nat)×Blk)
 | []=> .fail
 |a::r=>if zJf a=true then (zG5 st a).bind fun (a,q)=>match zCO r with
   |some r=> .done (a::r,q)
   |none=> .fail
  else match zCq a with
   |some a=>(zFb st r).bind fun (r,q)=> .done (a::r,q)
   |none=> .fail
def zGT (st:St):AV→Tr (AV×St)
 | .c x=>(zCj st x).bind fun (a,st)=> .done (.c (.p a),st)
 | .agg cs=>(zBH st cs).bind fun (l,st)=> .done (.agg (l.map .p),st)
 | .tup _=> .fail
def zC9 (st:St):List AV→Tr (List AV×St)
 | []=> .done ([],st)
 |x::r=>(zGT st x).bind fun (a,st)=>(zC9 st r).bind fun (l,st)=> .done (a::l,st)
theorem zGU {st:St} {a:AV} {y:AV×St} (h:(zGT st a).run=some y):z8 st a=some y∧y.2.t=st.t:=by
 cases a with
 |c x=>
  obtain ⟨⟨p,s⟩,h1,h2⟩:=Tr.bind_some h
  cases h2
  obtain ⟨e1,t1⟩:=zDR h1
  exact ⟨by simp only [z8,e1,Option.map_some],t1⟩
 |agg cs=>
  obtain ⟨⟨p,s⟩,h1,h2⟩:=Tr.bind_some h
  cases h2
  obtain ⟨e1,t1⟩:=zAh h1
  exact ⟨by simp only [z8,e1,Option.map_some],t1⟩
 |tup vs=>cases h
theorem zCl:∀{l:List AV} {st:St} {y:List AV×St},(zC9 st l).run=some y→zw st l=some y∧y.2.t=st.t
 | [],st,y,h=>by cases h;exact ⟨rfl,rfl⟩
 |x::r,st,y,h=>by
  obtain ⟨⟨a,st1⟩,h1,h2⟩:=Tr.bind_some h
  obtain ⟨⟨b,st2⟩,h3,h4⟩:=Tr.bind_some h2
  cases h4
  obtain ⟨e1,t1⟩:=zGU h1
  obtain ⟨e2,t2⟩:=zCl h3
  simp only [zw,e1,zG,e2,Option.map_some]
  exact ⟨by first|rfl|trivial,t2.trans t1⟩
theorem zKV {st st':St} {q q2:Nat×Nat×Blk} {r:Res} {v:AV} (h:zDC st q q2 r=some (v,st')):st'.t=st.t:=by
 obtain ⟨_,_,_,_,_,_,_,_,_,_,_,_,_,_,_,_,_,_,_,_,_,_,rfl⟩:=zEq h
 rw [zy,zy]
def zBi (st:St):List (List CV)→Tr (List (List PV)×St)
 | []=> .done ([],st)
 |x::r=>(zBH st x).bind fun (a,st)=>(zBi st r).bind fun (b,st)=> .done (a::b,st)
theorem zBj:∀{l:List (List CV)} {st:St} {y:List (List PV)×St},(zBi st l).run=some y→zZ st l=some y∧y.2.t=st.t
 | [],st,y,h=>by cases h;exact ⟨rfl,rfl⟩
 |x::r,st,y,h=>by
  obtain ⟨⟨a,st1⟩,h1,h2⟩:=Tr.bind_some h
  obtain ⟨⟨b,st2⟩,h3,h4⟩:=Tr.bind_some h2
  cases h4
  obtain ⟨e1,t1⟩:=zAh h1
  obtain ⟨e2,t2⟩:=zBj h3
  simp only [zZ,e1,zG,e2]
  exact ⟨by first|rfl|trivial,t2.trans t1⟩
def zLO:CV→Bool
 | .own ..=>true
 |_=>false
def nlB (e:List PV) (k:Nat):Bool:=match e[k]? with
 |some .nl=>true
 |_=>false
theorem zJg {e:List PV} {k:Nat} (h:nlB e k=true):e[k]?=some .nl:=by
 unfold nlB at h
 split at h
 ·assumption
 ·cases h
def zG6 (st:St) (dst d n:Nat) (q:Option (Nat×Nat)) (B:Blk) (r:Res):Tr (AV×St):=
 match q with
 |none=> .ofOpt (zBY st dst d n none B r)
 |some (j,o)=>match r.up with
  | [fr']=>match look 0 fr',st.get d n,B.k with
   |some ⟨0,sz',ty',.row inner'⟩,some ⟨g,sz,ty,.deep cols rows⟩,.row inner=>if ty'=B.ty∧sz'=B.sz∧r.rows.isEmpty=true∧r.v.cvs.all isP=true then
     .opt (rows[j]?) fun e=> .ask (decide (inner'.length=inner.length)) (.done (r.v.map (z7 st.up.length dst st.fr),st.set d n ⟨g,sz,ty,.deep cols (rows.set j (e.set o (.ls inner')))⟩)) .fail else .fail
   |_,_,_=> .fail
  |_=> .fail
theorem zIP {st:St} {dst d n:Nat} {q:Option (Nat×Nat)} {B:Blk} {r:Res} {y:AV×St} (h:(zG6 st dst d n q B r).run=some y):zBY st dst d n q B r=some y:=by
 unfold zG6 at h
 split at h
 ·exact Tr.ofOpt_some h
 ·rename_i j o
  unfold zBY
  simp only
  split at h
  ·rename_i fr' hup
   split at h
   ·rename_i sz' ty' inner' g sz ty cols rows inner h1 h2 h3
    split at h
    ·rename_i hc
     obtain ⟨e,he,h⟩:=Tr.opt_some h
     obtain ⟨hl,h⟩:=Tr.ask_yes h
     cases h
     rw [hup]
     simp only [h1,h2,h3,he]
     rw [if_pos ⟨hc.1,hc.2.1,hc.2.2.1,hc.2.2.2,hl⟩]
    ·cases h
   ·cases h
  ·cases h
def zFc (st:St) (d m g sz ty j o:Nat) (cols:List (Nat×Nat×TypeId)) (rows:List (List PV)) (xs:List CV):Tr St:=
 match zGa cols o xs with
 |some (ys,none)=> .opt (rows[j]?) fun e=> .ask (decide (o+ys.length≤e.length)) (.done (st.set d m ⟨g,sz,ty,.deep cols (rows.set j (zA e o ys))⟩)) .fail
 |some (ys,some (k,esz,ety,d2,n2,g2,m2))=>match st.get d2 n2 with
  |some ⟨g2',esz',ety',.row rows2⟩=>if g2=g2'∧esz'=esz∧ety'=ety then .opt (rows[j]?) fun e=> .ask (decide (o+ys.length≤e.length∧m2=rows2.length∧nlB e k=true))
    (.done ((st.set d2 n2 ⟨g2+1,esz,ety,.dead⟩).set d m ⟨g,sz,ty,.deep cols (rows.set j ((zA e o ys).set k (.ls rows2)))⟩)) .fail else .fail
  |_=> .fail
 |none=> .fail
def zLP (st:St):AV→Bool
 | .c (.own d n _ _)=>match st.get d n with|some ⟨_,_,_,.deep _ _⟩=>true|_=>false
 |_=>false
def zJh (st:St) (kn:Kn) (x:AV) (ty sz bytes:Nat) (y:AV):Tr OpR:=match x,y with
 | .c (.own d n g m),.c (.own d2 n2 g2 m2)=>match st.get d n,st.get d2 n2 with
  |some ⟨g',sz',ty',.deep cols rows⟩,some ⟨g2',_,_,.box cells⟩=>
   if g=g'∧sz'=sz∧ty'=ty∧g2=g2'∧m2=1∧cells.length=sz∧0<sz∧0<bytes then match zFF cols 0 cells with
    |some (ys,none)=> .ask (decide (m=rows.length∧(m+1)*bytes≤140737488355328)) (.done (.c (.own d n (g+1) (m+1)),st.set d n ⟨g+1,sz,ty,.deep cols (rows++ [ys])⟩,kn,none)) .fail
    |some (ys,some (k,esz,ety,d3,n3,g3,m3))=>match st.get d3 n3 with
     |some ⟨g3',esz',ety',.row rows3⟩=>if g3=g3'∧esz'=esz∧ety'=ety then .ask (decide (m=rows.length∧(m+1)*bytes≤140737488355328∧m3=rows3.length))
       (.done (.c (.own d n (g+1) (m+1)),(st.set d3 n3 ⟨g3+1,esz,ety,.dead⟩).set d n ⟨g+1,sz,ty,.deep cols (rows++ [ys.set k (.ls rows3)])⟩,kn,none)) .fail else .fail
     |_=> .fail
    |none=> .fail
   else .fail
  |_,_=> .fail
 |_,_=> .fail
theorem zJi {st:St} {kn:Kn} {x:AV} {ty sz bytes:Nat} {y:AV} {z:OpR} (h:(zJh st kn x ty sz bytes y).run=some z):∃d n g m v s,x= .c (.own d n g m)∧zEX st d n g m ty sz bytes y=some (v,s)∧st.rows y=none∧(Tr.done ((v,s,kn,none):OpR)).run=some z:=by
 unfold zJh at h
 split at h
 ·rename_i d n g m d2 n2 g2 m2
  split at h
  ·rename_i g' sz' ty' cols rows g2' sz2 ty2 cells hB hY
   have hrow:st.rows (.c (.own d2 n2 g2 m2))=none:=by simp only [St.rows,hY]
   split at h
   ·rename_i hc
    split at h
    ·rename_i ys hq
     obtain ⟨h1,h⟩:=Tr.ask_yes h
     refine ⟨d,n,g,m,_,_,rfl,?_,hrow,h⟩
     simp only [zEX,hB,hY]
     rw [if_pos ⟨hc.1,hc.2.1,hc.2.2.1,hc.2.2.2.1,hc.2.2.2.2.1,hc.2.2.2.2.2.1,hc.2.2.2.2.2.2.1,hc.2.2.2.2.2.2.2,h1.1,h1.2⟩,hq]
     rfl
    ·rename_i ys k esz ety d3 n3 g3 m3 hq
     split at h
     ·rename_i g3' esz' ety' rows3 hR
      split at h
      ·rename_i hc3
       obtain ⟨h1,h⟩:=Tr.ask_yes h
       refine ⟨d,n,g,m,_,_,rfl,?_,hrow,h⟩
       simp only [zEX,hB,hY]
       rw [if_pos ⟨hc.1,hc.2.1,hc.2.2.1,hc.2.2.2.1,hc.2.2.2.2.1,hc.2.2.2.2.2.1,hc.2.2.2.2.2.2.1,hc.2.2.2.2.2.2.2,h1.1,h1.2.1⟩,hq]
       simp only [zG,hR]
       rw [if_pos ⟨hc3.1,hc3.2.1,hc3.2.2,h1.2.2⟩]
      ·cases h
     ·cases h
    ·cases h
   ·cases h
  ·cases h
 ·cases h
def zDg (CT:zBx) (st:St) (kn:Kn) (dst:Nat):KOp→Tr OpR
 | .mv x=> .done (st.eval x,st,kn,knX kn x)
 | .pick c a b=>zJd st kn c fun v st kn=>match v with
  |true=> .done (st.eval a,st,kn,knX kn a)
  |false=> .done (st.eval b,st,kn,knX kn b)
 | .un op x=>match op,st.eval x with
  | .not,.c (.p (.b v))=> .done (.c (.p (.b (!v))),st,kn,(knX kn x).map (!·))
  |_,_=>zFa st kn dst (.un op x)
 | .bin op x y=>match st.eval x,st.eval y with
  | .c (.p (.i k a)),.c (.p (.i k' b))=>if k=k' then zKk op k (zLN y) a b (fun r=> .done (.c (.p r),st,kn,none)) else .fail
  | .c (.p (.s a)),.c (.p (.s b))=>match op with
   | .add=> .ask (decide (a.size+b.size≤9223372036854775807)) (.done (.c (.p (.s (a++b))),st,kn,none)) .fail
   |op=>match zIU op a b with
    |some r=> .done (.c (.p r),st,kn,none)
    |none=> .fail
  |_,_=> .fail
 | .load g n ks a=>match st.eval a with
  | .c (.rp e o)=>if ks.length=n∧0<n then (zC6 e o ks).bind fun cs=>match zBW g cs with
    |some v=> .done (v,st,kn,none)
    |none=> .fail
   else .fail
  | .c (.ptr d m gg j o)=>match st.get d m with
   |some ⟨g',_,_,.row rows⟩=>if gg=g'∧ks.length=n∧0<n∧o≠KO then .opt (rows[j]?) fun e=>(zC6 e o ks).bind fun cs=>match zBW g cs with
     |some v=> .done (v,st,kn,none)
     |none=> .fail
    else .fail
   |some ⟨g',_,_,.deep cols rows⟩=>if gg=g'∧ks.length=n∧0<n∧o≠KO then .opt (rows[j]?) fun e=>(zGP d m gg j cols e o ks).bind fun cs=>match zBW g cs with
     |some v=> .done (v,st,kn,none)
     |none=> .fail
    else .fail
   |_=>zFa st kn dst (.load g n ks a)
  |_=> .fail
 | .store n a x=>match st.eval a,st.eval x with
  | .c (.ptr d m gg j o),v=>match st.get d m,v with
   |some ⟨_,_,_,.row _⟩,.tup _=> .fail
   |some ⟨_,_,_,.row _⟩,v=>if v.cvs.length=n∧v.cvs.all (·.known)=true then
     (zBH st v.cvs).bind fun (ys,st)=>match st.get d m with
      |some ⟨g',sz,ty,.row rows⟩=>if gg=g'∧o≠KO then .opt (rows[j]?) fun e=> .ask (decide (o+ys.length≤e.length)) (.done (.c .u,st.set d m ⟨g',sz,ty,.row (rows.set j (zA e o ys))⟩,kn,none)) .fail else .fail
      |_=> .fail
    else .fail
   |some ⟨_,_,_,.deep _ _⟩,.tup _=> .fail
   |some ⟨g',sz,ty,.deep cols rows⟩,v=>if v.cvs.length=n∧v.cvs.all (·.known)=true∧gg=g'∧o≠KO then
     (zFc st d m g' sz ty j o cols rows v.cvs).bind fun s=> .done (.c .u,s,kn,none) else .fail
   |_,_=>zFa st kn dst (.store n a x)
  |_,_=> .fail
 | .index x i=>match st.eval x,st.eval i with
  | .c (.p (.s s)),.c (.p (.i .i64 i))=> .ask (decide (0≤i)) (.opt (s.toList[i.toNat]?) fun c=> .done (.c (.p (.i .u8 c.toNat)),st,kn,none)) .fail
  |_,_=> .fail
 | .iaddr sz x i=>match st.eval x,st.eval i with
  | .c (.p (.ls rows)),.c (.p (.i .i64 z))=> .ask (decide (0≤z∧z<rows.length)) (.opt (rows[z.toNat]?) fun e=> .ask (decide (e.length=sz)) (.done (.c (.rp e 0),st,kn,none)) .fail) .fail
  | .c (.own d n g m),.c (.p (.i .i64 z))=>match st.get d n with
   |some ⟨g',sz',_,.row rows⟩=>if g=g'∧sz'=sz then .ask (decide (m=rows.length∧0≤z∧z<m)) (.done (.c (.ptr d n g z.toNat 0),st,kn,none)) .fail else .fail
   |some ⟨g',sz',_,.deep _ rows⟩=>if g=g'∧sz'=sz then .ask (decide (m=rows.length∧0≤z∧z<m)) (.done (.c (.ptr d n g z.toNat 0),st,kn,none)) .fail else .fail
   |_=>zFa st kn dst (.iaddr sz x i)
  |_,_=> .fail
 | .slcS x lo hi=>match st.eval x,st.bound 0 lo with
  | .c (.p (.s s)),some l=>match st.bound s.size hi with
   |some h=> .ask (decide (0≤l∧l≤h∧h≤s.size)) (.done (.c (.p (.s (s.extract l.toNat h.toNat))),st,kn,none)) .fail
   |none=> .fail
  |_,_=> .fail
 | .slc sz x lo hi=>match st.eval x,st.bound 0 lo with
  | .c (.p (.ls rows)),some l=>match st.bound rows.length hi with
   |some h=> .ask (decide (0≤l∧l≤h∧h≤rows.length∧rows.all (fun e=>e.length==sz)=true)) (.done (.c (.p (.ls ((rows.take h.toNat).drop l.toNat))),st,kn,none)) .fail
   |none=> .fail
  |_,_=> .fail
 | .toStr x=>(zHn st (st.eval x)).bind fun rows=> .opt (bytesOf rows) fun l=> .done (.c (.p (.s ⟨l.toArray⟩)),st,kn,none)
 | .app ty sz bytes x y=>if zLP st (st.eval x)=true then zJh st kn (st.eval x) ty sz bytes (st.eval y) else (zHn st (st.eval y)).bind fun ys=>match st.eval x with
  | .c (.p .nl)=> .ask (decide (0<sz∧0<bytes∧ys.length*bytes≤140737488355328∧ys.all (fun e=>e.length==sz)=true))
    (.done (.c (.own st.up.length (dst*64) (st.fresh (dst*64)) ys.length),(st.new (dst*64) sz ty (.row ys)).2,kn,none)) .fail
  | .c (.own d n g m)=>match st.get d n with
   |some ⟨g',sz',ty',.row rows⟩=>if g=g'∧sz'=sz∧ty'=ty then .ask (decide (m=rows.length∧0<sz∧0<bytes∧(m+ys.length)*bytes≤140737488355328∧ys.all (fun e=>e.length==sz)=true))
     (.done (.c (.own d n (g+1) (m+ys.length)),st.set d n ⟨g+1,sz,ty,.row (rows++ys)⟩,kn,none)) .fail else .fail
   |_=> .fail
  |_=> .fail
 | .mksl ty sz bytes cols zero l c=>match st.eval l,st.eval c with
  | .c (.p (.i .i64 l)),.c (.p (.i .i64 c))=>if zero.length=sz∧zIV cols zero=true then .ask (decide (0≤l∧l=c∧bytes*l≤140737488355328∧l≤9223372036854775807))
    (.done (.c (.own st.up.length (dst*64) (st.fresh (dst*64)) l.toNat),(st.new (dst*64) sz ty (zDk cols (zAS zero l.toNat))).2,kn,none)) .fail else .fail
  |_,_=> .fail
 | .call true f args=>match st.eval f with
  | .c (.fn f caps)=>(zFZ st (args.map st.eval++caps.map Cap.av)).bind fun (as,lent)=>(CT f as []).bind fun r=>if zCr r=true then
    (if lent=false then .done (r.v.map (z7 st.up.length dst st.fr),{st with fr:=zu dst r.rows 0 st.fr},kn,none) else .ask (zc r) (.done (r.v.map (z7 st.up.length dst st.fr),{st with fr:=zu dst r.rows 0 st.fr},kn,none)) .fail) else .fail
  |_=> .fail
 | .call false f args=>match st.eval f with
  | .c (.fn f caps)=>(zFb st (args.map st.eval++caps.map Cap.av)).bind fun (as,d,n,q,B)=>(CT f as [[(0,B)]]).bind fun r=>(zG6 st dst d n q B r).bind fun (v,s)=> .done (v,s,kn,none)
  |_=> .fail
 | .callN f args=>match st.eval f with
  | .c (.fn f caps)=>match args.map st.eval++caps.map Cap.av with
   |a::r=>(zC9 st r).bind fun (r,st)=>match zCP st a with
    |some (a,q,q2)=>(CT f (a::r) [[(0,q.2.2),(1,q2.2.2)]]).bind fun res=>match zDC st q q2 res with
     |some (v,s)=> .done (v,s,kn,none)
     |none=> .fail
    |none=> .fail
   | []=> .fail
  |_=> .fail
 | .bslice ty sz len cols zero parts=>match zAL ((List.replicate len zero).map (·.map .p)) sz (parts.map fun (j,x)=>(j,st.eval x)) with
  |some rows=>if (cols.isEmpty=true∨len=0)∧rows.any (·.any zLO)=true then (zBi st rows).bind fun (rs,st)=> .done (.c (.own st.up.length (dst*64) (st.fresh (dst*64)) len),(st.new (dst*64) sz ty (bsK cols len rs)).2,kn,none) else zFa st kn dst (.bslice ty sz len cols zero parts)
  |none=> .fail
 |k=>zFa st kn dst k
def zBt (CT:zBx) (st:St) (kn:Kn) (o:KOper):Tr (St×Kn):=
 let go:St→Kn→Tr (St×Kn):=fun st kn=>(zDg CT st kn (o.dst.getD 0) o.op).bind fun (v,s,kn,kb)=> .done ({s with t:=zAy s.t o.dst v},zE7 kn o.dst kb)
 match o.guard with
 |none=>go st kn
 |some (j,want)=>match look j st.t with
  |some (.tup [])=> .done ({st with t:=zAy st.t o.dst (.tup [])},zE7 kn o.dst none)
  |_=>zJd st kn (.t j) fun v st kn=>if v=want then go st kn else .done ({st with t:=zAy st.t o.dst (.tup [])},zE7 kn o.dst none)
def zEU (CT:zBx):List KOper→St→Kn→Tr (St×Kn)
 | [],st,kn=> .done (st,kn)
 |o::r,st,kn=>(zBt CT st kn o).bind fun (st,kn)=>zEU CT r st kn
def zFd (CT:zBx):List (KOper×List Bool)→List Tch→St→Kn→Tr (St×Kn)
 | [],_,st,kn=> .done (st,kn)
 |(o,bs)::r,ts,st,kn=>if zIW bs ts (tch st o)=true then (zBt CT st kn o).bind fun p=>zFd CT r (tch st o::ts) p.1 p.2 else .fail
def zAx (CT:zBx) (LT:zDW):KCode→St→Kn→Tr (Ex×St×Kn)
 | .skip,st,kn=> .done (.normal,st,kn)
 | .ops l,st,kn=>(zEU CT l st kn).bind fun (st,kn)=> .done (.normal,st,kn)
 | .draw l,st,kn=>(zFd CT l [] st kn).bind fun (st,kn)=> .done (.normal,st,kn)
 | .seq a b,st,kn=>(zAx CT LT a st kn).bind fun (e,st,kn)=>match e with
  | .normal=>zAx CT LT b st kn
  |e=> .done (e,st,kn)
 | .cond c a b,st,kn=>zJd st kn c fun v st kn=>match v with
  |true=>zAx CT LT a st kn
  |false=>zAx CT LT b st kn
 | .block id c,st,kn=>(zAx CT LT c st kn).bind fun (e,st,kn)=> .done (if e= .exit id then .normal else e,st,kn)
 | .loop mk keep zAC c,st,kn=>(LT mk (st.norm keep)).bind fun (e,s)=> .done (e,s,[])
 | .exit id,st,kn=> .done (.exit id,st,kn)
 | .ret,st,kn=> .done (.ret,st,kn)
def zJj (st:St):List (Bool×List CV)→Tr (List (Bool×List CV)×St)
 | []=> .done ([],st)
 |(g,cs)::r=>(zBH st cs).bind fun (ps,st)=>(zJj st r).bind fun (l,st')=> .done ((g,ps.map CV.p)::l,st')
def zFe (kf:KFun) (e:Ex) (st:St):Tr Res:=
 if (e= .normal∨e= .ret)∧kf.frozen=true then match zBU st kf.results with
  |some l=>(zJj st l).bind fun (l,st)=> .done ⟨zAF l,st.up,[]⟩
  |none=> .fail
 else if e= .normal∨e= .ret then match (zBU st kf.results).bind (zGe st) with
  |some r=> .done r
  |none=> .fail
 else .fail
def zK6 (kf:KFun) (args:List AV) (up:List Frame) (r:Res):Tr Res:=
 if kf.nil1=true then match args,up with
  | [.c (.p (.ls rows))],[]=> .ask (!rows.isEmpty||zB7 r) (.done r) .fail
  |_,_=> .fail
 else .done r
def zKW (CT:zBx) (LT:zDW) (kf:KFun) (args:List AV) (up:List Frame):Tr Res:=
 if args.length=kf.params.length then (zAx CT LT kf.body ⟨zDn args 0,[],up⟩ []).bind fun (e,st,_)=>(zFe kf e st.low).bind (zK6 kf args up) else .fail
def zDX (CT:zBx) (run:zh):Prop:=∀f args up r,(CT f args up).run=some r→run f args up=some r
def zAA:KCode→List (Nat×List Nat×List (Ex×List Nat)×KCode)
 | .seq a b| .cond _ a b=>zAA a++zAA b
 | .block _ c=>zAA c
 | .loop mk keep zAC c=> [(mk,keep,zAC,c)]
 |_=> []
def zB4 (body:St→Option (Ex×St)) (keep:List Nat):Nat→St→Option (Ex×St)
 |0,_=>none
 |m+1,st=>(body st).bind fun (e,s)=>match e with
  | .normal=>zB4 body keep m (s.norm keep)
  |e=>some (e,s)
theorem zHo (body:St→Option (Ex×St)) (keep:List Nat):∀(m:Nat) (st:St),zGd body keep m st=zB4 body keep m (st.norm keep)
 |0,st=>rfl
 |m+1,st=>by
  simp only [zGd,zB4]
  congr 1
  funext p
  obtain ⟨e,s⟩:=p
  cases e with
  |normal=>exact zHo body keep m s
  |_=>rfl
def zGV (LT:zDW) (run:zh) (N:Nat) (c:KCode):Prop:=
 ∀mk keep zAC b,(mk,keep,zAC,b)∈zAA c→∀st e s,(LT mk st).run=some (e,s)→∃s0,zB4 (zm run N b) keep N st=some (e,s0)∧s=s0.norm (zBz e zAC)
section
variable {CT:zBx} {LT:zDW} {run:zh} {N:Nat} {st:St} {kn:Kn}
theorem zKX {dst:Nat} {k:KOp} {v:AV} {s:St} {kn':Kn} {kb:Option Bool} (hk:KnOK kn st) (h:(zFa st kn dst k).run=some (v,s,kn',kb)) (hst:∀{v s},zC zKj st dst k=some (v,s)→s.t=st.t):
  zC run st dst k=some (v,s)∧s.t=st.t∧KnOK kn' s∧∀b,kb=some b→v= .c (.p (.b b)):=by
 unfold zFa at h
 split at h
 ·rename_i v' s' he
  cases h
  have ht:=hst he
  exact ⟨zGO (fun f a u r h=>by cases h) he,ht,hk.frame ht,fun b hb=>by cases hb⟩
 ·cases h
theorem zFA {c:CV} {st:St} {y:PV×St} (h:zAH st c=some y):y.2.t=st.t:=by
 unfold zAH at h
 split at h
 ·cases h;rfl
 ·split at h
  ·split at h
   ·cases h;exact zy _ _ _ _
   ·cases h
  ·cases h
 ·cases h
theorem zBu:∀{l:List CV} {st:St} {y:List PV×St},zq st l=some y→y.2.t=st.t
 | [],st,y,h=>by cases h;rfl
 |x::r,st,y,h=>by
  simp only [zq,zN,zM] at h
  obtain ⟨⟨a,s1⟩,h1,⟨b,s2⟩,h2,rfl⟩:=h
  exact (zBu h2).trans (zFA h1)
theorem zCm:∀{l:List (List CV)} {st:St} {y:List (List PV)×St},zZ st l=some y→y.2.t=st.t
 | [],st,y,h=>by cases h;rfl
 |x::r,st,y,h=>by
  simp only [zZ,zN,zM] at h
  obtain ⟨⟨a,s1⟩,h1,⟨b,s2⟩,h2,rfl⟩:=h
  exact (zCm h2).trans (zBu h1)
theorem zEV:∀{l:List AV} {st:St} {y:List AV×St},zw st l=some y→y.2.t=st.t
 | [],st,y,h=>by cases h;rfl
 |x::r,st,y,h=>by
  simp only [zw,zN,zL] at h
  obtain ⟨⟨a,s1⟩,h1,⟨b,s2⟩,h2,rfl⟩:=h
  refine (zEV h2).trans ?_
  cases x with
  |c x=>
   simp only [z8,zL,Prod.mk.injEq,Prod.exists] at h1
   obtain ⟨p,s,h3,_,rfl⟩:=h1
   exact zFA h3
  |agg cs=>
   simp only [z8,zL,Prod.mk.injEq,Prod.exists] at h1
   obtain ⟨p,s,h3,_,rfl⟩:=h1
   exact zBu h3
  |tup vs=>cases h1
theorem zKY {st:St} {dst d n:Nat} {q:Option (Nat×Nat)} {B:Blk} {r:Res} {v:AV} {s:St} (h:zBY st dst d n q B r=some (v,s)):s.t=st.t:=by
 unfold zBY at h
 split at h
 ·split at h
  ·split at h
   ·split at h
    ·split at h
     ·cases h;exact zy _ _ _ _
     ·cases h
    ·cases h
   ·cases h
  ·cases h
 ·split at h
  ·split at h
   ·split at h
    ·cases h;exact zy _ _ _ _
    ·cases h
   ·cases h
  ·cases h
theorem zFf {a:AV} {xs:List CV} {s:St} (h:st.write a xs=some s):s.t=st.t:=by
 unfold St.write at h
 split at h
 ·split at h
  ·split at h
   ·cases h;exact zy _ _ _ _
   ·cases h
  ·simp only [zN] at h
   obtain ⟨⟨ys,s1⟩,h1,h⟩:=h
   have ht:=zBu h1
   simp only at h ht
   split at h
   ·split at h
    ·split at h
     ·split at h
      ·cases h;exact (zy _ _ _ _).trans ht
      ·cases h
     ·cases h
    ·cases h
   ·cases h
  ·obtain ⟨⟨ys,q⟩,_,h⟩:=Option.bind_eq_some_iff.1 h
   simp only at h
   split at h
   ·split at h
    ·split at h
     ·split at h
      ·cases h;exact zy _ _ _ _
      ·split at h
       ·split at h
        ·cases h;rw [zy,zy]
        ·cases h
       ·cases h
     ·cases h
    ·cases h
   ·cases h
  ·cases h
 ·cases h
theorem zBv {base:Nat}:∀(l:List (Nat×TypeId×Nat)) (i:Nat) (cs:List CV) (st:St),(zS base l i cs st).2.t=st.t
 | [],_,_,_=>rfl
 |(col,ty,sz)::r,i,cs,st=>by
  unfold zS
  split
  ·exact zBv r (i+1) _ _
  ·exact zBv r (i+1) cs st
theorem zGW {dst:Nat} {k:KOp} {v:AV} {s:St} (h:zC run st dst k=some (v,s)):s.t=st.t:=by
 cases k<;>simp only [zC] at h
 case nil=>cases h;rfl
 case mv=>cases h;rfl
 case mvR=>
  split at h
  ·split at h
   ·split at h
    ·split at h
     ·cases h;exact zy _ _ _ _
     ·cases h
    ·cases h
   ·cases h;rfl
  ·cases h;rfl
 case rel=>
  split at h
  ·split at h<;>cases h;rfl
  ·cases h
 case pick=>split at h<;>cases h;rfl
 case box=>
  split at h
  ·cases h
  ·split at h
   ·cases h;rfl
   ·cases h
 case build=>
  obtain ⟨cs,_,h⟩:=Option.map_eq_some_iff.1 h
  cases h;rfl
 case bslice=>
  obtain ⟨rows,_,h⟩:=Option.bind_eq_some_iff.1 h
  split at h
  ·rename_i rs s1 hf
   cases h
   unfold frz at hf
   split at hf
   ·exact zCm hf
   ·cases hf
  ·split at h
   ·cases h;rfl
   ·cases h
 case load=>
  obtain ⟨cs,_,h⟩:=Option.bind_eq_some_iff.1 h
  obtain ⟨v',_,h⟩:=Option.map_eq_some_iff.1 h
  cases h;rfl
 case store=>
  split at h
  ·cases h
  ·split at h
   ·obtain ⟨s',h1,h⟩:=Option.map_eq_some_iff.1 h
    cases h
    exact zFf h1
   ·cases h
 case storeN=>
  split at h
  ·cases h
  ·split at h
   ·obtain ⟨s',h1,h⟩:=Option.map_eq_some_iff.1 h
    cases h
    exact (zFf h1).trans (zBv _ _ _ _)
   ·cases h
 case chk=>
  split at h
  ·split at h<;>cases h;rfl
  ·cases h;rfl
  ·cases h;rfl
  ·cases h
 case bin=>
  split at h
  ·obtain ⟨_,_,h⟩:=Option.map_eq_some_iff.1 h;cases h;rfl
  ·cases h
 case eqs=>
  split at h
  ·obtain ⟨_,_,h⟩:=Option.map_eq_some_iff.1 h;cases h;rfl
  ·cases h
 case beq=>split at h<;>cases h;rfl
 case inil=>split at h<;>cases h<;>rfl
 case un=>
  split at h
  ·obtain ⟨_,_,h⟩:=Option.map_eq_some_iff.1 h;cases h;rfl
  ·cases h
 case conv=>split at h<;>cases h;rfl
 case str=>split at h<;>cases h;rfl
 case toStr=>
  obtain ⟨_,_,h⟩:=Option.bind_eq_some_iff.1 h
  obtain ⟨_,_,h⟩:=Option.map_eq_some_iff.1 h;cases h;rfl
 case mkfn=>obtain ⟨_,_,h⟩:=Option.map_eq_some_iff.1 h;cases h;rfl
 case mksl=>
  obtain ⟨_,_,h⟩:=Option.bind_eq_some_iff.1 h
  obtain ⟨_,_,h⟩:=Option.bind_eq_some_iff.1 h
  split at h<;>cases h;rfl
 case slcS=>
  split at h
  ·obtain ⟨_,_,h⟩:=Option.bind_eq_some_iff.1 h
   obtain ⟨_,_,h⟩:=Option.bind_eq_some_iff.1 h
   split at h<;>cases h;rfl
  ·cases h
 case slc=>
  split at h
  ·obtain ⟨_,_,h⟩:=Option.bind_eq_some_iff.1 h
   obtain ⟨_,_,h⟩:=Option.bind_eq_some_iff.1 h
   split at h<;>cases h;rfl
  ·cases h
 case faddr=>
  split at h
  ·split at h<;>cases h;rfl
  ·cases h;rfl
  ·cases h
 case field=>
  split at h
  ·split at h
   ·obtain ⟨_,_,h⟩:=Option.map_eq_some_iff.1 h;cases h;rfl
   ·cases h
  ·cases h
 case iaddr=>
  obtain ⟨i,_,h⟩:=Option.bind_eq_some_iff.1 h
  split at h
  ·split at h
   ·split at h
    ·split at h<;>cases h;rfl
    ·cases h
   ·cases h
  ·split at h
   ·split at h<;>cases h;rfl
   ·split at h<;>cases h;rfl
   ·split at h<;>cases h;rfl
   ·cases h
  ·cases h
 case index=>
  obtain ⟨i,_,h⟩:=Option.bind_eq_some_iff.1 h
  split at h
  ·split at h
   ·split at h<;>cases h;rfl
   ·cases h
  ·cases h
 case ext=>
  split at h
  ·split at h
   ·obtain ⟨_,_,h⟩:=Option.map_eq_some_iff.1 h;cases h;rfl
   ·cases h
  ·cases h
 case app=>
  split at h
  ·split at h<;>cases h;rfl
  ·split at h
   ·split at h
    ·cases h;exact zy _ _ _ _
    ·cases h
   ·cases h
  ·unfold zEX at h
   split at h
   ·split at h
    ·split at h
     ·obtain ⟨⟨ys,q⟩,_,h⟩:=Option.bind_eq_some_iff.1 h
      cases q with
      |none=>simp only at h;cases h;exact zy _ _ _ _
      |some t=>
       obtain ⟨k,esz,ety,d3,n3,g3,m3⟩:=t
       simp only at h
       split at h
       ·split at h
        ·cases h;rw [zy,zy]
        ·cases h
       ·cases h
     ·cases h
    ·cases h
   ·cases h
  ·cases h
 case boxN=>
  split at h
  ·cases h
  ·split at h
   ·cases h;rfl
   ·cases h
 case storeB=>
  split at h
  ·obtain ⟨s',h1,h⟩:=Option.map_eq_some_iff.1 h
   cases h
   exact (zFf h1).trans (zBv _ _ _ _)
  ·cases h
 case callN f args=>
  split at h
  ·cases hq:args.map st.eval++(List.map Cap.av ‹_›) with
   |nil=>rw [hq] at h;cases h
   |cons a0 r=>
    rw [hq] at h
    simp only [callN] at h
    obtain ⟨⟨r',s1⟩,h1,h⟩:=Option.bind_eq_some_iff.1 h
    obtain ⟨⟨a',q,q2⟩,h2,h⟩:=Option.bind_eq_some_iff.1 h
    obtain ⟨res,h3,h⟩:=Option.bind_eq_some_iff.1 h
    exact (zKV h).trans (zEV h1)
  ·cases h
 case len s x=>
  cases s
  ·simp only [zC] at h
   split at h
   ·cases h;rfl
   ·cases h;rfl
   ·split at h<;>cases h;rfl
   ·split at h<;>cases h;rfl
   ·cases h
  ·simp only [zC] at h
   split at h<;>cases h;rfl
 case mm=>obtain ⟨_,_,h⟩:=Option.map_eq_some_iff.1 h;cases h;rfl
 case call bo f args=>
  split at h
  ·unfold zAq at h
   split at h
   ·obtain ⟨⟨as,l⟩,_,h⟩:=Option.bind_eq_some_iff.1 h
    obtain ⟨r,_,h⟩:=Option.bind_eq_some_iff.1 h
    split at h<;>cases h;rfl
   ·obtain ⟨⟨ar,d,n,q,B⟩,_,h⟩:=Option.bind_eq_some_iff.1 h
    obtain ⟨r,_,h⟩:=Option.bind_eq_some_iff.1 h
    exact zKY h
  ·cases h
def zJk (run:zh) (st:St) (dst:Nat) (k:KOp) (x:OpR):Prop:=zC run st dst k=some (x.1,x.2.1)∧KnOK x.2.2.1 x.2.1∧∀b,x.2.2.2=some b→x.1= .c (.p (.b b))
theorem zBI {dst:Nat} {k:KOp} {x:OpR} (hk:KnOK kn st) (h:(zFa st kn dst k).run=some x):zJk run st dst k x:=by
 obtain ⟨v,s,kn',kb⟩:=x
 obtain ⟨h1,h2,h3,h4⟩:=zKX (run:=run) hk h (fun h=>zGW h)
 exact ⟨h1,h3,h4⟩
theorem zBw {dst:Nat} {k:KOp} {v:AV} {kn':Kn} {kb:Option Bool} {x:OpR} (he:zC run st dst k=some (v,st)) (hk:KnOK kn' st) (hb:∀b,kb=some b→v= .c (.p (.b b))) (h:(Tr.done (v,st,kn',kb)).run=some x):zJk run st dst k x:=by
 cases h
 exact ⟨he,hk,hb⟩
theorem zg {dst:Nat} {k:KOp} {v:AV} {s:St} {x:OpR} (he:zC run st dst k=some (v,s)) (hk:KnOK kn st) (h:(Tr.done (v,s,kn,none)).run=some x):zJk run st dst k x:=by
 cases h
 exact ⟨he,hk.frame (zGW he),fun b hb=>by cases hb⟩
theorem zIQ {a:AV} {y:AV×Nat×Nat×Option (Nat×Nat)×Blk} (h:(zG5 st a).run=some y):zBA st a=some y:=by
 unfold zG5 at h
 unfold zBA
 split at h
 ·split at h
  ·rename_i g' sz ty rows hB
   split at h
   ·rename_i hg
    obtain ⟨hm,h⟩:=Tr.ask_yes h
    cases h
    simp only [hB]
    rw [if_pos ⟨hg,hm⟩]
   ·cases h
  ·rename_i g' sz ty cols rows hB
   split at h
   ·rename_i hg
    obtain ⟨hm,h⟩:=Tr.ask_yes h
    cases h
    simp only [hB]
    rw [if_pos ⟨hg,hm⟩]
   ·cases h
  ·cases h
 ·obtain ⟨q,h1,h2⟩:=Tr.bind_some h
  cases h2
  simp only [zHm h1,Option.map_some]
 ·split at h
  ·rename_i g' sz ty cells hB
   split at h
   ·rename_i hc
    cases h
    simp only [hB]
    rw [if_pos hc]
   ·cases h
  ·cases h
 ·cases h
theorem zG7 {a:AV} (h:¬zJf a=true):zBA st a=none:=by
 unfold zJf at h
 unfold zBA
 split
 ·simp at h
 ·simp at h
 ·simp at h
 ·rfl
theorem zFB:∀{l:List AV} {y:List AV×Nat×Nat×Option (Nat×Nat)×Blk},(zFb st l).run=some y→zAp st l=some y
 | [],y,h=>by cases h
 |a::r,y,h=>by
  simp only [zFb] at h
  simp only [zAp]
  split at h
  ·obtain ⟨⟨a',q⟩,h1,h⟩:=Tr.bind_some h
   rw [zIQ h1]
   simp only at h⊢
   split at h
   ·rename_i r' hr
    cases h
    rw [hr]
    rfl
   ·cases h
  ·rename_i hn
   rw [zG7 hn]
   simp only
   split at h
   ·rename_i a' ha
    obtain ⟨⟨r',q⟩,h1,h⟩:=Tr.bind_some h
    cases h
    rw [ha,zFB h1]
    rfl
   ·cases h
theorem zGX {n dst:Nat} {a x:KX} (h:∀vs,st.eval x= .tup vs→False):zC run st dst (.store n a x)=if (st.eval x).cvs.length=n∧(st.eval x).cvs.all (·.known)=true then (st.write (st.eval a) (st.eval x).cvs).map fun st=>(.c .u,st) else none:=by
 simp only [zC]
theorem zG8 {st:St} {d m g sz ty j o gg:Nat} {cols:List (Nat×Nat×TypeId)} {rows:List (List PV)} {xs:List CV} {s:St} (h:(zFc st d m g sz ty j o cols rows xs).run=some s) (hB:st.get d m=some ⟨g,sz,ty,.deep cols rows⟩) (hg:gg=g∧o≠KO):
  st.write (.c (.ptr d m gg j o)) xs=some s:=by
 simp only [St.write,hB]
 unfold zFc at h
 split at h
 ·rename_i ys hp
  obtain ⟨e,he,h⟩:=Tr.opt_some h
  obtain ⟨h1,h⟩:=Tr.ask_yes h
  cases h
  rw [hp]
  simp only [zG]
  rw [if_pos hg,he]
  simp only
  rw [if_pos h1]
 ·rename_i ys k esz ety d2 n2 g2 m2 hp
  split at h
  ·rename_i g2' esz' ety' rows2 hR
   split at h
   ·rename_i hc
    obtain ⟨e,he,h⟩:=Tr.opt_some h
    obtain ⟨h1,h⟩:=Tr.ask_yes h
    cases h
    rw [hp]
    simp only [zG]
    rw [if_pos hg,he]
    simp only
    rw [if_pos h1.1,hR,zJg h1.2.2]
    simp only
    rw [if_pos ⟨hc.1,hc.2.1,hc.2.2,h1.2.1⟩]
   ·cases h
  ·cases h
 ·cases h
theorem zG9 (hC:zDX CT run) (hk:KnOK kn st) {dst:Nat} {k:KOp} {x:OpR} (h:(zDg CT st kn dst k).run=some x):zJk run st dst k x:=by
 unfold zDg at h
 split at h
 ·--mv
  exact zBw rfl hk (fun b hb=>zFW hk hb) h
 ·--pick
  obtain ⟨v,kn',h1,h2,h3⟩:=zFX hk h
  cases v
  ·exact zBw (by simp only [zC,h1];rfl) h2 (fun b hb=>zFW h2 hb) h3
  ·exact zBw (by simp only [zC,h1];rfl) h2 (fun b hb=>zFW h2 hb) h3
 ·--un
  split at h
  ·rename_i v hx
   refine zBw (by simp only [zC,hx,unP];rfl) hk (fun b hb=>?_) h
   obtain ⟨c,hc,rfl⟩:=Option.map_eq_some_iff.1 hb
   have:=zFW hk hc
   rw [hx] at this
   cases this
   rfl
  ·exact zBI hk h
 ·--bin
  rename_i op x y
  split at h
  ·rename_i k a k' b hx hy
   split at h
   ·rename_i e
    subst e
    have key:∀{r:PV} {z:OpR},zFE op k a b=some r→(Tr.done ((.c (.p r),st,kn,none):OpR)).run=some z→zJk run st dst (.bin op x y) z:=fun {r z} hr h'=>
     zg (by simp only [zC,hx,hy,zGb,if_true,hr,Option.map_some]) hk h'
    unfold zKk at h
    split at h
    ·split at h
     ·split at h
      ·rename_i r hr;exact key hr h
      ·cases h
     ·rcases Tr.ask_some h with ⟨_,h2⟩|⟨h1,h2⟩
      ·cases h2
      ·have h1:¬b=0:=by simpa using h1
       exact key (by simp only [zFE];rw [if_neg h1]) h2
    ·split at h
     ·split at h
      ·rename_i r hr;exact key hr h
      ·cases h
     ·rcases Tr.ask_some h with ⟨_,h2⟩|⟨h1,h2⟩
      ·cases h2
      ·have h1:¬b=0:=by simpa using h1
       exact key (by simp only [zFE];rw [if_neg h1]) h2
    ·split at h
     ·split at h
      ·rename_i r hr;exact key hr h
      ·cases h
     ·cases h
    ·split at h
     ·split at h
      ·rename_i r hr;exact key hr h
      ·cases h
     ·cases h
    ·split at h
     ·rename_i r hr;exact key hr h
     ·cases h
   ·cases h
  ·rename_i a b hx hy
   split at h
   ·obtain ⟨h1,h2⟩:=Tr.ask_yes h
    exact zg (by simp only [zC,hx,hy,zGb,zIU];rw [if_pos h1];rfl) hk h2
   ·split at h
    ·rename_i r hr
     exact zg (by simp only [zC,hx,hy,zGb,hr,Option.map_some]) hk h
    ·cases h
  ·cases h
 ·--load
  rename_i g n ks a
  split at h
  ·rename_i e o ha
   split at h
   ·rename_i hc
    obtain ⟨cs,h1,h2⟩:=Tr.bind_some h
    obtain ⟨ps,rfl,h3,h4⟩:=zC7 h1
    obtain ⟨h5,h6⟩:=zCK (by omega) h4
    split at h2
    ·rename_i v hv
     rw [h3,hc.1] at h5 h6
     exact zg (by simp only [zC,ha,St.read];rw [if_pos h5,h6];simp only [zG,hv,Option.map_some]) hk h2
    ·cases h2
   ·cases h
  ·rename_i d m gg j o ha
   split at h
   ·rename_i g' sz ty rows hB
    split at h
    ·rename_i hc
     obtain ⟨e,he,h⟩:=Tr.opt_some h
     obtain ⟨cs,h1,h2⟩:=Tr.bind_some h
     obtain ⟨ps,rfl,h3,h4⟩:=zC7 h1
     obtain ⟨h5,h6⟩:=zCK (by omega) h4
     split at h2
     ·rename_i v hv
      rw [h3,hc.2.1] at h5 h6
      exact zg (by simp only [zC,ha,St.read,hB];rw [if_pos ⟨hc.1,hc.2.2.2⟩,he];simp only;rw [if_pos h5,h6];simp only [zG,hv,Option.map_some]) hk h2
     ·cases h2
    ·cases h
   ·rename_i g' sz ty cols rows hB
    split at h
    ·rename_i hc
     obtain ⟨e,he,h⟩:=Tr.opt_some h
     obtain ⟨cs,h1,h2⟩:=Tr.bind_some h
     obtain ⟨ps,rfl,h3,h4⟩:=zGQ h1
     obtain ⟨h5,h6⟩:=zCK (by omega) h4
     split at h2
     ·rename_i v hv
      rw [h3,hc.2.1] at h5 h6
      exact zg (by simp only [zC,ha,St.read,hB];rw [if_pos ⟨hc.1,hc.2.2.2⟩,he];simp only;rw [if_pos h5,h6];simp only [zG,hv,Option.map_some]) hk h2
     ·cases h2
    ·cases h
   ·exact zBI hk h
  ·cases h
 ·--store
  rename_i n a x
  split at h
  ·rename_i d m gg j o v ha
   split at h
   ·cases h
   ·rename_i B1 B2 B3 B4 hB hnt
    split at h
    ·rename_i hc
     obtain ⟨⟨ys,s1⟩,h1,h2⟩:=Tr.bind_some h
     obtain ⟨h3,h4⟩:=zAh h1
     simp only at h2
     split at h2
     ·rename_i g' sz ty rows hB'
      split at h2
      ·rename_i hg
       obtain ⟨e,he,h2⟩:=Tr.opt_some h2
       obtain ⟨h5,h2⟩:=Tr.ask_yes h2
       refine zg ?_ hk h2
       rw [zGX hnt,if_pos hc,ha]
       simp only [St.write,hB,h3,zG,hB']
       rw [if_pos hg,he]
       simp only
       rw [if_pos h5]
       rfl
      ·cases h2
     ·cases h2
    ·cases h
   ·cases h
   ·rename_i g' sz ty cols rows hB hnt
    split at h
    ·rename_i hc
     obtain ⟨s2,h1,h2⟩:=Tr.bind_some h
     refine zg ?_ hk h2
     rw [zGX hnt,if_pos ⟨hc.1,hc.2.1⟩,ha]
     rw [zG8 h1 hB hc.2.2]
     rfl
    ·cases h
   ·exact zBI hk h
  ·cases h
 ·--index
  split at h
  ·rename_i s i hx hi
   obtain ⟨h1,h⟩:=Tr.ask_yes h
   obtain ⟨c,h2,h⟩:=Tr.opt_some h
   exact zg (by simp only [zC,hi,zAZ,zG,hx];rw [if_pos h1,h2]) hk h
  ·cases h
 ·--iaddr
  rename_i sz x i
  split at h
  ·rename_i rows z hx hi
   obtain ⟨h1,h⟩:=Tr.ask_yes h
   obtain ⟨e,h2,h⟩:=Tr.opt_some h
   obtain ⟨h3,h⟩:=Tr.ask_yes h
   exact zg (by simp only [zC,hi,zAZ,zG,hx];rw [if_pos h1,h2];simp only;rw [if_pos h3]) hk h
  ·rename_i d n g m z hx hi
   split at h
   ·rename_i g' sz' ty rows hB
    split at h
    ·rename_i hc
     obtain ⟨h1,h⟩:=Tr.ask_yes h
     exact zg (by simp only [zC,hi,zAZ,zG,hx,hB];rw [if_pos ⟨hc.1,hc.2,h1⟩]) hk h
    ·cases h
   ·rename_i g' sz' ty cols rows hB
    split at h
    ·rename_i hc
     obtain ⟨h1,h⟩:=Tr.ask_yes h
     exact zg (by simp only [zC,hi,zAZ,zG,hx,hB];rw [if_pos ⟨hc.1,hc.2,h1⟩]) hk h
    ·cases h
   ·exact zBI hk h
  ·cases h
 ·--slcS
  rename_i x lo hi
  split at h
  ·rename_i s l hx hl
   split at h
   ·rename_i u hu
    obtain ⟨h1,h⟩:=Tr.ask_yes h
    exact zg (by simp only [zC,hx,hl,hu,zG];rw [if_pos h1]) hk h
   ·cases h
  ·cases h
 ·--slc
  rename_i sz x lo hi
  split at h
  ·rename_i rows l hx hl
   split at h
   ·rename_i u hu
    obtain ⟨h1,h⟩:=Tr.ask_yes h
    exact zg (by simp only [zC,hx,hl,hu,zG];rw [if_pos h1]) hk h
   ·cases h
  ·cases h
 ·--toStr
  obtain ⟨rows,h1,h⟩:=Tr.bind_some h
  obtain ⟨l,h2,h⟩:=Tr.opt_some h
  exact zg (by simp only [zC,zGS h1,zG,h2,Option.map_some]) hk h
 ·--app
  rename_i ty sz bytes x y
  split at h
  ·obtain ⟨d,n,g,m,v,s,hx,h1,h2,h3⟩:=zJi h
   exact zg (by simp only [zC,hx,h2,h1]) hk h3
  obtain ⟨ys,h1,h⟩:=Tr.bind_some h
  have h1:=zGS h1
  split at h
  ·rename_i hx
   obtain ⟨h2,h⟩:=Tr.ask_yes h
   exact zg (by simp only [zC,hx,h1];rw [if_pos h2]) hk h
  ·rename_i d n g m hx
   split at h
   ·rename_i g' sz' ty' rows hB
    split at h
    ·rename_i hc
     obtain ⟨h2,h⟩:=Tr.ask_yes h
     exact zg (by simp only [zC,hx,h1,hB];rw [if_pos ⟨hc.1,hc.2.1,hc.2.2,h2⟩]) hk h
    ·cases h
   ·cases h
  ·cases h
 ·--mksl
  split at h
  ·rename_i l c hl hc
   split at h
   ·rename_i hz
    obtain ⟨h2,h⟩:=Tr.ask_yes h
    exact zg (by simp only [zC,hl,hc,zAZ,zG];rw [if_pos ⟨h2.1,h2.2.1,h2.2.2.1,h2.2.2.2,hz.1,hz.2⟩]) hk h
   ·cases h
  ·cases h
 ·--call
  rename_i f args
  split at h
  ·rename_i g caps hf
   obtain ⟨⟨as,lent⟩,h1,h⟩:=Tr.bind_some h
   obtain ⟨r,h2,h⟩:=Tr.bind_some h
   have h1:=zET h1
   have h2:=hC _ _ _ _ h2
   split at h
   ·rename_i hs
    split at h
    ·rename_i hc
     refine zg ?_ hk h
     simp only [zC,hf,zAq,if_true,h1,zG,h2]
     rw [if_pos ⟨.inl hc,hs⟩]
    ·rcases Tr.ask_some h with ⟨hc,h⟩|⟨_,h⟩
     ·refine zg ?_ hk h
      simp only [zC,hf,zAq,if_true,h1,zG,h2]
      rw [if_pos ⟨.inr hc,hs⟩]
     ·cases h
   ·cases h
  ·cases h
 ·--a call that is lent a block
  rename_i f args
  split at h
  ·rename_i g caps hf
   obtain ⟨⟨as,d,n,q,B⟩,h1,h⟩:=Tr.bind_some h
   obtain ⟨r,h2,h⟩:=Tr.bind_some h
   obtain ⟨⟨v,s⟩,hb,h⟩:=Tr.bind_some h
   have h1:=zFB h1
   have h2:=hC _ _ _ _ h2
   have hb:=zIP hb
   refine zg ?_ hk h
   simp only [zC,hf,zAq,Bool.false_eq_true,if_false,h1,zG,h2,hb]
  ·cases h
 ·--a call that is lent a box with an own row
  rename_i f args
  split at h
  ·rename_i g caps hf
   split at h
   ·rename_i a r hq
    obtain ⟨⟨r',s1⟩,h1,h⟩:=Tr.bind_some h
    have h1:=(zCl h1).1
    simp only at h
    split at h
    ·rename_i a' q q2 hl
     obtain ⟨res,h2,h⟩:=Tr.bind_some h
     have h2:=hC _ _ _ _ h2
     split at h
     ·rename_i v s hb
      refine zg ?_ hk h
      simp only [zC,hf,hq,callN,h1,zG,hl,h2,hb]
     ·cases h
    ·cases h
   ·cases h
  ·cases h
 ·--a literal slice
  split at h
  ·rename_i rows hrows
   split at h
   ·rename_i hcl
    obtain ⟨⟨rs,s1⟩,h1,h⟩:=Tr.bind_some h
    obtain ⟨h1,ht⟩:=zBj h1
    cases h
    exact ⟨by simp only [zC,hrows,zG,frz,if_pos hcl.1,h1],hk.frame ht,fun b hb=>by cases hb⟩
   ·exact zBI hk h
  ·cases h
 ·exact zBI hk h
theorem zCn (hC:zDX CT run) (hk:KnOK kn st) {o:KOper} {s:St} {kn':Kn} (h:(zBt CT st kn o).run=some (s,kn')):zQ run st o=some s∧KnOK kn' s:=by
 have go:∀{kn:Kn},KnOK kn st→((zDg CT st kn (o.dst.getD 0) o.op).bind fun (v,s,kn,kb)=>Tr.done (({s with t:=zAy s.t o.dst v}:St),zE7 kn o.dst kb)).run=some (s,kn')→
   (zC run st (o.dst.getD 0) o.op).map (fun (a,st)=>({st with t:=zAy st.t o.dst a}:St))=some s∧KnOK kn' s:=fun {kn} hk h=>by
  obtain ⟨⟨v,s1,kn1,kb⟩,h1,h2⟩:=Tr.bind_some h
  obtain ⟨e1,e2,e3⟩:=zG9 hC hk h1
  cases h2
  exact ⟨by rw [e1];rfl,zEN e2 e3⟩
 unfold zBt at h
 cases hg:o.guard with
 |none=>
  simp only [hg] at h
  simp only [zQ,hg]
  exact go hk h
 |some jw=>
  obtain ⟨j,want⟩:=jw
  simp only [hg] at h
  split at h
  ·rename_i hu
   simp only [zQ,hg,hu]
   cases h
   exact ⟨rfl,zEN hk (fun b hb=>by cases hb)⟩
  obtain ⟨v,kn1,h1,h2,h3⟩:=zFX hk h
  have h1':look j st.t=some (.c (.p (.b v))):=by
   simp only [St.eval] at h1
   cases hq:look j st.t with
   |none=>rw [hq] at h1;cases h1
   |some a=>rw [hq] at h1;simp only at h1;rw [h1]
  simp only [zQ,hg,h1']
  split at h3
  ·rename_i e
   rw [if_pos e]
   exact go h2 h3
  ·rename_i e
   rw [if_neg e]
   cases h3
   exact ⟨rfl,zEN h2 (fun b hb=>by cases hb)⟩
theorem zDS (hC:zDX CT run):∀{l:List KOper} {st:St} {kn:Kn} {s:St} {kn':Kn},KnOK kn st→(zEU CT l st kn).run=some (s,kn')→zA0 run l st=some s∧KnOK kn' s
 | [],st,kn,s,kn',hk,h=>by cases h;exact ⟨rfl,hk⟩
 |o::r,st,kn,s,kn',hk,h=>by
  obtain ⟨⟨s1,kn1⟩,h1,h2⟩:=Tr.bind_some h
  obtain ⟨e1,e2⟩:=zCn hC hk h1
  obtain ⟨e3,e4⟩:=zDS hC e2 h2
  exact ⟨by simp only [zA0,e1,zG,e3],e4⟩
theorem zFC (hC:zDX CT run):∀{l:List (KOper×List Bool)} {ts:List Tch} {st:St} {kn:Kn} {s:St} {kn':Kn},KnOK kn st→(zFd CT l ts st kn).run=some (s,kn')→zDl run l ts st=some s∧KnOK kn' s
 | [],ts,st,kn,s,kn',hk,h=>by cases h;exact ⟨rfl,hk⟩
 |(o,bs)::r,ts,st,kn,s,kn',hk,h=>by
  simp only [zFd] at h
  split at h
  ·rename_i hc
   obtain ⟨⟨s1,kn1⟩,h1,h2⟩:=Tr.bind_some h
   obtain ⟨e1,e2⟩:=zCn hC hk h1
   obtain ⟨e3,e4⟩:=zFC hC e2 h2
   exact ⟨by simp only [zDl,hc,if_true,e1,zG];exact e3,e4⟩
  ·cases h
theorem zDA (hC:zDX CT run):∀(c:KCode),zGV LT run N c→∀{st:St} {kn:Kn} {e:Ex} {s:St} {kn':Kn},KnOK kn st→(zAx CT LT c st kn).run=some (e,s,kn')→zm run N c st=some (e,s)∧KnOK kn' s:=by
 intro c
 induction c with
 |skip=>intro hL st kn e s kn' hk h;cases h;exact ⟨rfl,hk⟩
 |ops l=>
  intro hL st kn e s kn' hk h
  obtain ⟨⟨s1,kn1⟩,h1,h2⟩:=Tr.bind_some h
  cases h2
  obtain ⟨e1,e2⟩:=zDS hC hk h1
  exact ⟨by simp only [zm,e1,Option.map_some],e2⟩
 |draw l=>
  intro hL st kn e s kn' hk h
  obtain ⟨⟨s1,kn1⟩,h1,h2⟩:=Tr.bind_some h
  cases h2
  obtain ⟨e1,e2⟩:=zFC hC hk h1
  exact ⟨by simp only [zm,e1,Option.map_some],e2⟩
 |seq a b iha ihb=>
  intro hL st kn e s kn' hk h
  obtain ⟨⟨e1,s1,kn1⟩,h1,h2⟩:=Tr.bind_some h
  obtain ⟨g1,g2⟩:=iha (fun mk keep zAC b hm=>hL mk keep zAC b (by simp only [zAA];exact List.mem_append_left _ hm)) hk h1
  simp only [zm,g1,zG]
  cases e1 with
  |normal=>exact ihb (fun mk keep zAC b hm=>hL mk keep zAC b (by simp only [zAA];exact List.mem_append_right _ hm)) g2 h2
  |exit id=>cases h2;exact ⟨rfl,g2⟩
  |ret=>cases h2;exact ⟨rfl,g2⟩
 |cond c a b iha ihb=>
  intro hL st kn e s kn' hk h
  obtain ⟨v,kn1,h1,h2,h3⟩:=zFX hk h
  simp only [zm,h1]
  cases v
  ·exact ihb (fun mk keep zAC b hm=>hL mk keep zAC b (by simp only [zAA];exact List.mem_append_right _ hm)) h2 h3
  ·exact iha (fun mk keep zAC b hm=>hL mk keep zAC b (by simp only [zAA];exact List.mem_append_left _ hm)) h2 h3
 |block id c ih=>
  intro hL st kn e s kn' hk h
  obtain ⟨⟨e1,s1,kn1⟩,h1,h2⟩:=Tr.bind_some h
  cases h2
  obtain ⟨g1,g2⟩:=ih (fun mk keep zAC b hm=>hL mk keep zAC b (by simpa only [zAA] using hm)) hk h1
  exact ⟨by simp only [zm,g1,Option.map_some],g2⟩
 |loop mk keep zAC c ih=>
  intro hL st kn e s kn' hk h
  obtain ⟨⟨e1,s1⟩,h1,h2⟩:=Tr.bind_some h
  cases h2
  obtain ⟨s0,g1,rfl⟩:=hL mk keep zAC c (by simp [zAA]) _ _ _ h1
  exact ⟨by simp only [zm,zHo,g1,Option.map_some],fun n b hn=>by cases hn⟩
 |exit id=>intro hL st kn e s kn' hk h;cases h;exact ⟨rfl,hk⟩
 |ret=>intro hL st kn e s kn' hk h;cases h;exact ⟨rfl,hk⟩
theorem zGY:∀{l:List (Bool×List CV)} {st:St} {y:List (Bool×List CV)×St},(zJj st l).run=some y→zAC st l=some y
 | [],st,y,h=>by cases h;rfl
 |(g,cs)::r,st,y,h=>by
  obtain ⟨⟨ps,s1⟩,h1,h2⟩:=Tr.bind_some h
  obtain ⟨⟨l,s2⟩,h3,h4⟩:=Tr.bind_some h2
  cases h4
  simp only [zAC,(zAh h1).1,zG,zGY h3,Option.map_some]
theorem zHA {kf:KFun} {e:Ex} {st:St} {r:Res} (h:(zFe kf e st).run=some r):zCs kf e st=some r:=by
 unfold zFe at h
 unfold zCs
 split at h
 ·rename_i hc
  rw [if_pos hc]
  split at h
  ·rename_i l hl
   obtain ⟨⟨l',s⟩,h1,h2⟩:=Tr.bind_some h
   cases h2
   simp only [hl,zG,zGY h1,Option.map_some]
  ·cases h
 ·rename_i hc
  rw [if_neg hc]
  split at h
  ·rename_i hc2
   rw [if_pos hc2]
   split at h
   ·rename_i r' hr
    cases h
    exact hr
   ·cases h
  ·cases h
theorem zKZ {kf:KFun} {args:List AV} {up:List Frame} {q r:Res} (h:(zK6 kf args up q).run=some r):zGf kf args up q=some r:=by
 unfold zK6 at h
 unfold zGf
 split at h
 ·rename_i hn
  rw [if_pos hn]
  split at h
  ·rcases Tr.ask_some h with ⟨hc,h⟩|⟨_,h⟩
   ·cases h
    simp only
    rw [if_pos hc]
   ·cases h
  ·cases h
 ·rename_i hn
  rw [if_neg hn]
  exact h
theorem zKa (hC:zDX CT run) {kf:KFun} (hL:zGV LT run N kf.body) {args:List AV} {up:List Frame} {r:Res} (h:(zKW CT LT kf args up).run=some r):
  args.length=kf.params.length∧((zm run N kf.body ⟨zDn args 0,[],up⟩).bind fun (e,st)=>(zCs kf e st.low).bind (zGf kf args up))=some r:=by
 unfold zKW at h
 split at h
 ·rename_i hl
  obtain ⟨⟨e,s,kn⟩,h1,h2⟩:=Tr.bind_some h
  obtain ⟨g1,_⟩:=zDA (N:=N) hC kf.body hL (fun n b hn=>by cases hn) h1
  obtain ⟨q,h3,h4⟩:=Tr.bind_some h2
  exact ⟨hl,by rw [g1];simp only [zG,zHA h3];exact zKZ h4⟩
 ·cases h
end
theorem zIR {KP:FuncId→Option KFun} {lib:zh} {n:Nat} {CT:zBx} {LT:zDW} {f:FuncId} {kf:KFun} (hf:KP f=some kf) (hC:zDX CT (zB8 KP lib n)) (hL:zGV LT (zB8 KP lib n) n kf.body) {args:List AV} {up:List Frame} {r:Res}
  (h:(zKW CT LT kf args up).run=some r):zB8 KP lib (n+1) f args up=some r:=by
 obtain ⟨h1,h2⟩:=zKa hC hL h
 simp only [zB8,hf]
 rw [if_pos h1]
 exact h2
end Go.Eng

