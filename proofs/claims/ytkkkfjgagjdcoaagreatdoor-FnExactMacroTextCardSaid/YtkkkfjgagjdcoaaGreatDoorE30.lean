import Derived.Test.YtkkkfjgagjdcoaaGreatDoorE29
set_option linter.unusedVariables false
set_option linter.unusedSimpArgs false
namespace Go.Eng
abbrev zDf:=FuncId→List AV→List Frame→Tr Res
abbrev zGU:=Nat→St→Tr (Ex×St)
def zKc:zY:=fun _ _ _=>none
abbrev OpR:=AV×St×Kn×Option Bool
def zFj (st:St) (kn:Kn) (dst:Nat) (k:KOp):Tr OpR:=match zA zKc st dst k with
 |some (v,s)=> .done (v,s,kn,none)
 |none=> .fail
def zKd (op:BinOp) (k:IntKind) (lit:Bool) (x y:Int) (done:PV→Tr OpR):Tr OpR:=
 match op with
 | .quo| .rem=>if lit then (match zFS op k x y with|some r=>done r|none=> .fail) else .ask (decide (y=0)) .fail (match op with| .quo=>done (.i k (k.wrap (x.tdiv y)))|_=>done (.i k (x.tmod y)))
 | .shl| .shr=>if lit then (match zFS op k x y with|some r=>done r|none=> .fail) else .fail
 |_=>match zFS op k x y with
  |some r=>done r
  |none=> .fail
def zLC:KX→Bool
 | .k _=>true
 | .t _=>false
def zG6 (st:St):AV→Tr (AV×Nat×Nat×Blk)
 | .c (.own d n g m)=>match st.get d n with
  |some ⟨g',sz,ty,.row rows⟩=>if g=g' then .ask (decide (m=rows.length)) (.done (.c (.own 0 0 0 m),d,n,⟨0,sz,ty,.row rows⟩)) .fail else .fail
  |_=> .fail
 | .c (.ptr d n g 0 0)=>match st.get d n with
  |some ⟨g',sz,ty,.box cells⟩=>if g=g'∧cells.all isP=true then .done (.c (.ptr 0 0 0 0 0),d,n,⟨0,sz,ty,.box cells⟩) else .fail
  |_=> .fail
 |_=> .fail
def zJa:AV→Bool
 | .c (.own ..)| .c (.ptr ..)=>true
 |_=>false
def zFk (st:St):List AV→Tr (List AV×Nat×Nat×Blk)
 | []=> .fail
 |a::r=>if zJa a=true then (zG6 st a).bind fun (a,d,n,B)=>match zCa r with
   |some r=> .done (a::r,d,n,B)
   |none=> .fail
  else match zCz a with
   |some a=>(zFk st r).bind fun (r,q)=> .done (a::r,q)
   |none=> .fail
def zGV (st:St):AV→Tr (AV×St)
 | .c x=>(zCt st x).bind fun (a,st)=> .done (.c (.p a),st)
 | .agg cs=>(zBZ st cs).bind fun (l,st)=> .done (.agg (l.map .p),st)
 | .tup _=> .fail
def zDG (st:St):List AV→Tr (List AV×St)
 | []=> .done ([],st)
 |x::r=>(zGV st x).bind fun (a,st)=>(zDG st r).bind fun (l,st)=> .done (a::l,st)
theorem zGW {st:St} {a:AV} {y:AV×St} (h:(zGV st a).run=some y):zu st a=some y∧y.2.t=st.t:=by
 cases a with
 |c x=>
  obtain ⟨⟨p,s⟩,h1,h2⟩:=Tr.bind_some h
  cases h2
  obtain ⟨e1,t1⟩:=zDb h1
  exact ⟨by simp only [zu,e1,Option.map_some],t1⟩
 |agg cs=>
  obtain ⟨⟨p,s⟩,h1,h2⟩:=Tr.bind_some h
  cases h2
  obtain ⟨e1,t1⟩:=zA2 h1
  exact ⟨by simp only [zu,e1,Option.map_some],t1⟩
 |tup vs=>cases h
theorem zCv:∀{l:List AV} {st:St} {y:List AV×St},(zDG st l).run=some y→zq st l=some y∧y.2.t=st.t
 | [],st,y,h=>by cases h;exact ⟨rfl,rfl⟩
 |x::r,st,y,h=>by
  obtain ⟨⟨a,st1⟩,h1,h2⟩:=Tr.bind_some h
  obtain ⟨⟨b,st2⟩,h3,h4⟩:=Tr.bind_some h2
  cases h4
  obtain ⟨e1,t1⟩:=zGW h1
  obtain ⟨e2,t2⟩:=zCv h3
  simp only [zq,e1,Option.bind_some,e2,Option.map_some]
  exact ⟨by first|rfl|trivial,t2.trans t1⟩
theorem zKN {st st':St} {q q2:Nat×Nat×Blk} {r:Res} {v:AV} (h:zDJ st q q2 r=some (v,st')):st'.t=st.t:=by
 obtain ⟨_,_,_,_,_,_,_,_,_,_,_,_,_,_,_,_,_,_,_,_,_,_,rfl⟩:=zE0 h
 rw [zA5,zA5]
def zB3 (st:St):List (List CV)→Tr (List (List PV)×St)
 | []=> .done ([],st)
 |x::r=>(zBZ st x).bind fun (a,st)=>(zB3 st r).bind fun (b,st)=> .done (a::b,st)
theorem zB4:∀{l:List (List CV)} {st:St} {y:List (List PV)×St},(zB3 st l).run=some y→zU st l=some y∧y.2.t=st.t
 | [],st,y,h=>by cases h;exact ⟨rfl,rfl⟩
 |x::r,st,y,h=>by
  obtain ⟨⟨a,st1⟩,h1,h2⟩:=Tr.bind_some h
  obtain ⟨⟨b,st2⟩,h3,h4⟩:=Tr.bind_some h2
  cases h4
  obtain ⟨e1,t1⟩:=zA2 h1
  obtain ⟨e2,t2⟩:=zB4 h3
  simp only [zU,e1,Option.bind_some,e2]
  exact ⟨by first|rfl|trivial,t2.trans t1⟩
def zLD:CV→Bool
 | .own ..=>true
 |_=>false
def zDp (CT:zDf) (st:St) (kn:Kn) (dst:Nat):KOp→Tr OpR
 | .mv x=> .done (st.eval x,st,kn,knX kn x)
 | .pick c a b=>zJY st kn c fun v st kn=>match v with
  |true=> .done (st.eval a,st,kn,knX kn a)
  |false=> .done (st.eval b,st,kn,knX kn b)
 | .un op x=>match op,st.eval x with
  | .not,.c (.p (.b v))=> .done (.c (.p (.b (!v))),st,kn,(knX kn x).map (!·))
  |_,_=>zFj st kn dst (.un op x)
 | .bin op x y=>match st.eval x,st.eval y with
  | .c (.p (.i k a)),.c (.p (.i k' b))=>if k=k' then zKd op k (zLC y) a b (fun r=> .done (.c (.p r),st,kn,none)) else .fail
  | .c (.p (.s a)),.c (.p (.s b))=>match op with
   | .add=> .ask (decide (a.size+b.size≤9223372036854775807)) (.done (.c (.p (.s (a++b))),st,kn,none)) .fail
   |op=>match zIO op a b with
    |some r=> .done (.c (.p r),st,kn,none)
    |none=> .fail
  |_,_=> .fail
 | .load g n ks a=>match st.eval a with
  | .c (.rp e o)=>if ks.length=n∧0<n then (zDC e o ks).bind fun cs=>match zBo g cs with
    |some v=> .done (v,st,kn,none)
    |none=> .fail
   else .fail
  | .c (.ptr d m gg j o)=>match st.get d m with
   |some ⟨g',_,_,.row rows⟩=>if gg=g'∧ks.length=n∧0<n∧o≠KO then .opt (rows[j]?) fun e=>(zDC e o ks).bind fun cs=>match zBo g cs with
     |some v=> .done (v,st,kn,none)
     |none=> .fail
    else .fail
   |_=>zFj st kn dst (.load g n ks a)
  |_=> .fail
 | .store n a x=>match st.eval a,st.eval x with
  | .c (.ptr d m gg j o),v=>match st.get d m,v with
   |some ⟨_,_,_,.row _⟩,.tup _=> .fail
   |some ⟨_,_,_,.row _⟩,v=>if v.cvs.length=n∧v.cvs.all (·.known)=true then
     (zBZ st v.cvs).bind fun (ys,st)=>match st.get d m with
      |some ⟨g',sz,ty,.row rows⟩=>if gg=g'∧o≠KO then .opt (rows[j]?) fun e=> .ask (decide (o+ys.length≤e.length)) (.done (.c .u,st.set d m ⟨g',sz,ty,.row (rows.set j (zAL e o ys))⟩,kn,none)) .fail else .fail
      |_=> .fail
    else .fail
   |_,_=>zFj st kn dst (.store n a x)
  |_,_=> .fail
 | .index x i=>match st.eval x,st.eval i with
  | .c (.p (.s s)),.c (.p (.i .i64 i))=> .ask (decide (0≤i)) (.opt (s.toList[i.toNat]?) fun c=> .done (.c (.p (.i .u8 c.toNat)),st,kn,none)) .fail
  |_,_=> .fail
 | .iaddr sz x i=>match st.eval x,st.eval i with
  | .c (.p (.ls rows)),.c (.p (.i .i64 z))=> .ask (decide (0≤z∧z<rows.length)) (.opt (rows[z.toNat]?) fun e=> .ask (decide (e.length=sz)) (.done (.c (.rp e 0),st,kn,none)) .fail) .fail
  | .c (.own d n g m),.c (.p (.i .i64 z))=>match st.get d n with
   |some ⟨g',sz',_,.row rows⟩=>if g=g'∧sz'=sz then .ask (decide (m=rows.length∧0≤z∧z<m)) (.done (.c (.ptr d n g z.toNat 0),st,kn,none)) .fail else .fail
   |_=>zFj st kn dst (.iaddr sz x i)
  |_,_=> .fail
 | .slcS x lo hi=>match st.eval x,st.bound 0 lo with
  | .c (.p (.s s)),some l=>match st.bound s.size hi with
   |some h=> .ask (decide (0≤l∧l≤h∧h≤s.size)) (.done (.c (.p (.s (s.extract l.toNat h.toNat))),st,kn,none)) .fail
   |none=> .fail
  |_,_=> .fail
 | .slc sz x lo hi=>match st.eval x,st.bound 0 lo with
  | .c (.p (.ls rows)),some l=>match st.bound rows.length hi with
   |some h=> .ask (decide (0≤l∧l≤h∧h≤rows.length∧rows.all (fun e=>e.length==sz)=true)) (.done (.c (.p (.ls ((rows.take h.toNat).drop l.toNat))),st,kn,none)) .fail
   |none=> .fail
  |_,_=> .fail
 | .toStr x=>(zHh st (st.eval x)).bind fun rows=> .opt (bytesOf rows) fun l=> .done (.c (.p (.s ⟨l.toArray⟩)),st,kn,none)
 | .app ty sz bytes x y=>(zHh st (st.eval y)).bind fun ys=>match st.eval x with
  | .c (.p .nl)=> .ask (decide (0<sz∧0<bytes∧ys.length*bytes≤140737488355328∧ys.all (fun e=>e.length==sz)=true))
    (.done (.c (.own st.up.length (dst*64) (st.fresh (dst*64)) ys.length),(st.new (dst*64) sz ty (.row ys)).2,kn,none)) .fail
  | .c (.own d n g m)=>match st.get d n with
   |some ⟨g',sz',ty',.row rows⟩=>if g=g'∧sz'=sz∧ty'=ty then .ask (decide (m=rows.length∧0<sz∧0<bytes∧(m+ys.length)*bytes≤140737488355328∧ys.all (fun e=>e.length==sz)=true))
     (.done (.c (.own d n (g+1) (m+ys.length)),st.set d n ⟨g+1,sz,ty,.row (rows++ys)⟩,kn,none)) .fail else .fail
   |_=> .fail
  |_=> .fail
 | .mksl ty sz bytes zero l c=>match st.eval l,st.eval c with
  | .c (.p (.i .i64 l)),.c (.p (.i .i64 c))=>if zero.length=sz then .ask (decide (0≤l∧l=c∧bytes*l≤140737488355328∧l≤9223372036854775807))
    (.done (.c (.own st.up.length (dst*64) (st.fresh (dst*64)) l.toNat),(st.new (dst*64) sz ty (.row (zAl zero l.toNat))).2,kn,none)) .fail else .fail
  |_,_=> .fail
 | .call true f args=>match st.eval f with
  | .c (.fn f caps)=>(zFi st (args.map st.eval++caps.map Cap.av)).bind fun (as,lent)=>(CT f as []).bind fun r=>if zC0 r=true then
    (if lent=false then .done (r.v.map (zAI st.up.length dst st.fr),{st with fr:=zo dst r.rows 0 st.fr},kn,none) else .ask (zAk r) (.done (r.v.map (zAI st.up.length dst st.fr),{st with fr:=zo dst r.rows 0 st.fr},kn,none)) .fail) else .fail
  |_=> .fail
 | .call false f args=>match st.eval f with
  | .c (.fn f caps)=>(zFk st (args.map st.eval++caps.map Cap.av)).bind fun (as,d,n,B)=>(CT f as [[(0,B)]]).bind fun r=>match zDI st dst d n B r with
    |some (v,s)=> .done (v,s,kn,none)
    |none=> .fail
  |_=> .fail
 | .callN f args=>match st.eval f with
  | .c (.fn f caps)=>match args.map st.eval++caps.map Cap.av with
   |a::r=>(zDG st r).bind fun (r,st)=>match zCb st a with
    |some (a,q,q2)=>(CT f (a::r) [[(0,q.2.2),(1,q2.2.2)]]).bind fun res=>match zDJ st q q2 res with
     |some (v,s)=> .done (v,s,kn,none)
     |none=> .fail
    |none=> .fail
   | []=> .fail
  |_=> .fail
 | .bslice ty sz len zero parts=>match zAd ((List.replicate len zero).map (·.map .p)) sz (parts.map fun (j,x)=>(j,st.eval x)) with
  |some rows=>if rows.any (·.any zLD)=true then (zB3 st rows).bind fun (rs,st)=> .done (.c (.own st.up.length (dst*64) (st.fresh (dst*64)) len),(st.new (dst*64) sz ty (.row rs)).2,kn,none) else zFj st kn dst (.bslice ty sz len zero parts)
  |none=> .fail
 |k=>zFj st kn dst k
def zCB (CT:zDf) (st:St) (kn:Kn) (o:KOper):Tr (St×Kn):=
 let go:St→Kn→Tr (St×Kn):=fun st kn=>(zDp CT st kn (o.dst.getD 0) o.op).bind fun (v,s,kn,kb)=> .done ({s with t:=zBH s.t o.dst v},zFJ kn o.dst kb)
 match o.guard with
 |none=>go st kn
 |some (j,want)=>match zF j st.t with
  |some (.tup [])=> .done ({st with t:=zBH st.t o.dst (.tup [])},zFJ kn o.dst none)
  |_=>zJY st kn (.t j) fun v st kn=>if v=want then go st kn else .done ({st with t:=zBH st.t o.dst (.tup [])},zFJ kn o.dst none)
def zEa (CT:zDf):List KOper→St→Kn→Tr (St×Kn)
 | [],st,kn=> .done (st,kn)
 |o::r,st,kn=>(zCB CT st kn o).bind fun (st,kn)=>zEa CT r st kn
def zFl (CT:zDf):List (KOper×List Bool)→List Tch→St→Kn→Tr (St×Kn)
 | [],_,st,kn=> .done (st,kn)
 |(o,bs)::r,ts,st,kn=>if zIR bs ts (tch st o)=true then (zCB CT st kn o).bind fun p=>zFl CT r (tch st o::ts) p.1 p.2 else .fail
def zBS (CT:zDf) (LT:zGU):KCode→St→Kn→Tr (Ex×St×Kn)
 | .skip,st,kn=> .done (.normal,st,kn)
 | .ops l,st,kn=>(zEa CT l st kn).bind fun (st,kn)=> .done (.normal,st,kn)
 | .draw l,st,kn=>(zFl CT l [] st kn).bind fun (st,kn)=> .done (.normal,st,kn)
 | .seq a b,st,kn=>(zBS CT LT a st kn).bind fun (e,st,kn)=>match e with
  | .normal=>zBS CT LT b st kn
  |e=> .done (e,st,kn)
 | .cond c a b,st,kn=>zJY st kn c fun v st kn=>match v with
  |true=>zBS CT LT a st kn
  |false=>zBS CT LT b st kn
 | .block id c,st,kn=>(zBS CT LT c st kn).bind fun (e,st,kn)=> .done (if e= .exit id then .normal else e,st,kn)
 | .loop mk keep zAK c,st,kn=>(LT mk (st.norm keep)).bind fun (e,s)=> .done (e,s,[])
 | .exit id,st,kn=> .done (.exit id,st,kn)
 | .ret,st,kn=> .done (.ret,st,kn)
def zJb (st:St):List (Bool×List CV)→Tr (List (Bool×List CV)×St)
 | []=> .done ([],st)
 |(g,cs)::r=>(zBZ st cs).bind fun (ps,st)=>(zJb st r).bind fun (l,st')=> .done ((g,ps.map CV.p)::l,st')
def zFm (kf:KFun) (e:Ex) (st:St):Tr Res:=
 if (e= .normal∨e= .ret)∧kf.frozen=true then match zBm st kf.results with
  |some l=>(zJb st l).bind fun (l,st)=> .done ⟨zAZ l,st.up,[]⟩
  |none=> .fail
 else if e= .normal∨e= .ret then match (zBm st kf.results).bind (zGg st) with
  |some r=> .done r
  |none=> .fail
 else .fail
def zKv (kf:KFun) (args:List AV) (up:List Frame) (r:Res):Tr Res:=
 if kf.nil1=true then match args,up with
  | [.c (.p (.ls rows))],[]=> .ask (!rows.isEmpty||zC2 r) (.done r) .fail
  |_,_=> .fail
 else .done r
def zKO (CT:zDf) (LT:zGU) (kf:KFun) (args:List AV) (up:List Frame):Tr Res:=
 if args.length=kf.params.length then (zBS CT LT kf.body ⟨zDw args 0,[],up⟩ []).bind fun (e,st,_)=>(zFm kf e st.low).bind (zKv kf args up) else .fail
def zEk (CT:zDf) (run:zY):Prop:=∀f args up r,(CT f args up).run=some r→run f args up=some r
def zAF:KCode→List (Nat×List Nat×List (Ex×List Nat)×KCode)
 | .seq a b| .cond _ a b=>zAF a++zAF b
 | .block _ c=>zAF c
 | .loop mk keep zAK c=> [(mk,keep,zAK,c)]
 |_=> []
def zDc (body:St→Option (Ex×St)) (keep:List Nat):Nat→St→Option (Ex×St)
 |0,_=>none
 |m+1,st=>(body st).bind fun (e,s)=>match e with
  | .normal=>zDc body keep m (s.norm keep)
  |e=>some (e,s)
theorem zHi (body:St→Option (Ex×St)) (keep:List Nat):∀(m:Nat) (st:St),zGf body keep m st=zDc body keep m (st.norm keep)
 |0,st=>rfl
 |m+1,st=>by
  simp only [zGf,zDc]
  congr 1
  funext p
  obtain ⟨e,s⟩:=p
  cases e with
  |normal=>exact zHi body keep m s
  |_=>rfl
def zIE (LT:zGU) (run:zY) (N:Nat) (c:KCode):Prop:=
 ∀mk keep zAK b,(mk,keep,zAK,b)∈zAF c→∀st e s,(LT mk st).run=some (e,s)→∃s0,zDc (zf run N b) keep N st=some (e,s0)∧s=s0.norm (zDL e zAK)
section
variable {CT:zDf} {LT:zGU} {run:zY} {N:Nat} {st:St} {kn:Kn}
theorem zKP {dst:Nat} {k:KOp} {v:AV} {s:St} {kn':Kn} {kb:Option Bool} (hk:KnOK kn st) (h:(zFj st kn dst k).run=some (v,s,kn',kb)) (hst:∀{v s},zA zKc st dst k=some (v,s)→s.t=st.t):
  zA run st dst k=some (v,s)∧s.t=st.t∧KnOK kn' s∧∀b,kb=some b→v= .c (.p (.b b)):=by
 unfold zFj at h
 split at h
 ·rename_i v' s' he
  cases h
  have ht:=hst he
  exact ⟨zGR (fun f a u r h=>by cases h) he,ht,hk.frame ht,fun b hb=>by cases hb⟩
 ·cases h
theorem zFM {c:CV} {st:St} {y:PV×St} (h:zAW st c=some y):y.2.t=st.t:=by
 unfold zAW at h
 split at h
 ·cases h;rfl
 ·split at h
  ·split at h
   ·cases h;exact zA5 _ _ _ _
   ·cases h
  ·cases h
 ·cases h
theorem zCC:∀{l:List CV} {st:St} {y:List PV×St},zj st l=some y→y.2.t=st.t
 | [],st,y,h=>by cases h;rfl
 |x::r,st,y,h=>by
  simp only [zj,Option.bind_eq_some_iff,Option.some.injEq] at h
  obtain ⟨⟨a,s1⟩,h1,⟨b,s2⟩,h2,rfl⟩:=h
  exact (zCC h2).trans (zFM h1)
theorem zCw:∀{l:List (List CV)} {st:St} {y:List (List PV)×St},zU st l=some y→y.2.t=st.t
 | [],st,y,h=>by cases h;rfl
 |x::r,st,y,h=>by
  simp only [zU,Option.bind_eq_some_iff,Option.some.injEq] at h
  obtain ⟨⟨a,s1⟩,h1,⟨b,s2⟩,h2,rfl⟩:=h
  exact (zCw h2).trans (zCC h1)
theorem zEb:∀{l:List AV} {st:St} {y:List AV×St},zq st l=some y→y.2.t=st.t
 | [],st,y,h=>by cases h;rfl
 |x::r,st,y,h=>by
  simp only [zq,Option.bind_eq_some_iff,Option.map_eq_some_iff] at h
  obtain ⟨⟨a,s1⟩,h1,⟨b,s2⟩,h2,rfl⟩:=h
  refine (zEb h2).trans ?_
  cases x with
  |c x=>
   simp only [zu,Option.map_eq_some_iff,Prod.mk.injEq,Prod.exists] at h1
   obtain ⟨p,s,h3,_,rfl⟩:=h1
   exact zFM h3
  |agg cs=>
   simp only [zu,Option.map_eq_some_iff,Prod.mk.injEq,Prod.exists] at h1
   obtain ⟨p,s,h3,_,rfl⟩:=h1
   exact zCC h3
  |tup vs=>cases h1
theorem zFn {a:AV} {xs:List CV} {s:St} (h:st.write a xs=some s):s.t=st.t:=by
 unfold St.write at h
 split at h
 ·split at h
  ·split at h
   ·cases h;exact zA5 _ _ _ _
   ·cases h
  ·simp only [Option.bind_eq_some_iff] at h
   obtain ⟨⟨ys,s1⟩,h1,h⟩:=h
   have ht:=zCC h1
   simp only at h ht
   split at h
   ·split at h
    ·split at h
     ·split at h
      ·cases h;exact (zA5 _ _ _ _).trans ht
      ·cases h
     ·cases h
    ·cases h
   ·cases h
  ·cases h
 ·cases h
theorem zCD {base:Nat}:∀(l:List (Nat×TypeId×Nat)) (i:Nat) (cs:List CV) (st:St),(zO base l i cs st).2.t=st.t
 | [],_,_,_=>rfl
 |(col,ty,sz)::r,i,cs,st=>by
  unfold zO
  split
  ·exact zCD r (i+1) _ _
  ·exact zCD r (i+1) cs st
theorem zGX {dst:Nat} {k:KOp} {v:AV} {s:St} (h:zA run st dst k=some (v,s)):s.t=st.t:=by
 cases k<;>simp only [zA] at h
 case nil=>cases h;rfl
 case mv=>cases h;rfl
 case rel=>
  split at h
  ·split at h<;>cases h;rfl
  ·cases h
 case pick=>split at h<;>cases h;rfl
 case box=>
  split at h
  ·cases h
  ·split at h
   ·cases h;rfl
   ·cases h
 case build=>
  obtain ⟨cs,_,h⟩:=Option.map_eq_some_iff.1 h
  cases h;rfl
 case bslice=>
  obtain ⟨rows,_,h⟩:=Option.bind_eq_some_iff.1 h
  split at h
  ·rename_i rs s1 hf
   cases h
   exact zCw hf
  ·split at h
   ·cases h;rfl
   ·cases h
 case load=>
  obtain ⟨cs,_,h⟩:=Option.bind_eq_some_iff.1 h
  obtain ⟨v',_,h⟩:=Option.map_eq_some_iff.1 h
  cases h;rfl
 case store=>
  split at h
  ·cases h
  ·split at h
   ·obtain ⟨s',h1,h⟩:=Option.map_eq_some_iff.1 h
    cases h
    exact zFn h1
   ·cases h
 case storeN=>
  split at h
  ·cases h
  ·split at h
   ·obtain ⟨s',h1,h⟩:=Option.map_eq_some_iff.1 h
    cases h
    exact (zFn h1).trans (zCD _ _ _ _)
   ·cases h
 case chk=>
  split at h
  ·split at h<;>cases h;rfl
  ·cases h;rfl
  ·cases h;rfl
  ·cases h
 case bin=>
  split at h
  ·obtain ⟨_,_,h⟩:=Option.map_eq_some_iff.1 h;cases h;rfl
  ·cases h
 case eqs=>
  split at h
  ·obtain ⟨_,_,h⟩:=Option.map_eq_some_iff.1 h;cases h;rfl
  ·cases h
 case beq=>split at h<;>cases h;rfl
 case inil=>split at h<;>cases h<;>rfl
 case un=>
  split at h
  ·obtain ⟨_,_,h⟩:=Option.map_eq_some_iff.1 h;cases h;rfl
  ·cases h
 case conv=>split at h<;>cases h;rfl
 case str=>split at h<;>cases h;rfl
 case toStr=>
  obtain ⟨_,_,h⟩:=Option.bind_eq_some_iff.1 h
  obtain ⟨_,_,h⟩:=Option.map_eq_some_iff.1 h;cases h;rfl
 case mkfn=>obtain ⟨_,_,h⟩:=Option.map_eq_some_iff.1 h;cases h;rfl
 case mksl=>
  obtain ⟨_,_,h⟩:=Option.bind_eq_some_iff.1 h
  obtain ⟨_,_,h⟩:=Option.bind_eq_some_iff.1 h
  split at h<;>cases h;rfl
 case slcS=>
  split at h
  ·obtain ⟨_,_,h⟩:=Option.bind_eq_some_iff.1 h
   obtain ⟨_,_,h⟩:=Option.bind_eq_some_iff.1 h
   split at h<;>cases h;rfl
  ·cases h
 case slc=>
  split at h
  ·obtain ⟨_,_,h⟩:=Option.bind_eq_some_iff.1 h
   obtain ⟨_,_,h⟩:=Option.bind_eq_some_iff.1 h
   split at h<;>cases h;rfl
  ·cases h
 case faddr=>
  split at h
  ·split at h<;>cases h;rfl
  ·cases h;rfl
  ·cases h
 case field=>
  split at h
  ·split at h
   ·obtain ⟨_,_,h⟩:=Option.map_eq_some_iff.1 h;cases h;rfl
   ·cases h
  ·cases h
 case iaddr=>
  obtain ⟨i,_,h⟩:=Option.bind_eq_some_iff.1 h
  split at h
  ·split at h
   ·split at h
    ·split at h<;>cases h;rfl
    ·cases h
   ·cases h
  ·split at h
   ·split at h<;>cases h;rfl
   ·split at h<;>cases h;rfl
   ·cases h
  ·cases h
 case index=>
  obtain ⟨i,_,h⟩:=Option.bind_eq_some_iff.1 h
  split at h
  ·split at h
   ·split at h<;>cases h;rfl
   ·cases h
  ·cases h
 case ext=>
  split at h
  ·split at h
   ·obtain ⟨_,_,h⟩:=Option.map_eq_some_iff.1 h;cases h;rfl
   ·cases h
  ·cases h
 case app=>
  split at h
  ·split at h<;>cases h;rfl
  ·split at h
   ·split at h
    ·cases h;exact zA5 _ _ _ _
    ·cases h
   ·cases h
  ·cases h
 case boxN=>
  split at h
  ·cases h
  ·split at h
   ·cases h;rfl
   ·cases h
 case storeB=>
  split at h
  ·obtain ⟨s',h1,h⟩:=Option.map_eq_some_iff.1 h
   cases h
   exact (zFn h1).trans (zCD _ _ _ _)
  ·cases h
 case callN f args=>
  split at h
  ·cases hq:args.map st.eval++(List.map Cap.av ‹_›) with
   |nil=>rw [hq] at h;cases h
   |cons a0 r=>
    rw [hq] at h
    simp only [callN] at h
    obtain ⟨⟨r',s1⟩,h1,h⟩:=Option.bind_eq_some_iff.1 h
    obtain ⟨⟨a',q,q2⟩,h2,h⟩:=Option.bind_eq_some_iff.1 h
    obtain ⟨res,h3,h⟩:=Option.bind_eq_some_iff.1 h
    exact (zKN h).trans (zEb h1)
  ·cases h
 case len s x=>
  cases s
  ·simp only [zA] at h
   split at h
   ·cases h;rfl
   ·cases h;rfl
   ·split at h<;>cases h;rfl
   ·cases h
  ·simp only [zA] at h
   split at h<;>cases h;rfl
 case mm=>obtain ⟨_,_,h⟩:=Option.map_eq_some_iff.1 h;cases h;rfl
 case call bo f args=>
  split at h
  ·unfold zBC at h
   split at h
   ·obtain ⟨⟨as,l⟩,_,h⟩:=Option.bind_eq_some_iff.1 h
    obtain ⟨r,_,h⟩:=Option.bind_eq_some_iff.1 h
    split at h<;>cases h;rfl
   ·obtain ⟨⟨ar,d,n,B⟩,_,h⟩:=Option.bind_eq_some_iff.1 h
    obtain ⟨r,_,h⟩:=Option.bind_eq_some_iff.1 h
    unfold zDI at h
    split at h
    ·split at h
     ·split at h
      ·cases h;exact zA5 _ _ _ _
      ·cases h
     ·cases h
    ·cases h
  ·cases h
def zJc (run:zY) (st:St) (dst:Nat) (k:KOp) (x:OpR):Prop:=zA run st dst k=some (x.1,x.2.1)∧KnOK x.2.2.1 x.2.1∧∀b,x.2.2.2=some b→x.1= .c (.p (.b b))
theorem zBa {dst:Nat} {k:KOp} {x:OpR} (hk:KnOK kn st) (h:(zFj st kn dst k).run=some x):zJc run st dst k x:=by
 obtain ⟨v,s,kn',kb⟩:=x
 obtain ⟨h1,h2,h3,h4⟩:=zKP (run:=run) hk h (fun h=>zGX h)
 exact ⟨h1,h3,h4⟩
theorem zCE {dst:Nat} {k:KOp} {v:AV} {kn':Kn} {kb:Option Bool} {x:OpR} (he:zA run st dst k=some (v,st)) (hk:KnOK kn' st) (hb:∀b,kb=some b→v= .c (.p (.b b))) (h:(Tr.done (v,st,kn',kb)).run=some x):zJc run st dst k x:=by
 cases h
 exact ⟨he,hk,hb⟩
theorem zk {dst:Nat} {k:KOp} {v:AV} {s:St} {x:OpR} (he:zA run st dst k=some (v,s)) (hk:KnOK kn st) (h:(Tr.done (v,s,kn,none)).run=some x):zJc run st dst k x:=by
 cases h
 exact ⟨he,hk.frame (zGX he),fun b hb=>by cases hb⟩
theorem zIF {a:AV} {y:AV×Nat×Nat×Blk} (h:(zG6 st a).run=some y):zBU st a=some y:=by
 unfold zG6 at h
 unfold zBU
 split at h
 ·split at h
  ·rename_i g' sz ty rows hB
   split at h
   ·rename_i hg
    obtain ⟨hm,h⟩:=Tr.ask_yes h
    cases h
    simp only [hB]
    rw [if_pos ⟨hg,hm⟩]
   ·cases h
  ·cases h
 ·split at h
  ·rename_i g' sz ty cells hB
   split at h
   ·rename_i hc
    cases h
    simp only [hB]
    rw [if_pos hc]
   ·cases h
  ·cases h
 ·cases h
theorem zG7 {a:AV} (h:¬zJa a=true):zBU st a=none:=by
 unfold zJa at h
 unfold zBU
 split
 ·simp at h
 ·simp at h
 ·rfl
theorem zFN:∀{l:List AV} {y:List AV×Nat×Nat×Blk},(zFk st l).run=some y→zBB st l=some y
 | [],y,h=>by cases h
 |a::r,y,h=>by
  simp only [zFk] at h
  simp only [zBB]
  split at h
  ·obtain ⟨⟨a',d,n,B⟩,h1,h⟩:=Tr.bind_some h
   rw [zIF h1]
   simp only at h⊢
   split at h
   ·rename_i r' hr
    cases h
    rw [hr]
    rfl
   ·cases h
  ·rename_i hn
   rw [zG7 hn]
   simp only
   split at h
   ·rename_i a' ha
    obtain ⟨⟨r',q⟩,h1,h⟩:=Tr.bind_some h
    cases h
    rw [ha,zFN h1]
    rfl
   ·cases h
theorem zJd {n dst:Nat} {a x:KX} (h:∀vs,st.eval x= .tup vs→False):zA run st dst (.store n a x)=if (st.eval x).cvs.length=n∧(st.eval x).cvs.all (·.known)=true then (st.write (st.eval a) (st.eval x).cvs).map fun st=>(.c .u,st) else none:=by
 simp only [zA]
theorem zG8 (hC:zEk CT run) (hk:KnOK kn st) {dst:Nat} {k:KOp} {x:OpR} (h:(zDp CT st kn dst k).run=some x):zJc run st dst k x:=by
 unfold zDp at h
 split at h
 ·--mv
  exact zCE rfl hk (fun b hb=>zFf hk hb) h
 ·--pick
  obtain ⟨v,kn',h1,h2,h3⟩:=zFg hk h
  cases v
  ·exact zCE (by simp only [zA,h1];rfl) h2 (fun b hb=>zFf h2 hb) h3
  ·exact zCE (by simp only [zA,h1];rfl) h2 (fun b hb=>zFf h2 hb) h3
 ·--un
  split at h
  ·rename_i v hx
   refine zCE (by simp only [zA,hx,unP];rfl) hk (fun b hb=>?_) h
   obtain ⟨c,hc,rfl⟩:=Option.map_eq_some_iff.1 hb
   have:=zFf hk hc
   rw [hx] at this
   cases this
   rfl
  ·exact zBa hk h
 ·--bin
  rename_i op x y
  split at h
  ·rename_i k a k' b hx hy
   split at h
   ·rename_i e
    subst e
    have key:∀{r:PV} {z:OpR},zFS op k a b=some r→(Tr.done ((.c (.p r),st,kn,none):OpR)).run=some z→zJc run st dst (.bin op x y) z:=fun {r z} hr h'=>
     zk (by simp only [zA,hx,hy,zGd,if_true,hr,Option.map_some]) hk h'
    unfold zKd at h
    split at h
    ·split at h
     ·split at h
      ·rename_i r hr;exact key hr h
      ·cases h
     ·rcases Tr.ask_some h with ⟨_,h2⟩|⟨h1,h2⟩
      ·cases h2
      ·have h1:¬b=0:=by simpa using h1
       exact key (by simp only [zFS];rw [if_neg h1]) h2
    ·split at h
     ·split at h
      ·rename_i r hr;exact key hr h
      ·cases h
     ·rcases Tr.ask_some h with ⟨_,h2⟩|⟨h1,h2⟩
      ·cases h2
      ·have h1:¬b=0:=by simpa using h1
       exact key (by simp only [zFS];rw [if_neg h1]) h2
    ·split at h
     ·split at h
      ·rename_i r hr;exact key hr h
      ·cases h
     ·cases h
    ·split at h
     ·split at h
      ·rename_i r hr;exact key hr h
      ·cases h
     ·cases h
    ·split at h
     ·rename_i r hr;exact key hr h
     ·cases h
   ·cases h
  ·rename_i a b hx hy
   split at h
   ·obtain ⟨h1,h2⟩:=Tr.ask_yes h
    exact zk (by simp only [zA,hx,hy,zGd,zIO];rw [if_pos h1];rfl) hk h2
   ·split at h
    ·rename_i r hr
     exact zk (by simp only [zA,hx,hy,zGd,hr,Option.map_some]) hk h
    ·cases h
  ·cases h
 ·--load
  rename_i g n ks a
  split at h
  ·rename_i e o ha
   split at h
   ·rename_i hc
    obtain ⟨cs,h1,h2⟩:=Tr.bind_some h
    obtain ⟨ps,rfl,h3,h4⟩:=zDD h1
    obtain ⟨h5,h6⟩:=zEW (by omega) h4
    split at h2
    ·rename_i v hv
     rw [h3,hc.1] at h5 h6
     exact zk (by simp only [zA,ha,St.read];rw [if_pos h5,h6];simp only [Option.bind_some,hv,Option.map_some]) hk h2
    ·cases h2
   ·cases h
  ·rename_i d m gg j o ha
   split at h
   ·rename_i g' sz ty rows hB
    split at h
    ·rename_i hc
     obtain ⟨e,he,h⟩:=Tr.opt_some h
     obtain ⟨cs,h1,h2⟩:=Tr.bind_some h
     obtain ⟨ps,rfl,h3,h4⟩:=zDD h1
     obtain ⟨h5,h6⟩:=zEW (by omega) h4
     split at h2
     ·rename_i v hv
      rw [h3,hc.2.1] at h5 h6
      exact zk (by simp only [zA,ha,St.read,hB];rw [if_pos ⟨hc.1,hc.2.2.2⟩,he];simp only;rw [if_pos h5,h6];simp only [Option.bind_some,hv,Option.map_some]) hk h2
     ·cases h2
    ·cases h
   ·exact zBa hk h
  ·cases h
 ·--store
  rename_i n a x
  split at h
  ·rename_i d m gg j o v ha
   split at h
   ·cases h
   ·rename_i B1 B2 B3 B4 hB hnt
    split at h
    ·rename_i hc
     obtain ⟨⟨ys,s1⟩,h1,h2⟩:=Tr.bind_some h
     obtain ⟨h3,h4⟩:=zA2 h1
     simp only at h2
     split at h2
     ·rename_i g' sz ty rows hB'
      split at h2
      ·rename_i hg
       obtain ⟨e,he,h2⟩:=Tr.opt_some h2
       obtain ⟨h5,h2⟩:=Tr.ask_yes h2
       refine zk ?_ hk h2
       rw [zJd hnt,if_pos hc,ha]
       simp only [St.write,hB,h3,Option.bind_some,hB']
       rw [if_pos hg,he]
       simp only
       rw [if_pos h5]
       rfl
      ·cases h2
     ·cases h2
    ·cases h
   ·exact zBa hk h
  ·cases h
 ·--index
  split at h
  ·rename_i s i hx hi
   obtain ⟨h1,h⟩:=Tr.ask_yes h
   obtain ⟨c,h2,h⟩:=Tr.opt_some h
   exact zk (by simp only [zA,hi,zAz,Option.bind_some,hx];rw [if_pos h1,h2]) hk h
  ·cases h
 ·--iaddr
  rename_i sz x i
  split at h
  ·rename_i rows z hx hi
   obtain ⟨h1,h⟩:=Tr.ask_yes h
   obtain ⟨e,h2,h⟩:=Tr.opt_some h
   obtain ⟨h3,h⟩:=Tr.ask_yes h
   exact zk (by simp only [zA,hi,zAz,Option.bind_some,hx];rw [if_pos h1,h2];simp only;rw [if_pos h3]) hk h
  ·rename_i d n g m z hx hi
   split at h
   ·rename_i g' sz' ty rows hB
    split at h
    ·rename_i hc
     obtain ⟨h1,h⟩:=Tr.ask_yes h
     exact zk (by simp only [zA,hi,zAz,Option.bind_some,hx,hB];rw [if_pos ⟨hc.1,hc.2,h1⟩]) hk h
    ·cases h
   ·exact zBa hk h
  ·cases h
 ·--slcS
  rename_i x lo hi
  split at h
  ·rename_i s l hx hl
   split at h
   ·rename_i u hu
    obtain ⟨h1,h⟩:=Tr.ask_yes h
    exact zk (by simp only [zA,hx,hl,hu,Option.bind_some];rw [if_pos h1]) hk h
   ·cases h
  ·cases h
 ·--slc
  rename_i sz x lo hi
  split at h
  ·rename_i rows l hx hl
   split at h
   ·rename_i u hu
    obtain ⟨h1,h⟩:=Tr.ask_yes h
    exact zk (by simp only [zA,hx,hl,hu,Option.bind_some];rw [if_pos h1]) hk h
   ·cases h
  ·cases h
 ·--toStr
  obtain ⟨rows,h1,h⟩:=Tr.bind_some h
  obtain ⟨l,h2,h⟩:=Tr.opt_some h
  exact zk (by simp only [zA,zGT h1,Option.bind_some,h2,Option.map_some]) hk h
 ·--app
  rename_i ty sz bytes x y
  obtain ⟨ys,h1,h⟩:=Tr.bind_some h
  have h1:=zGT h1
  split at h
  ·rename_i hx
   obtain ⟨h2,h⟩:=Tr.ask_yes h
   exact zk (by simp only [zA,hx,h1];rw [if_pos h2]) hk h
  ·rename_i d n g m hx
   split at h
   ·rename_i g' sz' ty' rows hB
    split at h
    ·rename_i hc
     obtain ⟨h2,h⟩:=Tr.ask_yes h
     exact zk (by simp only [zA,hx,h1,hB];rw [if_pos ⟨hc.1,hc.2.1,hc.2.2,h2⟩]) hk h
    ·cases h
   ·cases h
  ·cases h
 ·--mksl
  split at h
  ·rename_i l c hl hc
   split at h
   ·rename_i hz
    obtain ⟨h2,h⟩:=Tr.ask_yes h
    exact zk (by simp only [zA,hl,hc,zAz,Option.bind_some];rw [if_pos ⟨h2.1,h2.2.1,h2.2.2.1,h2.2.2.2,hz⟩]) hk h
   ·cases h
  ·cases h
 ·--call
  rename_i f args
  split at h
  ·rename_i g caps hf
   obtain ⟨⟨as,lent⟩,h1,h⟩:=Tr.bind_some h
   obtain ⟨r,h2,h⟩:=Tr.bind_some h
   have h1:=zEZ h1
   have h2:=hC _ _ _ _ h2
   split at h
   ·rename_i hs
    split at h
    ·rename_i hc
     refine zk ?_ hk h
     simp only [zA,hf,zBC,if_true,h1,Option.bind_some,h2]
     rw [if_pos ⟨.inl hc,hs⟩]
    ·rcases Tr.ask_some h with ⟨hc,h⟩|⟨_,h⟩
     ·refine zk ?_ hk h
      simp only [zA,hf,zBC,if_true,h1,Option.bind_some,h2]
      rw [if_pos ⟨.inr hc,hs⟩]
     ·cases h
   ·cases h
  ·cases h
 ·--a call that is lent a block
  rename_i f args
  split at h
  ·rename_i g caps hf
   obtain ⟨⟨as,d,n,B⟩,h1,h⟩:=Tr.bind_some h
   obtain ⟨r,h2,h⟩:=Tr.bind_some h
   have h1:=zFN h1
   have h2:=hC _ _ _ _ h2
   split at h
   ·rename_i v s hb
    refine zk ?_ hk h
    simp only [zA,hf,zBC,Bool.false_eq_true,if_false,h1,Option.bind_some,h2,hb]
   ·cases h
  ·cases h
 ·--a call that is lent a box with an own row
  rename_i f args
  split at h
  ·rename_i g caps hf
   split at h
   ·rename_i a r hq
    obtain ⟨⟨r',s1⟩,h1,h⟩:=Tr.bind_some h
    have h1:=(zCv h1).1
    simp only at h
    split at h
    ·rename_i a' q q2 hl
     obtain ⟨res,h2,h⟩:=Tr.bind_some h
     have h2:=hC _ _ _ _ h2
     split at h
     ·rename_i v s hb
      refine zk ?_ hk h
      simp only [zA,hf,hq,callN,h1,Option.bind_some,hl,h2,hb]
     ·cases h
    ·cases h
   ·cases h
  ·cases h
 ·--a literal slice
  split at h
  ·rename_i rows hrows
   split at h
   ·obtain ⟨⟨rs,s1⟩,h1,h⟩:=Tr.bind_some h
    obtain ⟨h1,ht⟩:=zB4 h1
    cases h
    exact ⟨by simp only [zA,hrows,Option.bind_some,h1],hk.frame ht,fun b hb=>by cases hb⟩
   ·exact zBa hk h
  ·cases h
 ·exact zBa hk h
theorem zCx (hC:zEk CT run) (hk:KnOK kn st) {o:KOper} {s:St} {kn':Kn} (h:(zCB CT st kn o).run=some (s,kn')):zM run st o=some s∧KnOK kn' s:=by
 have go:∀{kn:Kn},KnOK kn st→((zDp CT st kn (o.dst.getD 0) o.op).bind fun (v,s,kn,kb)=>Tr.done (({s with t:=zBH s.t o.dst v}:St),zFJ kn o.dst kb)).run=some (s,kn')→
   (zA run st (o.dst.getD 0) o.op).map (fun (a,st)=>({st with t:=zBH st.t o.dst a}:St))=some s∧KnOK kn' s:=fun {kn} hk h=>by
  obtain ⟨⟨v,s1,kn1,kb⟩,h1,h2⟩:=Tr.bind_some h
  obtain ⟨e1,e2,e3⟩:=zG8 hC hk h1
  cases h2
  exact ⟨by rw [e1];rfl,zET e2 e3⟩
 unfold zCB at h
 cases hg:o.guard with
 |none=>
  simp only [hg] at h
  simp only [zM,hg]
  exact go hk h
 |some jw=>
  obtain ⟨j,want⟩:=jw
  simp only [hg] at h
  split at h
  ·rename_i hu
   simp only [zM,hg,hu]
   cases h
   exact ⟨rfl,zET hk (fun b hb=>by cases hb)⟩
  obtain ⟨v,kn1,h1,h2,h3⟩:=zFg hk h
  have h1':zF j st.t=some (.c (.p (.b v))):=by
   simp only [St.eval] at h1
   cases hq:zF j st.t with
   |none=>rw [hq] at h1;cases h1
   |some a=>rw [hq] at h1;simp only at h1;rw [h1]
  simp only [zM,hg,h1']
  split at h3
  ·rename_i e
   rw [if_pos e]
   exact go h2 h3
  ·rename_i e
   rw [if_neg e]
   cases h3
   exact ⟨rfl,zET h2 (fun b hb=>by cases hb)⟩
theorem zDd (hC:zEk CT run):∀{l:List KOper} {st:St} {kn:Kn} {s:St} {kn':Kn},KnOK kn st→(zEa CT l st kn).run=some (s,kn')→zBK run l st=some s∧KnOK kn' s
 | [],st,kn,s,kn',hk,h=>by cases h;exact ⟨rfl,hk⟩
 |o::r,st,kn,s,kn',hk,h=>by
  obtain ⟨⟨s1,kn1⟩,h1,h2⟩:=Tr.bind_some h
  obtain ⟨e1,e2⟩:=zCx hC hk h1
  obtain ⟨e3,e4⟩:=zDd hC e2 h2
  exact ⟨by simp only [zBK,e1,Option.bind_some,e3],e4⟩
theorem zFO (hC:zEk CT run):∀{l:List (KOper×List Bool)} {ts:List Tch} {st:St} {kn:Kn} {s:St} {kn':Kn},KnOK kn st→(zFl CT l ts st kn).run=some (s,kn')→zDt run l ts st=some s∧KnOK kn' s
 | [],ts,st,kn,s,kn',hk,h=>by cases h;exact ⟨rfl,hk⟩
 |(o,bs)::r,ts,st,kn,s,kn',hk,h=>by
  simp only [zFl] at h
  split at h
  ·rename_i hc
   obtain ⟨⟨s1,kn1⟩,h1,h2⟩:=Tr.bind_some h
   obtain ⟨e1,e2⟩:=zCx hC hk h1
   obtain ⟨e3,e4⟩:=zFO hC e2 h2
   exact ⟨by simp only [zDt,hc,if_true,e1,Option.bind_some];exact e3,e4⟩
  ·cases h
theorem zFP (hC:zEk CT run):∀(c:KCode),zIE LT run N c→∀{st:St} {kn:Kn} {e:Ex} {s:St} {kn':Kn},KnOK kn st→(zBS CT LT c st kn).run=some (e,s,kn')→zf run N c st=some (e,s)∧KnOK kn' s:=by
 intro c
 induction c with
 |skip=>intro hL st kn e s kn' hk h;cases h;exact ⟨rfl,hk⟩
 |ops l=>
  intro hL st kn e s kn' hk h
  obtain ⟨⟨s1,kn1⟩,h1,h2⟩:=Tr.bind_some h
  cases h2
  obtain ⟨e1,e2⟩:=zDd hC hk h1
  exact ⟨by simp only [zf,e1,Option.map_some],e2⟩
 |draw l=>
  intro hL st kn e s kn' hk h
  obtain ⟨⟨s1,kn1⟩,h1,h2⟩:=Tr.bind_some h
  cases h2
  obtain ⟨e1,e2⟩:=zFO hC hk h1
  exact ⟨by simp only [zf,e1,Option.map_some],e2⟩
 |seq a b iha ihb=>
  intro hL st kn e s kn' hk h
  obtain ⟨⟨e1,s1,kn1⟩,h1,h2⟩:=Tr.bind_some h
  obtain ⟨g1,g2⟩:=iha (fun mk keep zAK b hm=>hL mk keep zAK b (by simp only [zAF];exact List.mem_append_left _ hm)) hk h1
  simp only [zf,g1,Option.bind_some]
  cases e1 with
  |normal=>exact ihb (fun mk keep zAK b hm=>hL mk keep zAK b (by simp only [zAF];exact List.mem_append_right _ hm)) g2 h2
  |exit id=>cases h2;exact ⟨rfl,g2⟩
  |ret=>cases h2;exact ⟨rfl,g2⟩
 |cond c a b iha ihb=>
  intro hL st kn e s kn' hk h
  obtain ⟨v,kn1,h1,h2,h3⟩:=zFg hk h
  simp only [zf,h1]
  cases v
  ·exact ihb (fun mk keep zAK b hm=>hL mk keep zAK b (by simp only [zAF];exact List.mem_append_right _ hm)) h2 h3
  ·exact iha (fun mk keep zAK b hm=>hL mk keep zAK b (by simp only [zAF];exact List.mem_append_left _ hm)) h2 h3
 |block id c ih=>
  intro hL st kn e s kn' hk h
  obtain ⟨⟨e1,s1,kn1⟩,h1,h2⟩:=Tr.bind_some h
  cases h2
  obtain ⟨g1,g2⟩:=ih (fun mk keep zAK b hm=>hL mk keep zAK b (by simpa only [zAF] using hm)) hk h1
  exact ⟨by simp only [zf,g1,Option.map_some],g2⟩
 |loop mk keep zAK c ih=>
  intro hL st kn e s kn' hk h
  obtain ⟨⟨e1,s1⟩,h1,h2⟩:=Tr.bind_some h
  cases h2
  obtain ⟨s0,g1,rfl⟩:=hL mk keep zAK c (by simp [zAF]) _ _ _ h1
  exact ⟨by simp only [zf,zHi,g1,Option.map_some],fun n b hn=>by cases hn⟩
 |exit id=>intro hL st kn e s kn' hk h;cases h;exact ⟨rfl,hk⟩
 |ret=>intro hL st kn e s kn' hk h;cases h;exact ⟨rfl,hk⟩
theorem zGY:∀{l:List (Bool×List CV)} {st:St} {y:List (Bool×List CV)×St},(zJb st l).run=some y→zAK st l=some y
 | [],st,y,h=>by cases h;rfl
 |(g,cs)::r,st,y,h=>by
  obtain ⟨⟨ps,s1⟩,h1,h2⟩:=Tr.bind_some h
  obtain ⟨⟨l,s2⟩,h3,h4⟩:=Tr.bind_some h2
  cases h4
  simp only [zAK,(zA2 h1).1,Option.bind_some,zGY h3,Option.map_some]
theorem zG9 {kf:KFun} {e:Ex} {st:St} {r:Res} (h:(zFm kf e st).run=some r):zC1 kf e st=some r:=by
 unfold zFm at h
 unfold zC1
 split at h
 ·rename_i hc
  rw [if_pos hc]
  split at h
  ·rename_i l hl
   obtain ⟨⟨l',s⟩,h1,h2⟩:=Tr.bind_some h
   cases h2
   simp only [hl,Option.bind_some,zGY h1,Option.map_some]
  ·cases h
 ·rename_i hc
  rw [if_neg hc]
  split at h
  ·rename_i hc2
   rw [if_pos hc2]
   split at h
   ·rename_i r' hr
    cases h
    exact hr
   ·cases h
  ·cases h
theorem zKQ {kf:KFun} {args:List AV} {up:List Frame} {q r:Res} (h:(zKv kf args up q).run=some r):zGh kf args up q=some r:=by
 unfold zKv at h
 unfold zGh
 split at h
 ·rename_i hn
  rw [if_pos hn]
  split at h
  ·rcases Tr.ask_some h with ⟨hc,h⟩|⟨_,h⟩
   ·cases h
    simp only
    rw [if_pos hc]
   ·cases h
  ·cases h
 ·rename_i hn
  rw [if_neg hn]
  exact h
theorem zKR (hC:zEk CT run) {kf:KFun} (hL:zIE LT run N kf.body) {args:List AV} {up:List Frame} {r:Res} (h:(zKO CT LT kf args up).run=some r):
  args.length=kf.params.length∧((zf run N kf.body ⟨zDw args 0,[],up⟩).bind fun (e,st)=>(zC1 kf e st.low).bind (zGh kf args up))=some r:=by
 unfold zKO at h
 split at h
 ·rename_i hl
  obtain ⟨⟨e,s,kn⟩,h1,h2⟩:=Tr.bind_some h
  obtain ⟨g1,_⟩:=zFP (N:=N) hC kf.body hL (fun n b hn=>by cases hn) h1
  obtain ⟨q,h3,h4⟩:=Tr.bind_some h2
  exact ⟨hl,by rw [g1];simp only [Option.bind_some,zG9 h3];exact zKQ h4⟩
 ·cases h
end
theorem zIG {KP:FuncId→Option KFun} {lib:zY} {n:Nat} {CT:zDf} {LT:zGU} {f:FuncId} {kf:KFun} (hf:KP f=some kf) (hC:zEk CT (zBc KP lib n)) (hL:zIE LT (zBc KP lib n) n kf.body) {args:List AV} {up:List Frame} {r:Res}
  (h:(zKO CT LT kf args up).run=some r):zBc KP lib (n+1) f args up=some r:=by
 obtain ⟨h1,h2⟩:=zKR hC hL h
 simp only [zBc,hf]
 rw [if_pos h1]
 exact h2
end Go.Eng

