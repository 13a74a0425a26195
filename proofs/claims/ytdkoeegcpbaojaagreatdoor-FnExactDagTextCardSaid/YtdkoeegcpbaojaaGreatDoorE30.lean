import Derived.Test.YtdkoeegcpbaojaaGreatDoorE29
set_option linter.unusedVariables false
set_option linter.unusedSimpArgs false
namespace Go.Eng
abbrev zDk:=FuncId→List AV→List Frame→Tr Res
abbrev zGb:=Nat→St→Tr (Ex×St)
def zKg:zZ:=fun _ _ _=>none
abbrev OpR:=AV×St×Kn×Option Bool
def zFp (st:St) (kn:Kn) (dst:Nat) (k:KOp):Tr OpR:=match zA zKg st dst k with
 |some (v,s)=> .done (v,s,kn,none)
 |none=> .fail
def zKh (op:BinOp) (k:IntKind) (lit:Bool) (x y:Int) (done:PV→Tr OpR):Tr OpR:=
 match op with
 | .quo| .rem=>if lit then (match zFY op k x y with|some r=>done r|none=> .fail) else .ask (decide (y=0)) .fail (match op with| .quo=>done (.i k (k.wrap (x.tdiv y)))|_=>done (.i k (x.tmod y)))
 | .shl| .shr=>if lit then (match zFY op k x y with|some r=>done r|none=> .fail) else .fail
 |_=>match zFY op k x y with
  |some r=>done r
  |none=> .fail
def zLG:KX→Bool
 | .k _=>true
 | .t _=>false
def zHD (st:St):AV→Tr (AV×Nat×Nat×Blk)
 | .c (.own d n g m)=>match st.get d n with
  |some ⟨g',sz,ty,.row rows⟩=>if g=g' then .ask (decide (m=rows.length)) (.done (.c (.own 0 0 0 m),d,n,⟨0,sz,ty,.row rows⟩)) .fail else .fail
  |_=> .fail
 | .c (.ptr d n g 0 0)=>match st.get d n with
  |some ⟨g',sz,ty,.box cells⟩=>if g=g'∧cells.all isP=true then .done (.c (.ptr 0 0 0 0 0),d,n,⟨0,sz,ty,.box cells⟩) else .fail
  |_=> .fail
 |_=> .fail
def zJe:AV→Bool
 | .c (.own ..)| .c (.ptr ..)=>true
 |_=>false
def zFq (st:St):List AV→Tr (List AV×Nat×Nat×Blk)
 | []=> .fail
 |a::r=>if zJe a=true then (zHD st a).bind fun (a,d,n,B)=>match zCe r with
   |some r=> .done (a::r,d,n,B)
   |none=> .fail
  else match zC4 a with
   |some a=>(zFq st r).bind fun (r,q)=> .done (a::r,q)
   |none=> .fail
def zGc (st:St):AV→Tr (AV×St)
 | .c x=>(zCx st x).bind fun (a,st)=> .done (.c (.p a),st)
 | .agg cs=>(zBe st cs).bind fun (l,st)=> .done (.agg (l.map .p),st)
 | .tup _=> .fail
def zDL (st:St):List AV→Tr (List AV×St)
 | []=> .done ([],st)
 |x::r=>(zGc st x).bind fun (a,st)=>(zDL st r).bind fun (l,st)=> .done (a::l,st)
theorem zGd {st:St} {a:AV} {y:AV×St} (h:(zGc st a).run=some y):zAC st a=some y∧y.2.t=st.t:=by
 cases a with
 |c x=>
  obtain ⟨⟨p,s⟩,h1,h2⟩:=Tr.bind_some h
  cases h2
  obtain ⟨e1,t1⟩:=zDg h1
  exact ⟨by simp only [zAC,e1,Option.map_some],t1⟩
 |agg cs=>
  obtain ⟨⟨p,s⟩,h1,h2⟩:=Tr.bind_some h
  cases h2
  obtain ⟨e1,t1⟩:=zA6 h1
  exact ⟨by simp only [zAC,e1,Option.map_some],t1⟩
 |tup vs=>cases h
theorem zCz:∀{l:List AV} {st:St} {y:List AV×St},(zDL st l).run=some y→z8 st l=some y∧y.2.t=st.t
 | [],st,y,h=>by cases h;exact ⟨rfl,rfl⟩
 |x::r,st,y,h=>by
  obtain ⟨⟨a,st1⟩,h1,h2⟩:=Tr.bind_some h
  obtain ⟨⟨b,st2⟩,h3,h4⟩:=Tr.bind_some h2
  cases h4
  obtain ⟨e1,t1⟩:=zGd h1
  obtain ⟨e2,t2⟩:=zCz h3
  simp only [z8,e1,Option.bind_some,e2,Option.map_some]
  exact ⟨by first|rfl|trivial,t2.trans t1⟩
theorem zKR {st st':St} {q q2:Nat×Nat×Blk} {r:Res} {v:AV} (h:zDO st q q2 r=some (v,st')):st'.t=st.t:=by
 obtain ⟨_,_,_,_,_,_,_,_,_,_,_,_,_,_,_,_,_,_,_,_,_,_,rfl⟩:=zE5 h
 rw [zA9,zA9]
def zB7 (st:St):List (List CV)→Tr (List (List PV)×St)
 | []=> .done ([],st)
 |x::r=>(zBe st x).bind fun (a,st)=>(zB7 st r).bind fun (b,st)=> .done (a::b,st)
theorem zB8:∀{l:List (List CV)} {st:St} {y:List (List PV)×St},(zB7 st l).run=some y→zX st l=some y∧y.2.t=st.t
 | [],st,y,h=>by cases h;exact ⟨rfl,rfl⟩
 |x::r,st,y,h=>by
  obtain ⟨⟨a,st1⟩,h1,h2⟩:=Tr.bind_some h
  obtain ⟨⟨b,st2⟩,h3,h4⟩:=Tr.bind_some h2
  cases h4
  obtain ⟨e1,t1⟩:=zA6 h1
  obtain ⟨e2,t2⟩:=zB8 h3
  simp only [zX,e1,Option.bind_some,e2]
  exact ⟨by first|rfl|trivial,t2.trans t1⟩
def zLH:CV→Bool
 | .own ..=>true
 |_=>false
def zDu (CT:zDk) (st:St) (kn:Kn) (dst:Nat):KOp→Tr OpR
 | .mv x=> .done (st.eval x,st,kn,knX kn x)
 | .pick c a b=>zJc st kn c fun v st kn=>match v with
  |true=> .done (st.eval a,st,kn,knX kn a)
  |false=> .done (st.eval b,st,kn,knX kn b)
 | .un op x=>match op,st.eval x with
  | .not,.c (.p (.b v))=> .done (.c (.p (.b (!v))),st,kn,(knX kn x).map (!·))
  |_,_=>zFp st kn dst (.un op x)
 | .bin op x y=>match st.eval x,st.eval y with
  | .c (.p (.i k a)),.c (.p (.i k' b))=>if k=k' then zKh op k (zLG y) a b (fun r=> .done (.c (.p r),st,kn,none)) else .fail
  | .c (.p (.s a)),.c (.p (.s b))=>match op with
   | .add=> .ask (decide (a.size+b.size≤9223372036854775807)) (.done (.c (.p (.s (a++b))),st,kn,none)) .fail
   |op=>match zIT op a b with
    |some r=> .done (.c (.p r),st,kn,none)
    |none=> .fail
  |_,_=> .fail
 | .load g n ks a=>match st.eval a with
  | .c (.rp e o)=>if ks.length=n∧0<n then (zDH e o ks).bind fun cs=>match zBs g cs with
    |some v=> .done (v,st,kn,none)
    |none=> .fail
   else .fail
  | .c (.ptr d m gg j o)=>match st.get d m with
   |some ⟨g',_,_,.row rows⟩=>if gg=g'∧ks.length=n∧0<n∧o≠KO then .opt (rows[j]?) fun e=>(zDH e o ks).bind fun cs=>match zBs g cs with
     |some v=> .done (v,st,kn,none)
     |none=> .fail
    else .fail
   |_=>zFp st kn dst (.load g n ks a)
  |_=> .fail
 | .store n a x=>match st.eval a,st.eval x with
  | .c (.ptr d m gg j o),v=>match st.get d m,v with
   |some ⟨_,_,_,.row _⟩,.tup _=> .fail
   |some ⟨_,_,_,.row _⟩,v=>if v.cvs.length=n∧v.cvs.all (·.known)=true then
     (zBe st v.cvs).bind fun (ys,st)=>match st.get d m with
      |some ⟨g',sz,ty,.row rows⟩=>if gg=g'∧o≠KO then .opt (rows[j]?) fun e=> .ask (decide (o+ys.length≤e.length)) (.done (.c .u,st.set d m ⟨g',sz,ty,.row (rows.set j (zw e o ys))⟩,kn,none)) .fail else .fail
      |_=> .fail
    else .fail
   |_,_=>zFp st kn dst (.store n a x)
  |_,_=> .fail
 | .index x i=>match st.eval x,st.eval i with
  | .c (.p (.s s)),.c (.p (.i .i64 i))=> .ask (decide (0≤i)) (.opt (s.toList[i.toNat]?) fun c=> .done (.c (.p (.i .u8 c.toNat)),st,kn,none)) .fail
  |_,_=> .fail
 | .iaddr sz x i=>match st.eval x,st.eval i with
  | .c (.p (.ls rows)),.c (.p (.i .i64 z))=> .ask (decide (0≤z∧z<rows.length)) (.opt (rows[z.toNat]?) fun e=> .ask (decide (e.length=sz)) (.done (.c (.rp e 0),st,kn,none)) .fail) .fail
  | .c (.own d n g m),.c (.p (.i .i64 z))=>match st.get d n with
   |some ⟨g',sz',_,.row rows⟩=>if g=g'∧sz'=sz then .ask (decide (m=rows.length∧0≤z∧z<m)) (.done (.c (.ptr d n g z.toNat 0),st,kn,none)) .fail else .fail
   |_=>zFp st kn dst (.iaddr sz x i)
  |_,_=> .fail
 | .slcS x lo hi=>match st.eval x,st.bound 0 lo with
  | .c (.p (.s s)),some l=>match st.bound s.size hi with
   |some h=> .ask (decide (0≤l∧l≤h∧h≤s.size)) (.done (.c (.p (.s (s.extract l.toNat h.toNat))),st,kn,none)) .fail
   |none=> .fail
  |_,_=> .fail
 | .slc sz x lo hi=>match st.eval x,st.bound 0 lo with
  | .c (.p (.ls rows)),some l=>match st.bound rows.length hi with
   |some h=> .ask (decide (0≤l∧l≤h∧h≤rows.length∧rows.all (fun e=>e.length==sz)=true)) (.done (.c (.p (.ls ((rows.take h.toNat).drop l.toNat))),st,kn,none)) .fail
   |none=> .fail
  |_,_=> .fail
 | .toStr x=>(zHo st (st.eval x)).bind fun rows=> .opt (bytesOf rows) fun l=> .done (.c (.p (.s ⟨l.toArray⟩)),st,kn,none)
 | .app ty sz bytes x y=>(zHo st (st.eval y)).bind fun ys=>match st.eval x with
  | .c (.p .nl)=> .ask (decide (0<sz∧0<bytes∧ys.length*bytes≤140737488355328∧ys.all (fun e=>e.length==sz)=true))
    (.done (.c (.own st.up.length (dst*64) (st.fresh (dst*64)) ys.length),(st.new (dst*64) sz ty (.row ys)).2,kn,none)) .fail
  | .c (.own d n g m)=>match st.get d n with
   |some ⟨g',sz',ty',.row rows⟩=>if g=g'∧sz'=sz∧ty'=ty then .ask (decide (m=rows.length∧0<sz∧0<bytes∧(m+ys.length)*bytes≤140737488355328∧ys.all (fun e=>e.length==sz)=true))
     (.done (.c (.own d n (g+1) (m+ys.length)),st.set d n ⟨g+1,sz,ty,.row (rows++ys)⟩,kn,none)) .fail else .fail
   |_=> .fail
  |_=> .fail
 | .mksl ty sz bytes zero l c=>match st.eval l,st.eval c with
  | .c (.p (.i .i64 l)),.c (.p (.i .i64 c))=>if zero.length=sz then .ask (decide (0≤l∧l=c∧bytes*l≤140737488355328∧l≤9223372036854775807))
    (.done (.c (.own st.up.length (dst*64) (st.fresh (dst*64)) l.toNat),(st.new (dst*64) sz ty (.row (zAd zero l.toNat))).2,kn,none)) .fail else .fail
  |_,_=> .fail
 | .call true f args=>match st.eval f with
  | .c (.fn f caps)=>(zFo st (args.map st.eval++caps.map Cap.av)).bind fun (as,lent)=>(CT f as []).bind fun r=>if zC5 r=true then
    (if lent=false then .done (r.v.map (zAO st.up.length dst st.fr),{st with fr:=zz dst r.rows 0 st.fr},kn,none) else .ask (zBF r) (.done (r.v.map (zAO st.up.length dst st.fr),{st with fr:=zz dst r.rows 0 st.fr},kn,none)) .fail) else .fail
  |_=> .fail
 | .call false f args=>match st.eval f with
  | .c (.fn f caps)=>(zFq st (args.map st.eval++caps.map Cap.av)).bind fun (as,d,n,B)=>(CT f as [[(0,B)]]).bind fun r=>match zDN st dst d n B r with
    |some (v,s)=> .done (v,s,kn,none)
    |none=> .fail
  |_=> .fail
 | .callN f args=>match st.eval f with
  | .c (.fn f caps)=>match args.map st.eval++caps.map Cap.av with
   |a::r=>(zDL st r).bind fun (r,st)=>match zCf st a with
    |some (a,q,q2)=>(CT f (a::r) [[(0,q.2.2),(1,q2.2.2)]]).bind fun res=>match zDO st q q2 res with
     |some (v,s)=> .done (v,s,kn,none)
     |none=> .fail
    |none=> .fail
   | []=> .fail
  |_=> .fail
 | .bslice ty sz len zero parts=>match zAj ((List.replicate len zero).map (·.map .p)) sz (parts.map fun (j,x)=>(j,st.eval x)) with
  |some rows=>if rows.any (·.any zLH)=true then (zB7 st rows).bind fun (rs,st)=> .done (.c (.own st.up.length (dst*64) (st.fresh (dst*64)) len),(st.new (dst*64) sz ty (.row rs)).2,kn,none) else zFp st kn dst (.bslice ty sz len zero parts)
  |none=> .fail
 |k=>zFp st kn dst k
def zCF (CT:zDk) (st:St) (kn:Kn) (o:KOper):Tr (St×Kn):=
 let go:St→Kn→Tr (St×Kn):=fun st kn=>(zDu CT st kn (o.dst.getD 0) o.op).bind fun (v,s,kn,kb)=> .done ({s with t:=zBL s.t o.dst v},zFO kn o.dst kb)
 match o.guard with
 |none=>go st kn
 |some (j,want)=>match zF j st.t with
  |some (.tup [])=> .done ({st with t:=zBL st.t o.dst (.tup [])},zFO kn o.dst none)
  |_=>zJc st kn (.t j) fun v st kn=>if v=want then go st kn else .done ({st with t:=zBL st.t o.dst (.tup [])},zFO kn o.dst none)
def zEf (CT:zDk):List KOper→St→Kn→Tr (St×Kn)
 | [],st,kn=> .done (st,kn)
 |o::r,st,kn=>(zCF CT st kn o).bind fun (st,kn)=>zEf CT r st kn
def zFr (CT:zDk):List (KOper×List Bool)→List Tch→St→Kn→Tr (St×Kn)
 | [],_,st,kn=> .done (st,kn)
 |(o,bs)::r,ts,st,kn=>if zIW bs ts (tch st o)=true then (zCF CT st kn o).bind fun p=>zFr CT r (tch st o::ts) p.1 p.2 else .fail
def zBX (CT:zDk) (LT:zGb):KCode→St→Kn→Tr (Ex×St×Kn)
 | .skip,st,kn=> .done (.normal,st,kn)
 | .ops l,st,kn=>(zEf CT l st kn).bind fun (st,kn)=> .done (.normal,st,kn)
 | .draw l,st,kn=>(zFr CT l [] st kn).bind fun (st,kn)=> .done (.normal,st,kn)
 | .seq a b,st,kn=>(zBX CT LT a st kn).bind fun (e,st,kn)=>match e with
  | .normal=>zBX CT LT b st kn
  |e=> .done (e,st,kn)
 | .cond c a b,st,kn=>zJc st kn c fun v st kn=>match v with
  |true=>zBX CT LT a st kn
  |false=>zBX CT LT b st kn
 | .block id c,st,kn=>(zBX CT LT c st kn).bind fun (e,st,kn)=> .done (if e= .exit id then .normal else e,st,kn)
 | .loop mk keep zAQ c,st,kn=>(LT mk (st.norm keep)).bind fun (e,s)=> .done (e,s,[])
 | .exit id,st,kn=> .done (.exit id,st,kn)
 | .ret,st,kn=> .done (.ret,st,kn)
def zJf (st:St):List (Bool×List CV)→Tr (List (Bool×List CV)×St)
 | []=> .done ([],st)
 |(g,cs)::r=>(zBe st cs).bind fun (ps,st)=>(zJf st r).bind fun (l,st')=> .done ((g,ps.map CV.p)::l,st')
def zFs (kf:KFun) (e:Ex) (st:St):Tr Res:=
 if (e= .normal∨e= .ret)∧kf.frozen=true then match zBq st kf.results with
  |some l=>(zJf st l).bind fun (l,st)=> .done ⟨zAf l,st.up,[]⟩
  |none=> .fail
 else if e= .normal∨e= .ret then match (zBq st kf.results).bind (zGn st) with
  |some r=> .done r
  |none=> .fail
 else .fail
def zK0 (kf:KFun) (args:List AV) (up:List Frame) (r:Res):Tr Res:=
 if kf.nil1=true then match args,up with
  | [.c (.p (.ls rows))],[]=> .ask (!rows.isEmpty||zC7 r) (.done r) .fail
  |_,_=> .fail
 else .done r
def zKS (CT:zDk) (LT:zGb) (kf:KFun) (args:List AV) (up:List Frame):Tr Res:=
 if args.length=kf.params.length then (zBX CT LT kf.body ⟨zD1 args 0,[],up⟩ []).bind fun (e,st,_)=>(zFs kf e st.low).bind (zK0 kf args up) else .fail
def zEp (CT:zDk) (run:zZ):Prop:=∀f args up r,(CT f args up).run=some r→run f args up=some r
def zAL:KCode→List (Nat×List Nat×List (Ex×List Nat)×KCode)
 | .seq a b| .cond _ a b=>zAL a++zAL b
 | .block _ c=>zAL c
 | .loop mk keep zAQ c=> [(mk,keep,zAQ,c)]
 |_=> []
def zDh (body:St→Option (Ex×St)) (keep:List Nat):Nat→St→Option (Ex×St)
 |0,_=>none
 |m+1,st=>(body st).bind fun (e,s)=>match e with
  | .normal=>zDh body keep m (s.norm keep)
  |e=>some (e,s)
theorem zHp (body:St→Option (Ex×St)) (keep:List Nat):∀(m:Nat) (st:St),zGm body keep m st=zDh body keep m (st.norm keep)
 |0,st=>rfl
 |m+1,st=>by
  simp only [zGm,zDh]
  congr 1
  funext p
  obtain ⟨e,s⟩:=p
  cases e with
  |normal=>exact zHp body keep m s
  |_=>rfl
def zIJ (LT:zGb) (run:zZ) (N:Nat) (c:KCode):Prop:=
 ∀mk keep zAQ b,(mk,keep,zAQ,b)∈zAL c→∀st e s,(LT mk st).run=some (e,s)→∃s0,zDh (zl run N b) keep N st=some (e,s0)∧s=s0.norm (zDQ e zAQ)
section
variable {CT:zDk} {LT:zGb} {run:zZ} {N:Nat} {st:St} {kn:Kn}
theorem zKT {dst:Nat} {k:KOp} {v:AV} {s:St} {kn':Kn} {kb:Option Bool} (hk:KnOK kn st) (h:(zFp st kn dst k).run=some (v,s,kn',kb)) (hst:∀{v s},zA zKg st dst k=some (v,s)→s.t=st.t):
  zA run st dst k=some (v,s)∧s.t=st.t∧KnOK kn' s∧∀b,kb=some b→v= .c (.p (.b b)):=by
 unfold zFp at h
 split at h
 ·rename_i v' s' he
  cases h
  have ht:=hst he
  exact ⟨zGY (fun f a u r h=>by cases h) he,ht,hk.frame ht,fun b hb=>by cases hb⟩
 ·cases h
theorem zFR {c:CV} {st:St} {y:PV×St} (h:zAb st c=some y):y.2.t=st.t:=by
 unfold zAb at h
 split at h
 ·cases h;rfl
 ·split at h
  ·split at h
   ·cases h;exact zA9 _ _ _ _
   ·cases h
  ·cases h
 ·cases h
theorem zCG:∀{l:List CV} {st:St} {y:List PV×St},zq st l=some y→y.2.t=st.t
 | [],st,y,h=>by cases h;rfl
 |x::r,st,y,h=>by
  simp only [zq,Option.bind_eq_some_iff,Option.some.injEq] at h
  obtain ⟨⟨a,s1⟩,h1,⟨b,s2⟩,h2,rfl⟩:=h
  exact (zCG h2).trans (zFR h1)
theorem zC0:∀{l:List (List CV)} {st:St} {y:List (List PV)×St},zX st l=some y→y.2.t=st.t
 | [],st,y,h=>by cases h;rfl
 |x::r,st,y,h=>by
  simp only [zX,Option.bind_eq_some_iff,Option.some.injEq] at h
  obtain ⟨⟨a,s1⟩,h1,⟨b,s2⟩,h2,rfl⟩:=h
  exact (zC0 h2).trans (zCG h1)
theorem zEg:∀{l:List AV} {st:St} {y:List AV×St},z8 st l=some y→y.2.t=st.t
 | [],st,y,h=>by cases h;rfl
 |x::r,st,y,h=>by
  simp only [z8,Option.bind_eq_some_iff,Option.map_eq_some_iff] at h
  obtain ⟨⟨a,s1⟩,h1,⟨b,s2⟩,h2,rfl⟩:=h
  refine (zEg h2).trans ?_
  cases x with
  |c x=>
   simp only [zAC,Option.map_eq_some_iff,Prod.mk.injEq,Prod.exists] at h1
   obtain ⟨p,s,h3,_,rfl⟩:=h1
   exact zFR h3
  |agg cs=>
   simp only [zAC,Option.map_eq_some_iff,Prod.mk.injEq,Prod.exists] at h1
   obtain ⟨p,s,h3,_,rfl⟩:=h1
   exact zCG h3
  |tup vs=>cases h1
theorem zFt {a:AV} {xs:List CV} {s:St} (h:st.write a xs=some s):s.t=st.t:=by
 unfold St.write at h
 split at h
 ·split at h
  ·split at h
   ·cases h;exact zA9 _ _ _ _
   ·cases h
  ·simp only [Option.bind_eq_some_iff] at h
   obtain ⟨⟨ys,s1⟩,h1,h⟩:=h
   have ht:=zCG h1
   simp only at h ht
   split at h
   ·split at h
    ·split at h
     ·split at h
      ·cases h;exact (zA9 _ _ _ _).trans ht
      ·cases h
     ·cases h
    ·cases h
   ·cases h
  ·cases h
 ·cases h
theorem zCH {base:Nat}:∀(l:List (Nat×TypeId×Nat)) (i:Nat) (cs:List CV) (st:St),(zQ base l i cs st).2.t=st.t
 | [],_,_,_=>rfl
 |(col,ty,sz)::r,i,cs,st=>by
  unfold zQ
  split
  ·exact zCH r (i+1) _ _
  ·exact zCH r (i+1) cs st
theorem zGe {dst:Nat} {k:KOp} {v:AV} {s:St} (h:zA run st dst k=some (v,s)):s.t=st.t:=by
 cases k<;>simp only [zA] at h
 case nil=>cases h;rfl
 case mv=>cases h;rfl
 case rel=>
  split at h
  ·split at h<;>cases h;rfl
  ·cases h
 case pick=>split at h<;>cases h;rfl
 case box=>
  split at h
  ·cases h
  ·split at h
   ·cases h;rfl
   ·cases h
 case build=>
  obtain ⟨cs,_,h⟩:=Option.map_eq_some_iff.1 h
  cases h;rfl
 case bslice=>
  obtain ⟨rows,_,h⟩:=Option.bind_eq_some_iff.1 h
  split at h
  ·rename_i rs s1 hf
   cases h
   exact zC0 hf
  ·split at h
   ·cases h;rfl
   ·cases h
 case load=>
  obtain ⟨cs,_,h⟩:=Option.bind_eq_some_iff.1 h
  obtain ⟨v',_,h⟩:=Option.map_eq_some_iff.1 h
  cases h;rfl
 case store=>
  split at h
  ·cases h
  ·split at h
   ·obtain ⟨s',h1,h⟩:=Option.map_eq_some_iff.1 h
    cases h
    exact zFt h1
   ·cases h
 case storeN=>
  split at h
  ·cases h
  ·split at h
   ·obtain ⟨s',h1,h⟩:=Option.map_eq_some_iff.1 h
    cases h
    exact (zFt h1).trans (zCH _ _ _ _)
   ·cases h
 case chk=>
  split at h
  ·split at h<;>cases h;rfl
  ·cases h;rfl
  ·cases h;rfl
  ·cases h
 case bin=>
  split at h
  ·obtain ⟨_,_,h⟩:=Option.map_eq_some_iff.1 h;cases h;rfl
  ·cases h
 case eqs=>
  split at h
  ·obtain ⟨_,_,h⟩:=Option.map_eq_some_iff.1 h;cases h;rfl
  ·cases h
 case beq=>split at h<;>cases h;rfl
 case inil=>split at h<;>cases h<;>rfl
 case un=>
  split at h
  ·obtain ⟨_,_,h⟩:=Option.map_eq_some_iff.1 h;cases h;rfl
  ·cases h
 case conv=>split at h<;>cases h;rfl
 case str=>split at h<;>cases h;rfl
 case toStr=>
  obtain ⟨_,_,h⟩:=Option.bind_eq_some_iff.1 h
  obtain ⟨_,_,h⟩:=Option.map_eq_some_iff.1 h;cases h;rfl
 case mkfn=>obtain ⟨_,_,h⟩:=Option.map_eq_some_iff.1 h;cases h;rfl
 case mksl=>
  obtain ⟨_,_,h⟩:=Option.bind_eq_some_iff.1 h
  obtain ⟨_,_,h⟩:=Option.bind_eq_some_iff.1 h
  split at h<;>cases h;rfl
 case slcS=>
  split at h
  ·obtain ⟨_,_,h⟩:=Option.bind_eq_some_iff.1 h
   obtain ⟨_,_,h⟩:=Option.bind_eq_some_iff.1 h
   split at h<;>cases h;rfl
  ·cases h
 case slc=>
  split at h
  ·obtain ⟨_,_,h⟩:=Option.bind_eq_some_iff.1 h
   obtain ⟨_,_,h⟩:=Option.bind_eq_some_iff.1 h
   split at h<;>cases h;rfl
  ·cases h
 case faddr=>
  split at h
  ·split at h<;>cases h;rfl
  ·cases h;rfl
  ·cases h
 case field=>
  split at h
  ·split at h
   ·obtain ⟨_,_,h⟩:=Option.map_eq_some_iff.1 h;cases h;rfl
   ·cases h
  ·cases h
 case iaddr=>
  obtain ⟨i,_,h⟩:=Option.bind_eq_some_iff.1 h
  split at h
  ·split at h
   ·split at h
    ·split at h<;>cases h;rfl
    ·cases h
   ·cases h
  ·split at h
   ·split at h<;>cases h;rfl
   ·split at h<;>cases h;rfl
   ·cases h
  ·cases h
 case index=>
  obtain ⟨i,_,h⟩:=Option.bind_eq_some_iff.1 h
  split at h
  ·split at h
   ·split at h<;>cases h;rfl
   ·cases h
  ·cases h
 case ext=>
  split at h
  ·split at h
   ·obtain ⟨_,_,h⟩:=Option.map_eq_some_iff.1 h;cases h;rfl
   ·cases h
  ·cases h
 case app=>
  split at h
  ·split at h<;>cases h;rfl
  ·split at h
   ·split at h
    ·cases h;exact zA9 _ _ _ _
    ·cases h
   ·cases h
  ·cases h
 case boxN=>
  split at h
  ·cases h
  ·split at h
   ·cases h;rfl
   ·cases h
 case storeB=>
  split at h
  ·obtain ⟨s',h1,h⟩:=Option.map_eq_some_iff.1 h
   cases h
   exact (zFt h1).trans (zCH _ _ _ _)
  ·cases h
 case callN f args=>
  split at h
  ·cases hq:args.map st.eval++(List.map Cap.av ‹_›) with
   |nil=>rw [hq] at h;cases h
   |cons a0 r=>
    rw [hq] at h
    simp only [callN] at h
    obtain ⟨⟨r',s1⟩,h1,h⟩:=Option.bind_eq_some_iff.1 h
    obtain ⟨⟨a',q,q2⟩,h2,h⟩:=Option.bind_eq_some_iff.1 h
    obtain ⟨res,h3,h⟩:=Option.bind_eq_some_iff.1 h
    exact (zKR h).trans (zEg h1)
  ·cases h
 case len s x=>
  cases s
  ·simp only [zA] at h
   split at h
   ·cases h;rfl
   ·cases h;rfl
   ·split at h<;>cases h;rfl
   ·cases h
  ·simp only [zA] at h
   split at h<;>cases h;rfl
 case mm=>obtain ⟨_,_,h⟩:=Option.map_eq_some_iff.1 h;cases h;rfl
 case call bo f args=>
  split at h
  ·unfold zBG at h
   split at h
   ·obtain ⟨⟨as,l⟩,_,h⟩:=Option.bind_eq_some_iff.1 h
    obtain ⟨r,_,h⟩:=Option.bind_eq_some_iff.1 h
    split at h<;>cases h;rfl
   ·obtain ⟨⟨ar,d,n,B⟩,_,h⟩:=Option.bind_eq_some_iff.1 h
    obtain ⟨r,_,h⟩:=Option.bind_eq_some_iff.1 h
    unfold zDN at h
    split at h
    ·split at h
     ·split at h
      ·cases h;exact zA9 _ _ _ _
      ·cases h
     ·cases h
    ·cases h
  ·cases h
def zJg (run:zZ) (st:St) (dst:Nat) (k:KOp) (x:OpR):Prop:=zA run st dst k=some (x.1,x.2.1)∧KnOK x.2.2.1 x.2.1∧∀b,x.2.2.2=some b→x.1= .c (.p (.b b))
theorem zBf {dst:Nat} {k:KOp} {x:OpR} (hk:KnOK kn st) (h:(zFp st kn dst k).run=some x):zJg run st dst k x:=by
 obtain ⟨v,s,kn',kb⟩:=x
 obtain ⟨h1,h2,h3,h4⟩:=zKT (run:=run) hk h (fun h=>zGe h)
 exact ⟨h1,h3,h4⟩
theorem zCI {dst:Nat} {k:KOp} {v:AV} {kn':Kn} {kb:Option Bool} {x:OpR} (he:zA run st dst k=some (v,st)) (hk:KnOK kn' st) (hb:∀b,kb=some b→v= .c (.p (.b b))) (h:(Tr.done (v,st,kn',kb)).run=some x):zJg run st dst k x:=by
 cases h
 exact ⟨he,hk,hb⟩
theorem zr {dst:Nat} {k:KOp} {v:AV} {s:St} {x:OpR} (he:zA run st dst k=some (v,s)) (hk:KnOK kn st) (h:(Tr.done (v,s,kn,none)).run=some x):zJg run st dst k x:=by
 cases h
 exact ⟨he,hk.frame (zGe he),fun b hb=>by cases hb⟩
theorem zIK {a:AV} {y:AV×Nat×Nat×Blk} (h:(zHD st a).run=some y):zBZ st a=some y:=by
 unfold zHD at h
 unfold zBZ
 split at h
 ·split at h
  ·rename_i g' sz ty rows hB
   split at h
   ·rename_i hg
    obtain ⟨hm,h⟩:=Tr.ask_yes h
    cases h
    simp only [hB]
    rw [if_pos ⟨hg,hm⟩]
   ·cases h
  ·cases h
 ·split at h
  ·rename_i g' sz ty cells hB
   split at h
   ·rename_i hc
    cases h
    simp only [hB]
    rw [if_pos hc]
   ·cases h
  ·cases h
 ·cases h
theorem zHE {a:AV} (h:¬zJe a=true):zBZ st a=none:=by
 unfold zJe at h
 unfold zBZ
 split
 ·simp at h
 ·simp at h
 ·rfl
theorem zFS:∀{l:List AV} {y:List AV×Nat×Nat×Blk},(zFq st l).run=some y→zBE st l=some y
 | [],y,h=>by cases h
 |a::r,y,h=>by
  simp only [zFq] at h
  simp only [zBE]
  split at h
  ·obtain ⟨⟨a',d,n,B⟩,h1,h⟩:=Tr.bind_some h
   rw [zIK h1]
   simp only at h⊢
   split at h
   ·rename_i r' hr
    cases h
    rw [hr]
    rfl
   ·cases h
  ·rename_i hn
   rw [zHE hn]
   simp only
   split at h
   ·rename_i a' ha
    obtain ⟨⟨r',q⟩,h1,h⟩:=Tr.bind_some h
    cases h
    rw [ha,zFS h1]
    rfl
   ·cases h
theorem zJh {n dst:Nat} {a x:KX} (h:∀vs,st.eval x= .tup vs→False):zA run st dst (.store n a x)=if (st.eval x).cvs.length=n∧(st.eval x).cvs.all (·.known)=true then (st.write (st.eval a) (st.eval x).cvs).map fun st=>(.c .u,st) else none:=by
 simp only [zA]
theorem zHF (hC:zEp CT run) (hk:KnOK kn st) {dst:Nat} {k:KOp} {x:OpR} (h:(zDu CT st kn dst k).run=some x):zJg run st dst k x:=by
 unfold zDu at h
 split at h
 ·--mv
  exact zCI rfl hk (fun b hb=>zFl hk hb) h
 ·--pick
  obtain ⟨v,kn',h1,h2,h3⟩:=zFm hk h
  cases v
  ·exact zCI (by simp only [zA,h1];rfl) h2 (fun b hb=>zFl h2 hb) h3
  ·exact zCI (by simp only [zA,h1];rfl) h2 (fun b hb=>zFl h2 hb) h3
 ·--un
  split at h
  ·rename_i v hx
   refine zCI (by simp only [zA,hx,unP];rfl) hk (fun b hb=>?_) h
   obtain ⟨c,hc,rfl⟩:=Option.map_eq_some_iff.1 hb
   have:=zFl hk hc
   rw [hx] at this
   cases this
   rfl
  ·exact zBf hk h
 ·--bin
  rename_i op x y
  split at h
  ·rename_i k a k' b hx hy
   split at h
   ·rename_i e
    subst e
    have key:∀{r:PV} {z:OpR},zFY op k a b=some r→(Tr.done ((.c (.p r),st,kn,none):OpR)).run=some z→zJg run st dst (.bin op x y) z:=fun {r z} hr h'=>
     zr (by simp only [zA,hx,hy,zGk,if_true,hr,Option.map_some]) hk h'
    unfold zKh at h
    split at h
    ·split at h
     ·split at h
      ·rename_i r hr;exact key hr h
      ·cases h
     ·rcases Tr.ask_some h with ⟨_,h2⟩|⟨h1,h2⟩
      ·cases h2
      ·have h1:¬b=0:=by simpa using h1
       exact key (by simp only [zFY];rw [if_neg h1]) h2
    ·split at h
     ·split at h
      ·rename_i r hr;exact key hr h
      ·cases h
     ·rcases Tr.ask_some h with ⟨_,h2⟩|⟨h1,h2⟩
      ·cases h2
      ·have h1:¬b=0:=by simpa using h1
       exact key (by simp only [zFY];rw [if_neg h1]) h2
    ·split at h
     ·split at h
      ·rename_i r hr;exact key hr h
      ·cases h
     ·cases h
    ·split at h
     ·split at h
      ·rename_i r hr;exact key hr h
      ·cases h
     ·cases h
    ·split at h
     ·rename_i r hr;exact key hr h
     ·cases h
   ·cases h
  ·rename_i a b hx hy
   split at h
   ·obtain ⟨h1,h2⟩:=Tr.ask_yes h
    exact zr (by simp only [zA,hx,hy,zGk,zIT];rw [if_pos h1];rfl) hk h2
   ·split at h
    ·rename_i r hr
     exact zr (by simp only [zA,hx,hy,zGk,hr,Option.map_some]) hk h
    ·cases h
  ·cases h
 ·--load
  rename_i g n ks a
  split at h
  ·rename_i e o ha
   split at h
   ·rename_i hc
    obtain ⟨cs,h1,h2⟩:=Tr.bind_some h
    obtain ⟨ps,rfl,h3,h4⟩:=zDI h1
    obtain ⟨h5,h6⟩:=zEb (by omega) h4
    split at h2
    ·rename_i v hv
     rw [h3,hc.1] at h5 h6
     exact zr (by simp only [zA,ha,St.read];rw [if_pos h5,h6];simp only [Option.bind_some,hv,Option.map_some]) hk h2
    ·cases h2
   ·cases h
  ·rename_i d m gg j o ha
   split at h
   ·rename_i g' sz ty rows hB
    split at h
    ·rename_i hc
     obtain ⟨e,he,h⟩:=Tr.opt_some h
     obtain ⟨cs,h1,h2⟩:=Tr.bind_some h
     obtain ⟨ps,rfl,h3,h4⟩:=zDI h1
     obtain ⟨h5,h6⟩:=zEb (by omega) h4
     split at h2
     ·rename_i v hv
      rw [h3,hc.2.1] at h5 h6
      exact zr (by simp only [zA,ha,St.read,hB];rw [if_pos ⟨hc.1,hc.2.2.2⟩,he];simp only;rw [if_pos h5,h6];simp only [Option.bind_some,hv,Option.map_some]) hk h2
     ·cases h2
    ·cases h
   ·exact zBf hk h
  ·cases h
 ·--store
  rename_i n a x
  split at h
  ·rename_i d m gg j o v ha
   split at h
   ·cases h
   ·rename_i B1 B2 B3 B4 hB hnt
    split at h
    ·rename_i hc
     obtain ⟨⟨ys,s1⟩,h1,h2⟩:=Tr.bind_some h
     obtain ⟨h3,h4⟩:=zA6 h1
     simp only at h2
     split at h2
     ·rename_i g' sz ty rows hB'
      split at h2
      ·rename_i hg
       obtain ⟨e,he,h2⟩:=Tr.opt_some h2
       obtain ⟨h5,h2⟩:=Tr.ask_yes h2
       refine zr ?_ hk h2
       rw [zJh hnt,if_pos hc,ha]
       simp only [St.write,hB,h3,Option.bind_some,hB']
       rw [if_pos hg,he]
       simp only
       rw [if_pos h5]
       rfl
      ·cases h2
     ·cases h2
    ·cases h
   ·exact zBf hk h
  ·cases h
 ·--index
  split at h
  ·rename_i s i hx hi
   obtain ⟨h1,h⟩:=Tr.ask_yes h
   obtain ⟨c,h2,h⟩:=Tr.opt_some h
   exact zr (by simp only [zA,hi,zA3,Option.bind_some,hx];rw [if_pos h1,h2]) hk h
  ·cases h
 ·--iaddr
  rename_i sz x i
  split at h
  ·rename_i rows z hx hi
   obtain ⟨h1,h⟩:=Tr.ask_yes h
   obtain ⟨e,h2,h⟩:=Tr.opt_some h
   obtain ⟨h3,h⟩:=Tr.ask_yes h
   exact zr (by simp only [zA,hi,zA3,Option.bind_some,hx];rw [if_pos h1,h2];simp only;rw [if_pos h3]) hk h
  ·rename_i d n g m z hx hi
   split at h
   ·rename_i g' sz' ty rows hB
    split at h
    ·rename_i hc
     obtain ⟨h1,h⟩:=Tr.ask_yes h
     exact zr (by simp only [zA,hi,zA3,Option.bind_some,hx,hB];rw [if_pos ⟨hc.1,hc.2,h1⟩]) hk h
    ·cases h
   ·exact zBf hk h
  ·cases h
 ·--slcS
  rename_i x lo hi
  split at h
  ·rename_i s l hx hl
   split at h
   ·rename_i u hu
    obtain ⟨h1,h⟩:=Tr.ask_yes h
    exact zr (by simp only [zA,hx,hl,hu,Option.bind_some];rw [if_pos h1]) hk h
   ·cases h
  ·cases h
 ·--slc
  rename_i sz x lo hi
  split at h
  ·rename_i rows l hx hl
   split at h
   ·rename_i u hu
    obtain ⟨h1,h⟩:=Tr.ask_yes h
    exact zr (by simp only [zA,hx,hl,hu,Option.bind_some];rw [if_pos h1]) hk h
   ·cases h
  ·cases h
 ·--toStr
  obtain ⟨rows,h1,h⟩:=Tr.bind_some h
  obtain ⟨l,h2,h⟩:=Tr.opt_some h
  exact zr (by simp only [zA,zGa h1,Option.bind_some,h2,Option.map_some]) hk h
 ·--app
  rename_i ty sz bytes x y
  obtain ⟨ys,h1,h⟩:=Tr.bind_some h
  have h1:=zGa h1
  split at h
  ·rename_i hx
   obtain ⟨h2,h⟩:=Tr.ask_yes h
   exact zr (by simp only [zA,hx,h1];rw [if_pos h2]) hk h
  ·rename_i d n g m hx
   split at h
   ·rename_i g' sz' ty' rows hB
    split at h
    ·rename_i hc
     obtain ⟨h2,h⟩:=Tr.ask_yes h
     exact zr (by simp only [zA,hx,h1,hB];rw [if_pos ⟨hc.1,hc.2.1,hc.2.2,h2⟩]) hk h
    ·cases h
   ·cases h
  ·cases h
 ·--mksl
  split at h
  ·rename_i l c hl hc
   split at h
   ·rename_i hz
    obtain ⟨h2,h⟩:=Tr.ask_yes h
    exact zr (by simp only [zA,hl,hc,zA3,Option.bind_some];rw [if_pos ⟨h2.1,h2.2.1,h2.2.2.1,h2.2.2.2,hz⟩]) hk h
   ·cases h
  ·cases h
 ·--call
  rename_i f args
  split at h
  ·rename_i g caps hf
   obtain ⟨⟨as,lent⟩,h1,h⟩:=Tr.bind_some h
   obtain ⟨r,h2,h⟩:=Tr.bind_some h
   have h1:=zEe h1
   have h2:=hC _ _ _ _ h2
   split at h
   ·rename_i hs
    split at h
    ·rename_i hc
     refine zr ?_ hk h
     simp only [zA,hf,zBG,if_true,h1,Option.bind_some,h2]
     rw [if_pos ⟨.inl hc,hs⟩]
    ·rcases Tr.ask_some h with ⟨hc,h⟩|⟨_,h⟩
     ·refine zr ?_ hk h
      simp only [zA,hf,zBG,if_true,h1,Option.bind_some,h2]
      rw [if_pos ⟨.inr hc,hs⟩]
     ·cases h
   ·cases h
  ·cases h
 ·--a call that is lent a block
  rename_i f args
  split at h
  ·rename_i g caps hf
   obtain ⟨⟨as,d,n,B⟩,h1,h⟩:=Tr.bind_some h
   obtain ⟨r,h2,h⟩:=Tr.bind_some h
   have h1:=zFS h1
   have h2:=hC _ _ _ _ h2
   split at h
   ·rename_i v s hb
    refine zr ?_ hk h
    simp only [zA,hf,zBG,Bool.false_eq_true,if_false,h1,Option.bind_some,h2,hb]
   ·cases h
  ·cases h
 ·--a call that is lent a box with an own row
  rename_i f args
  split at h
  ·rename_i g caps hf
   split at h
   ·rename_i a r hq
    obtain ⟨⟨r',s1⟩,h1,h⟩:=Tr.bind_some h
    have h1:=(zCz h1).1
    simp only at h
    split at h
    ·rename_i a' q q2 hl
     obtain ⟨res,h2,h⟩:=Tr.bind_some h
     have h2:=hC _ _ _ _ h2
     split at h
     ·rename_i v s hb
      refine zr ?_ hk h
      simp only [zA,hf,hq,callN,h1,Option.bind_some,hl,h2,hb]
     ·cases h
    ·cases h
   ·cases h
  ·cases h
 ·--a literal slice
  split at h
  ·rename_i rows hrows
   split at h
   ·obtain ⟨⟨rs,s1⟩,h1,h⟩:=Tr.bind_some h
    obtain ⟨h1,ht⟩:=zB8 h1
    cases h
    exact ⟨by simp only [zA,hrows,Option.bind_some,h1],hk.frame ht,fun b hb=>by cases hb⟩
   ·exact zBf hk h
  ·cases h
 ·exact zBf hk h
theorem zC1 (hC:zEp CT run) (hk:KnOK kn st) {o:KOper} {s:St} {kn':Kn} (h:(zCF CT st kn o).run=some (s,kn')):zN run st o=some s∧KnOK kn' s:=by
 have go:∀{kn:Kn},KnOK kn st→((zDu CT st kn (o.dst.getD 0) o.op).bind fun (v,s,kn,kb)=>Tr.done (({s with t:=zBL s.t o.dst v}:St),zFO kn o.dst kb)).run=some (s,kn')→
   (zA run st (o.dst.getD 0) o.op).map (fun (a,st)=>({st with t:=zBL st.t o.dst a}:St))=some s∧KnOK kn' s:=fun {kn} hk h=>by
  obtain ⟨⟨v,s1,kn1,kb⟩,h1,h2⟩:=Tr.bind_some h
  obtain ⟨e1,e2,e3⟩:=zHF hC hk h1
  cases h2
  exact ⟨by rw [e1];rfl,zEY e2 e3⟩
 unfold zCF at h
 cases hg:o.guard with
 |none=>
  simp only [hg] at h
  simp only [zN,hg]
  exact go hk h
 |some jw=>
  obtain ⟨j,want⟩:=jw
  simp only [hg] at h
  split at h
  ·rename_i hu
   simp only [zN,hg,hu]
   cases h
   exact ⟨rfl,zEY hk (fun b hb=>by cases hb)⟩
  obtain ⟨v,kn1,h1,h2,h3⟩:=zFm hk h
  have h1':zF j st.t=some (.c (.p (.b v))):=by
   simp only [St.eval] at h1
   cases hq:zF j st.t with
   |none=>rw [hq] at h1;cases h1
   |some a=>rw [hq] at h1;simp only at h1;rw [h1]
  simp only [zN,hg,h1']
  split at h3
  ·rename_i e
   rw [if_pos e]
   exact go h2 h3
  ·rename_i e
   rw [if_neg e]
   cases h3
   exact ⟨rfl,zEY h2 (fun b hb=>by cases hb)⟩
theorem zDi (hC:zEp CT run):∀{l:List KOper} {st:St} {kn:Kn} {s:St} {kn':Kn},KnOK kn st→(zEf CT l st kn).run=some (s,kn')→zBP run l st=some s∧KnOK kn' s
 | [],st,kn,s,kn',hk,h=>by cases h;exact ⟨rfl,hk⟩
 |o::r,st,kn,s,kn',hk,h=>by
  obtain ⟨⟨s1,kn1⟩,h1,h2⟩:=Tr.bind_some h
  obtain ⟨e1,e2⟩:=zC1 hC hk h1
  obtain ⟨e3,e4⟩:=zDi hC e2 h2
  exact ⟨by simp only [zBP,e1,Option.bind_some,e3],e4⟩
theorem zFT (hC:zEp CT run):∀{l:List (KOper×List Bool)} {ts:List Tch} {st:St} {kn:Kn} {s:St} {kn':Kn},KnOK kn st→(zFr CT l ts st kn).run=some (s,kn')→zDy run l ts st=some s∧KnOK kn' s
 | [],ts,st,kn,s,kn',hk,h=>by cases h;exact ⟨rfl,hk⟩
 |(o,bs)::r,ts,st,kn,s,kn',hk,h=>by
  simp only [zFr] at h
  split at h
  ·rename_i hc
   obtain ⟨⟨s1,kn1⟩,h1,h2⟩:=Tr.bind_some h
   obtain ⟨e1,e2⟩:=zC1 hC hk h1
   obtain ⟨e3,e4⟩:=zFT hC e2 h2
   exact ⟨by simp only [zDy,hc,if_true,e1,Option.bind_some];exact e3,e4⟩
  ·cases h
theorem zFU (hC:zEp CT run):∀(c:KCode),zIJ LT run N c→∀{st:St} {kn:Kn} {e:Ex} {s:St} {kn':Kn},KnOK kn st→(zBX CT LT c st kn).run=some (e,s,kn')→zl run N c st=some (e,s)∧KnOK kn' s:=by
 intro c
 induction c with
 |skip=>intro hL st kn e s kn' hk h;cases h;exact ⟨rfl,hk⟩
 |ops l=>
  intro hL st kn e s kn' hk h
  obtain ⟨⟨s1,kn1⟩,h1,h2⟩:=Tr.bind_some h
  cases h2
  obtain ⟨e1,e2⟩:=zDi hC hk h1
  exact ⟨by simp only [zl,e1,Option.map_some],e2⟩
 |draw l=>
  intro hL st kn e s kn' hk h
  obtain ⟨⟨s1,kn1⟩,h1,h2⟩:=Tr.bind_some h
  cases h2
  obtain ⟨e1,e2⟩:=zFT hC hk h1
  exact ⟨by simp only [zl,e1,Option.map_some],e2⟩
 |seq a b iha ihb=>
  intro hL st kn e s kn' hk h
  obtain ⟨⟨e1,s1,kn1⟩,h1,h2⟩:=Tr.bind_some h
  obtain ⟨g1,g2⟩:=iha (fun mk keep zAQ b hm=>hL mk keep zAQ b (by simp only [zAL];exact List.mem_append_left _ hm)) hk h1
  simp only [zl,g1,Option.bind_some]
  cases e1 with
  |normal=>exact ihb (fun mk keep zAQ b hm=>hL mk keep zAQ b (by simp only [zAL];exact List.mem_append_right _ hm)) g2 h2
  |exit id=>cases h2;exact ⟨rfl,g2⟩
  |ret=>cases h2;exact ⟨rfl,g2⟩
 |cond c a b iha ihb=>
  intro hL st kn e s kn' hk h
  obtain ⟨v,kn1,h1,h2,h3⟩:=zFm hk h
  simp only [zl,h1]
  cases v
  ·exact ihb (fun mk keep zAQ b hm=>hL mk keep zAQ b (by simp only [zAL];exact List.mem_append_right _ hm)) h2 h3
  ·exact iha (fun mk keep zAQ b hm=>hL mk keep zAQ b (by simp only [zAL];exact List.mem_append_left _ hm)) h2 h3
 |block id c ih=>
  intro hL st kn e s kn' hk h
  obtain ⟨⟨e1,s1,kn1⟩,h1,h2⟩:=Tr.bind_some h
  cases h2
  obtain ⟨g1,g2⟩:=ih (fun mk keep zAQ b hm=>hL mk keep zAQ b (by simpa only [zAL] using hm)) hk h1
  exact ⟨by simp only [zl,g1,Option.map_some],g2⟩
 |loop mk keep zAQ c ih=>
  intro hL st kn e s kn' hk h
  obtain ⟨⟨e1,s1⟩,h1,h2⟩:=Tr.bind_some h
  cases h2
  obtain ⟨s0,g1,rfl⟩:=hL mk keep zAQ c (by simp [zAL]) _ _ _ h1
  exact ⟨by simp only [zl,zHp,g1,Option.map_some],fun n b hn=>by cases hn⟩
 |exit id=>intro hL st kn e s kn' hk h;cases h;exact ⟨rfl,hk⟩
 |ret=>intro hL st kn e s kn' hk h;cases h;exact ⟨rfl,hk⟩
theorem zGf:∀{l:List (Bool×List CV)} {st:St} {y:List (Bool×List CV)×St},(zJf st l).run=some y→zAQ st l=some y
 | [],st,y,h=>by cases h;rfl
 |(g,cs)::r,st,y,h=>by
  obtain ⟨⟨ps,s1⟩,h1,h2⟩:=Tr.bind_some h
  obtain ⟨⟨l,s2⟩,h3,h4⟩:=Tr.bind_some h2
  cases h4
  simp only [zAQ,(zA6 h1).1,Option.bind_some,zGf h3,Option.map_some]
theorem zHG {kf:KFun} {e:Ex} {st:St} {r:Res} (h:(zFs kf e st).run=some r):zC6 kf e st=some r:=by
 unfold zFs at h
 unfold zC6
 split at h
 ·rename_i hc
  rw [if_pos hc]
  split at h
  ·rename_i l hl
   obtain ⟨⟨l',s⟩,h1,h2⟩:=Tr.bind_some h
   cases h2
   simp only [hl,Option.bind_some,zGf h1,Option.map_some]
  ·cases h
 ·rename_i hc
  rw [if_neg hc]
  split at h
  ·rename_i hc2
   rw [if_pos hc2]
   split at h
   ·rename_i r' hr
    cases h
    exact hr
   ·cases h
  ·cases h
theorem zKU {kf:KFun} {args:List AV} {up:List Frame} {q r:Res} (h:(zK0 kf args up q).run=some r):zGo kf args up q=some r:=by
 unfold zK0 at h
 unfold zGo
 split at h
 ·rename_i hn
  rw [if_pos hn]
  split at h
  ·rcases Tr.ask_some h with ⟨hc,h⟩|⟨_,h⟩
   ·cases h
    simp only
    rw [if_pos hc]
   ·cases h
  ·cases h
 ·rename_i hn
  rw [if_neg hn]
  exact h
theorem zKV (hC:zEp CT run) {kf:KFun} (hL:zIJ LT run N kf.body) {args:List AV} {up:List Frame} {r:Res} (h:(zKS CT LT kf args up).run=some r):
  args.length=kf.params.length∧((zl run N kf.body ⟨zD1 args 0,[],up⟩).bind fun (e,st)=>(zC6 kf e st.low).bind (zGo kf args up))=some r:=by
 unfold zKS at h
 split at h
 ·rename_i hl
  obtain ⟨⟨e,s,kn⟩,h1,h2⟩:=Tr.bind_some h
  obtain ⟨g1,_⟩:=zFU (N:=N) hC kf.body hL (fun n b hn=>by cases hn) h1
  obtain ⟨q,h3,h4⟩:=Tr.bind_some h2
  exact ⟨hl,by rw [g1];simp only [Option.bind_some,zHG h3];exact zKU h4⟩
 ·cases h
end
theorem zIL {KP:FuncId→Option KFun} {lib:zZ} {n:Nat} {CT:zDk} {LT:zGb} {f:FuncId} {kf:KFun} (hf:KP f=some kf) (hC:zEp CT (zBg KP lib n)) (hL:zIJ LT (zBg KP lib n) n kf.body) {args:List AV} {up:List Frame} {r:Res}
  (h:(zKS CT LT kf args up).run=some r):zBg KP lib (n+1) f args up=some r:=by
 obtain ⟨h1,h2⟩:=zKV hC hL h
 simp only [zBg,hf]
 rw [if_pos h1]
 exact h2
end Go.Eng

