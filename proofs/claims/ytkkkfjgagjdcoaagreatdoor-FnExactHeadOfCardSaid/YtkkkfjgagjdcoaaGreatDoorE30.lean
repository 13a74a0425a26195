import Derived.Test.YtkkkfjgagjdcoaaGreatDoorE29
set_option linter.unusedVariables false
set_option linter.unusedSimpArgs false
namespace Go.Eng
abbrev zDN:=FuncId→List AV→List Frame→Tr Res
abbrev zGD:=Nat→St→Tr (Ex×St)
def zJ9:zo:=fun _ _ _=>none
abbrev OpR:=AV×St×Kn×Option Bool
def zFS (st:St) (kn:Kn) (dst:Nat) (k:KOp):Tr OpR:=match zA zJ9 st dst k with
 |some (v,s)=> .done (v,s,kn,none)
 |none=> .fail
def zKA (op:BinOp) (k:IntKind) (lit:Bool) (x y:Int) (done:PV→Tr OpR):Tr OpR:=
 match op with
 | .quo| .rem=>if lit then (match zFA op k x y with|some r=>done r|none=> .fail) else .ask (decide (y=0)) .fail (match op with| .quo=>done (.i k (k.wrap (x.tdiv y)))|_=>done (.i k (x.tmod y)))
 | .shl| .shr=>if lit then (match zFA op k x y with|some r=>done r|none=> .fail) else .fail
 |_=>match zFA op k x y with
  |some r=>done r
  |none=> .fail
def zKh:KX→Bool
 | .k _=>true
 | .t _=>false
def zGn (st:St):AV→Tr (AV×Nat×Nat×Blk)
 | .c (.own d n g m)=>match st.get d n with
  |some ⟨g',sz,ty,.row rows⟩=>if g=g' then .ask (decide (m=rows.length)) (.done (.c (.own 0 0 0 m),d,n,⟨0,sz,ty,.row rows⟩)) .fail else .fail
  |_=> .fail
 | .c (.ptr d n g 0 0)=>match st.get d n with
  |some ⟨g',sz,ty,.box cells⟩=>if g=g'∧cells.all isP=true then .done (.c (.ptr 0 0 0 0 0),d,n,⟨0,sz,ty,.box cells⟩) else .fail
  |_=> .fail
 |_=> .fail
def zI9:AV→Bool
 | .c (.own ..)| .c (.ptr ..)=>true
 |_=>false
def zFT (st:St):List AV→Tr (List AV×Nat×Nat×Blk)
 | []=> .fail
 |a::r=>if zI9 a=true then (zGn st a).bind fun (a,d,n,B)=>match zCM r with
   |some r=> .done (a::r,d,n,B)
   |none=> .fail
  else match zCl a with
   |some a=>(zFT st r).bind fun (r,q)=> .done (a::r,q)
   |none=> .fail
def zGE (st:St):AV→Tr (AV×St)
 | .c x=>(zCf st x).bind fun (a,st)=> .done (.c (.p a),st)
 | .agg cs=>(zBL st cs).bind fun (l,st)=> .done (.agg (l.map .p),st)
 | .tup _=> .fail
def zCz (st:St):List AV→Tr (List AV×St)
 | []=> .done ([],st)
 |x::r=>(zGE st x).bind fun (a,st)=>(zCz st r).bind fun (l,st)=> .done (a::l,st)
theorem zGF {st:St} {a:AV} {y:AV×St} (h:(zGE st a).run=some y):zp st a=some y∧y.2.t=st.t:=by
 cases a with
 |c x=>
  obtain ⟨⟨p,s⟩,h1,h2⟩:=Tr.bind_some h
  cases h2
  obtain ⟨e1,t1⟩:=zDK h1
  exact ⟨by simp only [zp,e1,Option.map_some],t1⟩
 |agg cs=>
  obtain ⟨⟨p,s⟩,h1,h2⟩:=Tr.bind_some h
  cases h2
  obtain ⟨e1,t1⟩:=zAm h1
  exact ⟨by simp only [zp,e1,Option.map_some],t1⟩
 |tup vs=>cases h
theorem zCh:∀{l:List AV} {st:St} {y:List AV×St},(zCz st l).run=some y→zl st l=some y∧y.2.t=st.t
 | [],st,y,h=>by cases h;exact ⟨rfl,rfl⟩
 |x::r,st,y,h=>by
  obtain ⟨⟨a,st1⟩,h1,h2⟩:=Tr.bind_some h
  obtain ⟨⟨b,st2⟩,h3,h4⟩:=Tr.bind_some h2
  cases h4
  obtain ⟨e1,t1⟩:=zGF h1
  obtain ⟨e2,t2⟩:=zCh h3
  simp only [zl,e1,Option.bind_some,e2,Option.map_some]
  exact ⟨by first|rfl|trivial,t2.trans t1⟩
theorem zJv {st st':St} {q q2:Nat×Nat×Blk} {r:Res} {v:AV} (h:zC3 st q q2 r=some (v,st')):st'.t=st.t:=by
 obtain ⟨_,_,_,_,_,_,_,_,_,_,_,_,_,_,_,_,_,_,_,_,_,_,rfl⟩:=zEf h
 rw [zAo,zAo]
def zBo (st:St):List (List CV)→Tr (List (List PV)×St)
 | []=> .done ([],st)
 |x::r=>(zBL st x).bind fun (a,st)=>(zBo st r).bind fun (b,st)=> .done (a::b,st)
theorem zBp:∀{l:List (List CV)} {st:St} {y:List (List PV)×St},(zBo st l).run=some y→zU st l=some y∧y.2.t=st.t
 | [],st,y,h=>by cases h;exact ⟨rfl,rfl⟩
 |x::r,st,y,h=>by
  obtain ⟨⟨a,st1⟩,h1,h2⟩:=Tr.bind_some h
  obtain ⟨⟨b,st2⟩,h3,h4⟩:=Tr.bind_some h2
  cases h4
  obtain ⟨e1,t1⟩:=zAm h1
  obtain ⟨e2,t2⟩:=zBp h3
  simp only [zU,e1,Option.bind_some,e2]
  exact ⟨by first|rfl|trivial,t2.trans t1⟩
def zKi:CV→Bool
 | .own ..=>true
 |_=>false
def zDW (CT:zDN) (st:St) (kn:Kn) (dst:Nat):KOp→Tr OpR
 | .mv x=> .done (st.eval x,st,kn,knX kn x)
 | .pick c a b=>zI7 st kn c fun v st kn=>match v with
  |true=> .done (st.eval a,st,kn,knX kn a)
  |false=> .done (st.eval b,st,kn,knX kn b)
 | .un op x=>match op,st.eval x with
  | .not,.c (.p (.b v))=> .done (.c (.p (.b (!v))),st,kn,(knX kn x).map (!·))
  |_,_=>zFS st kn dst (.un op x)
 | .bin op x y=>match st.eval x,st.eval y with
  | .c (.p (.i k a)),.c (.p (.i k' b))=>if k=k' then zKA op k (zKh y) a b (fun r=> .done (.c (.p r),st,kn,none)) else .fail
  | .c (.p (.s a)),.c (.p (.s b))=>match op with
   | .add=> .ask (decide (a.size+b.size≤9223372036854775807)) (.done (.c (.p (.s (a++b))),st,kn,none)) .fail
   |op=>match zHz op a b with
    |some r=> .done (.c (.p r),st,kn,none)
    |none=> .fail
  |_,_=> .fail
 | .load g n ks a=>match st.eval a with
  | .c (.rp e o)=>if ks.length=n∧0<n then (zCv e o ks).bind fun cs=>match zBX g cs with
    |some v=> .done (v,st,kn,none)
    |none=> .fail
   else .fail
  | .c (.ptr d m gg j o)=>match st.get d m with
   |some ⟨g',_,_,.row rows⟩=>if gg=g'∧ks.length=n∧0<n then .opt (rows[j]?) fun e=>(zCv e o ks).bind fun cs=>match zBX g cs with
     |some v=> .done (v,st,kn,none)
     |none=> .fail
    else .fail
   |_=>zFS st kn dst (.load g n ks a)
  |_=> .fail
 | .store n a x=>match st.eval a,st.eval x with
  | .c (.ptr d m gg j o),v=>match st.get d m,v with
   |some ⟨_,_,_,.row _⟩,.tup _=> .fail
   |some ⟨_,_,_,.row _⟩,v=>if v.cvs.length=n∧v.cvs.all (·.known)=true then
     (zBL st v.cvs).bind fun (ys,st)=>match st.get d m with
      |some ⟨g',sz,ty,.row rows⟩=>if gg=g' then .opt (rows[j]?) fun e=> .ask (decide (o+ys.length≤e.length)) (.done (.c .u,st.set d m ⟨g',sz,ty,.row (rows.set j (zi e o ys))⟩,kn,none)) .fail else .fail
      |_=> .fail
    else .fail
   |_,_=>zFS st kn dst (.store n a x)
  |_,_=> .fail
 | .index x i=>match st.eval x,st.eval i with
  | .c (.p (.s s)),.c (.p (.i .i64 i))=> .ask (decide (0≤i)) (.opt (s.toList[i.toNat]?) fun c=> .done (.c (.p (.i .u8 c.toNat)),st,kn,none)) .fail
  |_,_=> .fail
 | .iaddr sz x i=>match st.eval x,st.eval i with
  | .c (.p (.ls rows)),.c (.p (.i .i64 z))=> .ask (decide (0≤z∧z<rows.length)) (.opt (rows[z.toNat]?) fun e=> .ask (decide (e.length=sz)) (.done (.c (.rp e 0),st,kn,none)) .fail) .fail
  | .c (.own d n g m),.c (.p (.i .i64 z))=>match st.get d n with
   |some ⟨g',sz',_,.row rows⟩=>if g=g'∧sz'=sz then .ask (decide (m=rows.length∧0≤z∧z<m)) (.done (.c (.ptr d n g z.toNat 0),st,kn,none)) .fail else .fail
   |_=>zFS st kn dst (.iaddr sz x i)
  |_,_=> .fail
 | .slcS x lo hi=>match st.eval x,st.bound 0 lo with
  | .c (.p (.s s)),some l=>match st.bound s.size hi with
   |some h=> .ask (decide (0≤l∧l≤h∧h≤s.size)) (.done (.c (.p (.s (s.extract l.toNat h.toNat))),st,kn,none)) .fail
   |none=> .fail
  |_,_=> .fail
 | .slc sz x lo hi=>match st.eval x,st.bound 0 lo with
  | .c (.p (.ls rows)),some l=>match st.bound rows.length hi with
   |some h=> .ask (decide (0≤l∧l≤h∧h≤rows.length∧rows.all (fun e=>e.length==sz)=true)) (.done (.c (.p (.ls ((rows.take h.toNat).drop l.toNat))),st,kn,none)) .fail
   |none=> .fail
  |_,_=> .fail
 | .toStr x=>(zHK st (st.eval x)).bind fun rows=> .opt (bytesOf rows) fun l=> .done (.c (.p (.s ⟨l.toArray⟩)),st,kn,none)
 | .app ty sz bytes x y=>(zHK st (st.eval y)).bind fun ys=>match st.eval x with
  | .c (.p .nl)=> .ask (decide (0<sz∧0<bytes∧ys.length*bytes≤140737488355328∧ys.all (fun e=>e.length==sz)=true))
    (.done (.c (.own st.up.length (dst*64) (st.fresh (dst*64)) ys.length),(st.new (dst*64) sz ty (.row ys)).2,kn,none)) .fail
  | .c (.own d n g m)=>match st.get d n with
   |some ⟨g',sz',ty',.row rows⟩=>if g=g'∧sz'=sz∧ty'=ty then .ask (decide (m=rows.length∧0<sz∧0<bytes∧(m+ys.length)*bytes≤140737488355328∧ys.all (fun e=>e.length==sz)=true))
     (.done (.c (.own d n (g+1) (m+ys.length)),st.set d n ⟨g+1,sz,ty,.row (rows++ys)⟩,kn,none)) .fail else .fail
   |_=> .fail
  |_=> .fail
 | .mksl ty sz bytes zero l c=>match st.eval l,st.eval c with
  | .c (.p (.i .i64 l)),.c (.p (.i .i64 c))=>if zero.length=sz then .ask (decide (0≤l∧l=c∧bytes*l≤140737488355328∧l≤9223372036854775807))
    (.done (.c (.own st.up.length (dst*64) (st.fresh (dst*64)) l.toNat),(st.new (dst*64) sz ty (.row (zAK zero l.toNat))).2,kn,none)) .fail else .fail
  |_,_=> .fail
 | .call true f args=>match st.eval f with
  | .c (.fn f caps)=>(zFR st (args.map st.eval++caps.map Cap.av)).bind fun (as,lent)=>(CT f as []).bind fun r=>if zCm r=true then
    (if lent=false then .done (r.v.map (zz st.up.length dst st.fr),{st with fr:=zk dst r.rows 0 st.fr},kn,none) else .ask (zAv r) (.done (r.v.map (zz st.up.length dst st.fr),{st with fr:=zk dst r.rows 0 st.fr},kn,none)) .fail) else .fail
  |_=> .fail
 | .call false f args=>match st.eval f with
  | .c (.fn f caps)=>(zFT st (args.map st.eval++caps.map Cap.av)).bind fun (as,d,n,B)=>(CT f as [[(0,B)]]).bind fun r=>match zC2 st dst d n B r with
    |some (v,s)=> .done (v,s,kn,none)
    |none=> .fail
  |_=> .fail
 | .callN f args=>match st.eval f with
  | .c (.fn f caps)=>match args.map st.eval++caps.map Cap.av with
   |a::r=>(zCz st r).bind fun (r,st)=>match zCO st a with
    |some (a,q,q2)=>(CT f (a::r) [[(0,q.2.2),(1,q2.2.2)]]).bind fun res=>match zC3 st q q2 res with
     |some (v,s)=> .done (v,s,kn,none)
     |none=> .fail
    |none=> .fail
   | []=> .fail
  |_=> .fail
 | .bslice ty sz len zero parts=>match zAR ((List.replicate len zero).map (·.map .p)) sz (parts.map fun (j,x)=>(j,st.eval x)) with
  |some rows=>if rows.any (·.any zKi)=true then (zBo st rows).bind fun (rs,st)=> .done (.c (.own st.up.length (dst*64) (st.fresh (dst*64)) len),(st.new (dst*64) sz ty (.row rs)).2,kn,none) else zFS st kn dst (.bslice ty sz len zero parts)
  |none=> .fail
 |k=>zFS st kn dst k
def zBw (CT:zDN) (st:St) (kn:Kn) (o:KOper):Tr (St×Kn):=
 let go:St→Kn→Tr (St×Kn):=fun st kn=>(zDW CT st kn (o.dst.getD 0) o.op).bind fun (v,s,kn,kb)=> .done ({s with t:=zA4 s.t o.dst v},zE0 kn o.dst kb)
 match o.guard with
 |none=>go st kn
 |some (j,want)=>match zF j st.t with
  |some (.tup [])=> .done ({st with t:=zA4 st.t o.dst (.tup [])},zE0 kn o.dst none)
  |_=>zI7 st kn (.t j) fun v st kn=>if v=want then go st kn else .done ({st with t:=zA4 st.t o.dst (.tup [])},zE0 kn o.dst none)
def zEF (CT:zDN):List KOper→St→Kn→Tr (St×Kn)
 | [],st,kn=> .done (st,kn)
 |o::r,st,kn=>(zBw CT st kn o).bind fun (st,kn)=>zEF CT r st kn
def zFU (CT:zDN):List (KOper×List Bool)→List Tch→St→Kn→Tr (St×Kn)
 | [],_,st,kn=> .done (st,kn)
 |(o,bs)::r,ts,st,kn=>if zH2 bs ts (tch st o)=true then (zBw CT st kn o).bind fun p=>zFU CT r (tch st o::ts) p.1 p.2 else .fail
def zBD (CT:zDN) (LT:zGD):KCode→St→Kn→Tr (Ex×St×Kn)
 | .skip,st,kn=> .done (.normal,st,kn)
 | .ops l,st,kn=>(zEF CT l st kn).bind fun (st,kn)=> .done (.normal,st,kn)
 | .draw l,st,kn=>(zFU CT l [] st kn).bind fun (st,kn)=> .done (.normal,st,kn)
 | .seq a b,st,kn=>(zBD CT LT a st kn).bind fun (e,st,kn)=>match e with
  | .normal=>zBD CT LT b st kn
  |e=> .done (e,st,kn)
 | .cond c a b,st,kn=>zI7 st kn c fun v st kn=>match v with
  |true=>zBD CT LT a st kn
  |false=>zBD CT LT b st kn
 | .block id c,st,kn=>(zBD CT LT c st kn).bind fun (e,st,kn)=> .done (if e= .exit id then .normal else e,st,kn)
 | .loop mk keep z8 c,st,kn=>(LT mk (st.norm keep)).bind fun (e,s)=> .done (e,s,[])
 | .exit id,st,kn=> .done (.exit id,st,kn)
 | .ret,st,kn=> .done (.ret,st,kn)
def zJA (st:St):List (Bool×List CV)→Tr (List (Bool×List CV)×St)
 | []=> .done ([],st)
 |(g,cs)::r=>(zBL st cs).bind fun (ps,st)=>(zJA st r).bind fun (l,st')=> .done ((g,ps.map CV.p)::l,st')
def zFV (kf:KFun) (e:Ex) (st:St):Tr Res:=
 if (e= .normal∨e= .ret)∧kf.frozen=true then match zBU st kf.results with
  |some l=>(zJA st l).bind fun (l,st)=> .done ⟨zAM l,st.up,[]⟩
  |none=> .fail
 else if e= .normal∨e= .ret then match (zBU st kf.results).bind (zGN st) with
  |some r=> .done r
  |none=> .fail
 else .fail
def zKS (kf:KFun) (args:List AV) (up:List Frame) (r:Res):Tr Res:=
 if kf.nil1=true then match args,up with
  | [.c (.p (.ls rows))],[]=> .ask (!rows.isEmpty||zCo r) (.done r) .fail
  |_,_=> .fail
 else .done r
def zJw (CT:zDN) (LT:zGD) (kf:KFun) (args:List AV) (up:List Frame):Tr Res:=
 if args.length=kf.params.length then (zBD CT LT kf.body ⟨zDc args 0,[],up⟩ []).bind fun (e,st,_)=>(zFV kf e st.low).bind (zKS kf args up) else .fail
def zEO (CT:zDN) (run:zo):Prop:=∀f args up r,(CT f args up).run=some r→run f args up=some r
def zy:KCode→List (Nat×List Nat×List (Ex×List Nat)×KCode)
 | .seq a b| .cond _ a b=>zy a++zy b
 | .block _ c=>zy c
 | .loop mk keep z8 c=> [(mk,keep,z8,c)]
 |_=> []
def zDL (body:St→Option (Ex×St)) (keep:List Nat):Nat→St→Option (Ex×St)
 |0,_=>none
 |m+1,st=>(body st).bind fun (e,s)=>match e with
  | .normal=>zDL body keep m (s.norm keep)
  |e=>some (e,s)
theorem zHL (body:St→Option (Ex×St)) (keep:List Nat):∀(m:Nat) (st:St),zGM body keep m st=zDL body keep m (st.norm keep)
 |0,st=>rfl
 |m+1,st=>by
  simp only [zGM,zDL]
  congr 1
  funext p
  obtain ⟨e,s⟩:=p
  cases e with
  |normal=>exact zHL body keep m s
  |_=>rfl
def zHr (LT:zGD) (run:zo) (N:Nat) (c:KCode):Prop:=
 ∀mk keep z8 b,(mk,keep,z8,b)∈zy c→∀st e s,(LT mk st).run=some (e,s)→∃s0,zDL (zc run N b) keep N st=some (e,s0)∧s=s0.norm (zC5 e z8)
section
variable {CT:zDN} {LT:zGD} {run:zo} {N:Nat} {st:St} {kn:Kn}
theorem zJx {dst:Nat} {k:KOp} {v:AV} {s:St} {kn':Kn} {kb:Option Bool} (hk:KnOK kn st) (h:(zFS st kn dst k).run=some (v,s,kn',kb)) (hst:∀{v s},zA zJ9 st dst k=some (v,s)→s.t=st.t):
  zA run st dst k=some (v,s)∧s.t=st.t∧KnOK kn' s∧∀b,kb=some b→v= .c (.p (.b b)):=by
 unfold zFS at h
 split at h
 ·rename_i v' s' he
  cases h
  have ht:=hst he
  exact ⟨zGA (fun f a u r h=>by cases h) he,ht,hk.frame ht,fun b hb=>by cases hb⟩
 ·cases h
theorem zE3 {c:CV} {st:St} {y:PV×St} (h:zAJ st c=some y):y.2.t=st.t:=by
 unfold zAJ at h
 split at h
 ·cases h;rfl
 ·split at h
  ·split at h
   ·cases h;exact zAo _ _ _ _
   ·cases h
  ·cases h
 ·cases h
theorem zBx:∀{l:List CV} {st:St} {y:List PV×St},zg st l=some y→y.2.t=st.t
 | [],st,y,h=>by cases h;rfl
 |x::r,st,y,h=>by
  simp only [zg,Option.bind_eq_some_iff,Option.some.injEq] at h
  obtain ⟨⟨a,s1⟩,h1,⟨b,s2⟩,h2,rfl⟩:=h
  exact (zBx h2).trans (zE3 h1)
theorem zCi:∀{l:List (List CV)} {st:St} {y:List (List PV)×St},zU st l=some y→y.2.t=st.t
 | [],st,y,h=>by cases h;rfl
 |x::r,st,y,h=>by
  simp only [zU,Option.bind_eq_some_iff,Option.some.injEq] at h
  obtain ⟨⟨a,s1⟩,h1,⟨b,s2⟩,h2,rfl⟩:=h
  exact (zCi h2).trans (zBx h1)
theorem zEG:∀{l:List AV} {st:St} {y:List AV×St},zl st l=some y→y.2.t=st.t
 | [],st,y,h=>by cases h;rfl
 |x::r,st,y,h=>by
  simp only [zl,Option.bind_eq_some_iff,Option.map_eq_some_iff] at h
  obtain ⟨⟨a,s1⟩,h1,⟨b,s2⟩,h2,rfl⟩:=h
  refine (zEG h2).trans ?_
  cases x with
  |c x=>
   simp only [zp,Option.map_eq_some_iff,Prod.mk.injEq,Prod.exists] at h1
   obtain ⟨p,s,h3,_,rfl⟩:=h1
   exact zE3 h3
  |agg cs=>
   simp only [zp,Option.map_eq_some_iff,Prod.mk.injEq,Prod.exists] at h1
   obtain ⟨p,s,h3,_,rfl⟩:=h1
   exact zBx h3
  |tup vs=>cases h1
theorem zHM {a:AV} {xs:List CV} {s:St} (h:st.write a xs=some s):s.t=st.t:=by
 unfold St.write at h
 split at h
 ·split at h
  ·split at h
   ·cases h;exact zAo _ _ _ _
   ·cases h
  ·simp only [Option.bind_eq_some_iff] at h
   obtain ⟨⟨ys,s1⟩,h1,h⟩:=h
   have ht:=zBx h1
   simp only at h ht
   split at h
   ·split at h
    ·split at h
     ·split at h
      ·cases h;exact (zAo _ _ _ _).trans ht
      ·cases h
     ·cases h
    ·cases h
   ·cases h
  ·cases h
 ·cases h
theorem zC0 {base:Nat}:∀(l:List (Nat×TypeId×Nat)) (i:Nat) (cs:List CV) (st:St),(zW base l i cs st).2.t=st.t
 | [],_,_,_=>rfl
 |(col,ty,sz)::r,i,cs,st=>by
  unfold zW
  split
  ·exact zC0 r (i+1) _ _
  ·exact zC0 r (i+1) cs st
theorem zGG {dst:Nat} {k:KOp} {v:AV} {s:St} (h:zA run st dst k=some (v,s)):s.t=st.t:=by
 cases k<;>simp only [zA] at h
 case nil=>cases h;rfl
 case mv=>cases h;rfl
 case rel=>
  split at h
  ·split at h<;>cases h;rfl
  ·cases h
 case pick=>split at h<;>cases h;rfl
 case box=>
  split at h
  ·cases h
  ·split at h
   ·cases h;rfl
   ·cases h
 case build=>
  obtain ⟨cs,_,h⟩:=Option.map_eq_some_iff.1 h
  cases h;rfl
 case bslice=>
  obtain ⟨rows,_,h⟩:=Option.bind_eq_some_iff.1 h
  split at h
  ·rename_i rs s1 hf
   cases h
   exact zCi hf
  ·split at h
   ·cases h;rfl
   ·cases h
 case load=>
  obtain ⟨cs,_,h⟩:=Option.bind_eq_some_iff.1 h
  obtain ⟨v',_,h⟩:=Option.map_eq_some_iff.1 h
  cases h;rfl
 case store=>
  split at h
  ·cases h
  ·split at h
   ·obtain ⟨s',h1,h⟩:=Option.map_eq_some_iff.1 h
    cases h
    exact zHM h1
   ·cases h
 case storeN=>
  split at h
  ·cases h
  ·split at h
   ·obtain ⟨s',h1,h⟩:=Option.map_eq_some_iff.1 h
    cases h
    exact (zHM h1).trans (zC0 _ _ _ _)
   ·cases h
 case chk=>
  split at h
  ·split at h<;>cases h;rfl
  ·cases h;rfl
  ·cases h;rfl
  ·cases h
 case bin=>
  split at h
  ·obtain ⟨_,_,h⟩:=Option.map_eq_some_iff.1 h;cases h;rfl
  ·cases h
 case eqs=>
  split at h
  ·obtain ⟨_,_,h⟩:=Option.map_eq_some_iff.1 h;cases h;rfl
  ·cases h
 case beq=>split at h<;>cases h;rfl
 case inil=>split at h<;>cases h<;>rfl
 case un=>
  split at h
  ·obtain ⟨_,_,h⟩:=Option.map_eq_some_iff.1 h;cases h;rfl
  ·cases h
 case conv=>split at h<;>cases h;rfl
 case str=>split at h<;>cases h;rfl
 case toStr=>
  obtain ⟨_,_,h⟩:=Option.bind_eq_some_iff.1 h
  obtain ⟨_,_,h⟩:=Option.map_eq_some_iff.1 h;cases h;rfl
 case mkfn=>obtain ⟨_,_,h⟩:=Option.map_eq_some_iff.1 h;cases h;rfl
 case mksl=>
  obtain ⟨_,_,h⟩:=Option.bind_eq_some_iff.1 h
  obtain ⟨_,_,h⟩:=Option.bind_eq_some_iff.1 h
  split at h<;>cases h;rfl
 case slcS=>
  split at h
  ·obtain ⟨_,_,h⟩:=Option.bind_eq_some_iff.1 h
   obtain ⟨_,_,h⟩:=Option.bind_eq_some_iff.1 h
   split at h<;>cases h;rfl
  ·cases h
 case slc=>
  split at h
  ·obtain ⟨_,_,h⟩:=Option.bind_eq_some_iff.1 h
   obtain ⟨_,_,h⟩:=Option.bind_eq_some_iff.1 h
   split at h<;>cases h;rfl
  ·cases h
 case faddr=>
  split at h
  ·split at h<;>cases h;rfl
  ·cases h;rfl
  ·cases h
 case field=>
  split at h
  ·split at h
   ·obtain ⟨_,_,h⟩:=Option.map_eq_some_iff.1 h;cases h;rfl
   ·cases h
  ·cases h
 case iaddr=>
  obtain ⟨i,_,h⟩:=Option.bind_eq_some_iff.1 h
  split at h
  ·split at h
   ·split at h
    ·split at h<;>cases h;rfl
    ·cases h
   ·cases h
  ·split at h
   ·split at h<;>cases h;rfl
   ·split at h<;>cases h;rfl
   ·cases h
  ·cases h
 case index=>
  obtain ⟨i,_,h⟩:=Option.bind_eq_some_iff.1 h
  split at h
  ·split at h
   ·split at h<;>cases h;rfl
   ·cases h
  ·cases h
 case ext=>
  split at h
  ·split at h
   ·obtain ⟨_,_,h⟩:=Option.map_eq_some_iff.1 h;cases h;rfl
   ·cases h
  ·cases h
 case app=>
  split at h
  ·split at h<;>cases h;rfl
  ·split at h
   ·split at h
    ·cases h;exact zAo _ _ _ _
    ·cases h
   ·cases h
  ·cases h
 case boxN=>
  split at h
  ·cases h
  ·split at h
   ·cases h;rfl
   ·cases h
 case callN f args=>
  split at h
  ·cases hq:args.map st.eval++(List.map Cap.av ‹_›) with
   |nil=>rw [hq] at h;cases h
   |cons a0 r=>
    rw [hq] at h
    simp only [callN] at h
    obtain ⟨⟨r',s1⟩,h1,h⟩:=Option.bind_eq_some_iff.1 h
    obtain ⟨⟨a',q,q2⟩,h2,h⟩:=Option.bind_eq_some_iff.1 h
    obtain ⟨res,h3,h⟩:=Option.bind_eq_some_iff.1 h
    exact (zJv h).trans (zEG h1)
  ·cases h
 case len s x=>
  cases s
  ·simp only [zA] at h
   split at h
   ·cases h;rfl
   ·cases h;rfl
   ·split at h<;>cases h;rfl
   ·cases h
  ·simp only [zA] at h
   split at h<;>cases h;rfl
 case mm=>obtain ⟨_,_,h⟩:=Option.map_eq_some_iff.1 h;cases h;rfl
 case call bo f args=>
  split at h
  ·unfold zAw at h
   split at h
   ·obtain ⟨⟨as,l⟩,_,h⟩:=Option.bind_eq_some_iff.1 h
    obtain ⟨r,_,h⟩:=Option.bind_eq_some_iff.1 h
    split at h<;>cases h;rfl
   ·obtain ⟨⟨ar,d,n,B⟩,_,h⟩:=Option.bind_eq_some_iff.1 h
    obtain ⟨r,_,h⟩:=Option.bind_eq_some_iff.1 h
    unfold zC2 at h
    split at h
    ·split at h
     ·split at h
      ·cases h;exact zAo _ _ _ _
      ·cases h
     ·cases h
    ·cases h
  ·cases h
def zJB (run:zo) (st:St) (dst:Nat) (k:KOp) (x:OpR):Prop:=zA run st dst k=some (x.1,x.2.1)∧KnOK x.2.2.1 x.2.1∧∀b,x.2.2.2=some b→x.1= .c (.p (.b b))
theorem zBM {dst:Nat} {k:KOp} {x:OpR} (hk:KnOK kn st) (h:(zFS st kn dst k).run=some x):zJB run st dst k x:=by
 obtain ⟨v,s,kn',kb⟩:=x
 obtain ⟨h1,h2,h3,h4⟩:=zJx (run:=run) hk h (fun h=>zGG h)
 exact ⟨h1,h3,h4⟩
theorem zBy {dst:Nat} {k:KOp} {v:AV} {kn':Kn} {kb:Option Bool} {x:OpR} (he:zA run st dst k=some (v,st)) (hk:KnOK kn' st) (hb:∀b,kb=some b→v= .c (.p (.b b))) (h:(Tr.done (v,st,kn',kb)).run=some x):zJB run st dst k x:=by
 cases h
 exact ⟨he,hk,hb⟩
theorem zh {dst:Nat} {k:KOp} {v:AV} {s:St} {x:OpR} (he:zA run st dst k=some (v,s)) (hk:KnOK kn st) (h:(Tr.done (v,s,kn,none)).run=some x):zJB run st dst k x:=by
 cases h
 exact ⟨he,hk.frame (zGG he),fun b hb=>by cases hb⟩
theorem zHs {a:AV} {y:AV×Nat×Nat×Blk} (h:(zGn st a).run=some y):zBG st a=some y:=by
 unfold zGn at h
 unfold zBG
 split at h
 ·split at h
  ·rename_i g' sz ty rows hB
   split at h
   ·rename_i hg
    obtain ⟨hm,h⟩:=Tr.ask_yes h
    cases h
    simp only [hB]
    rw [if_pos ⟨hg,hm⟩]
   ·cases h
  ·cases h
 ·split at h
  ·rename_i g' sz ty cells hB
   split at h
   ·rename_i hc
    cases h
    simp only [hB]
    rw [if_pos hc]
   ·cases h
  ·cases h
 ·cases h
theorem zGo {a:AV} (h:¬zI9 a=true):zBG st a=none:=by
 unfold zI9 at h
 unfold zBG
 split
 ·simp at h
 ·simp at h
 ·rfl
theorem zE4:∀{l:List AV} {y:List AV×Nat×Nat×Blk},(zFT st l).run=some y→zAu st l=some y
 | [],y,h=>by cases h
 |a::r,y,h=>by
  simp only [zFT] at h
  simp only [zAu]
  split at h
  ·obtain ⟨⟨a',d,n,B⟩,h1,h⟩:=Tr.bind_some h
   rw [zHs h1]
   simp only at h⊢
   split at h
   ·rename_i r' hr
    cases h
    rw [hr]
    rfl
   ·cases h
  ·rename_i hn
   rw [zGo hn]
   simp only
   split at h
   ·rename_i a' ha
    obtain ⟨⟨r',q⟩,h1,h⟩:=Tr.bind_some h
    cases h
    rw [ha,zE4 h1]
    rfl
   ·cases h
theorem zJC {n dst:Nat} {a x:KX} (h:∀vs,st.eval x= .tup vs→False):zA run st dst (.store n a x)=if (st.eval x).cvs.length=n∧(st.eval x).cvs.all (·.known)=true then (st.write (st.eval a) (st.eval x).cvs).map fun st=>(.c .u,st) else none:=by
 simp only [zA]
theorem zGp (hC:zEO CT run) (hk:KnOK kn st) {dst:Nat} {k:KOp} {x:OpR} (h:(zDW CT st kn dst k).run=some x):zJB run st dst k x:=by
 unfold zDW at h
 split at h
 ·--mv
  exact zBy rfl hk (fun b hb=>zFO hk hb) h
 ·--pick
  obtain ⟨v,kn',h1,h2,h3⟩:=zFP hk h
  cases v
  ·exact zBy (by simp only [zA,h1];rfl) h2 (fun b hb=>zFO h2 hb) h3
  ·exact zBy (by simp only [zA,h1];rfl) h2 (fun b hb=>zFO h2 hb) h3
 ·--un
  split at h
  ·rename_i v hx
   refine zBy (by simp only [zA,hx,unP];rfl) hk (fun b hb=>?_) h
   obtain ⟨c,hc,rfl⟩:=Option.map_eq_some_iff.1 hb
   have:=zFO hk hc
   rw [hx] at this
   cases this
   rfl
  ·exact zBM hk h
 ·--bin
  rename_i op x y
  split at h
  ·rename_i k a k' b hx hy
   split at h
   ·rename_i e
    subst e
    have key:∀{r:PV} {z:OpR},zFA op k a b=some r→(Tr.done ((.c (.p r),st,kn,none):OpR)).run=some z→zJB run st dst (.bin op x y) z:=fun {r z} hr h'=>
     zh (by simp only [zA,hx,hy,zGK,if_true,hr,Option.map_some]) hk h'
    unfold zKA at h
    split at h
    ·split at h
     ·split at h
      ·rename_i r hr;exact key hr h
      ·cases h
     ·rcases Tr.ask_some h with ⟨_,h2⟩|⟨h1,h2⟩
      ·cases h2
      ·have h1:¬b=0:=by simpa using h1
       exact key (by simp only [zFA];rw [if_neg h1]) h2
    ·split at h
     ·split at h
      ·rename_i r hr;exact key hr h
      ·cases h
     ·rcases Tr.ask_some h with ⟨_,h2⟩|⟨h1,h2⟩
      ·cases h2
      ·have h1:¬b=0:=by simpa using h1
       exact key (by simp only [zFA];rw [if_neg h1]) h2
    ·split at h
     ·split at h
      ·rename_i r hr;exact key hr h
      ·cases h
     ·cases h
    ·split at h
     ·split at h
      ·rename_i r hr;exact key hr h
      ·cases h
     ·cases h
    ·split at h
     ·rename_i r hr;exact key hr h
     ·cases h
   ·cases h
  ·rename_i a b hx hy
   split at h
   ·obtain ⟨h1,h2⟩:=Tr.ask_yes h
    exact zh (by simp only [zA,hx,hy,zGK,zHz];rw [if_pos h1];rfl) hk h2
   ·split at h
    ·rename_i r hr
     exact zh (by simp only [zA,hx,hy,zGK,hr,Option.map_some]) hk h
    ·cases h
  ·cases h
 ·--load
  rename_i g n ks a
  split at h
  ·rename_i e o ha
   split at h
   ·rename_i hc
    obtain ⟨cs,h1,h2⟩:=Tr.bind_some h
    obtain ⟨ps,rfl,h3,h4⟩:=zCw h1
    obtain ⟨h5,h6⟩:=zEB (by omega) h4
    split at h2
    ·rename_i v hv
     rw [h3,hc.1] at h5 h6
     exact zh (by simp only [zA,ha,St.read];rw [if_pos h5,h6];simp only [Option.bind_some,hv,Option.map_some]) hk h2
    ·cases h2
   ·cases h
  ·rename_i d m gg j o ha
   split at h
   ·rename_i g' sz ty rows hB
    split at h
    ·rename_i hc
     obtain ⟨e,he,h⟩:=Tr.opt_some h
     obtain ⟨cs,h1,h2⟩:=Tr.bind_some h
     obtain ⟨ps,rfl,h3,h4⟩:=zCw h1
     obtain ⟨h5,h6⟩:=zEB (by omega) h4
     split at h2
     ·rename_i v hv
      rw [h3,hc.2.1] at h5 h6
      exact zh (by simp only [zA,ha,St.read,hB];rw [if_pos hc.1,he];simp only;rw [if_pos h5,h6];simp only [Option.bind_some,hv,Option.map_some]) hk h2
     ·cases h2
    ·cases h
   ·exact zBM hk h
  ·cases h
 ·--store
  rename_i n a x
  split at h
  ·rename_i d m gg j o v ha
   split at h
   ·cases h
   ·rename_i B1 B2 B3 B4 hB hnt
    split at h
    ·rename_i hc
     obtain ⟨⟨ys,s1⟩,h1,h2⟩:=Tr.bind_some h
     obtain ⟨h3,h4⟩:=zAm h1
     simp only at h2
     split at h2
     ·rename_i g' sz ty rows hB'
      split at h2
      ·rename_i hg
       obtain ⟨e,he,h2⟩:=Tr.opt_some h2
       obtain ⟨h5,h2⟩:=Tr.ask_yes h2
       refine zh ?_ hk h2
       rw [zJC hnt,if_pos hc,ha]
       simp only [St.write,hB,h3,Option.bind_some,hB']
       rw [if_pos hg,he]
       simp only
       rw [if_pos h5]
       rfl
      ·cases h2
     ·cases h2
    ·cases h
   ·exact zBM hk h
  ·cases h
 ·--index
  split at h
  ·rename_i s i hx hi
   obtain ⟨h1,h⟩:=Tr.ask_yes h
   obtain ⟨c,h2,h⟩:=Tr.opt_some h
   exact zh (by simp only [zA,hi,zAj,Option.bind_some,hx];rw [if_pos h1,h2]) hk h
  ·cases h
 ·--iaddr
  rename_i sz x i
  split at h
  ·rename_i rows z hx hi
   obtain ⟨h1,h⟩:=Tr.ask_yes h
   obtain ⟨e,h2,h⟩:=Tr.opt_some h
   obtain ⟨h3,h⟩:=Tr.ask_yes h
   exact zh (by simp only [zA,hi,zAj,Option.bind_some,hx];rw [if_pos h1,h2];simp only;rw [if_pos h3]) hk h
  ·rename_i d n g m z hx hi
   split at h
   ·rename_i g' sz' ty rows hB
    split at h
    ·rename_i hc
     obtain ⟨h1,h⟩:=Tr.ask_yes h
     exact zh (by simp only [zA,hi,zAj,Option.bind_some,hx,hB];rw [if_pos ⟨hc.1,hc.2,h1⟩]) hk h
    ·cases h
   ·exact zBM hk h
  ·cases h
 ·--slcS
  rename_i x lo hi
  split at h
  ·rename_i s l hx hl
   split at h
   ·rename_i u hu
    obtain ⟨h1,h⟩:=Tr.ask_yes h
    exact zh (by simp only [zA,hx,hl,hu,Option.bind_some];rw [if_pos h1]) hk h
   ·cases h
  ·cases h
 ·--slc
  rename_i sz x lo hi
  split at h
  ·rename_i rows l hx hl
   split at h
   ·rename_i u hu
    obtain ⟨h1,h⟩:=Tr.ask_yes h
    exact zh (by simp only [zA,hx,hl,hu,Option.bind_some];rw [if_pos h1]) hk h
   ·cases h
  ·cases h
 ·--toStr
  obtain ⟨rows,h1,h⟩:=Tr.bind_some h
  obtain ⟨l,h2,h⟩:=Tr.opt_some h
  exact zh (by simp only [zA,zGC h1,Option.bind_some,h2,Option.map_some]) hk h
 ·--app
  rename_i ty sz bytes x y
  obtain ⟨ys,h1,h⟩:=Tr.bind_some h
  have h1:=zGC h1
  split at h
  ·rename_i hx
   obtain ⟨h2,h⟩:=Tr.ask_yes h
   exact zh (by simp only [zA,hx,h1];rw [if_pos h2]) hk h
  ·rename_i d n g m hx
   split at h
   ·rename_i g' sz' ty' rows hB
    split at h
    ·rename_i hc
     obtain ⟨h2,h⟩:=Tr.ask_yes h
     exact zh (by simp only [zA,hx,h1,hB];rw [if_pos ⟨hc.1,hc.2.1,hc.2.2,h2⟩]) hk h
    ·cases h
   ·cases h
  ·cases h
 ·--mksl
  split at h
  ·rename_i l c hl hc
   split at h
   ·rename_i hz
    obtain ⟨h2,h⟩:=Tr.ask_yes h
    exact zh (by simp only [zA,hl,hc,zAj,Option.bind_some];rw [if_pos ⟨h2.1,h2.2.1,h2.2.2.1,h2.2.2.2,hz⟩]) hk h
   ·cases h
  ·cases h
 ·--call
  rename_i f args
  split at h
  ·rename_i g caps hf
   obtain ⟨⟨as,lent⟩,h1,h⟩:=Tr.bind_some h
   obtain ⟨r,h2,h⟩:=Tr.bind_some h
   have h1:=zEE h1
   have h2:=hC _ _ _ _ h2
   split at h
   ·rename_i hs
    split at h
    ·rename_i hc
     refine zh ?_ hk h
     simp only [zA,hf,zAw,if_true,h1,Option.bind_some,h2]
     rw [if_pos ⟨.inl hc,hs⟩]
    ·rcases Tr.ask_some h with ⟨hc,h⟩|⟨_,h⟩
     ·refine zh ?_ hk h
      simp only [zA,hf,zAw,if_true,h1,Option.bind_some,h2]
      rw [if_pos ⟨.inr hc,hs⟩]
     ·cases h
   ·cases h
  ·cases h
 ·--a call that is lent a block
  rename_i f args
  split at h
  ·rename_i g caps hf
   obtain ⟨⟨as,d,n,B⟩,h1,h⟩:=Tr.bind_some h
   obtain ⟨r,h2,h⟩:=Tr.bind_some h
   have h1:=zE4 h1
   have h2:=hC _ _ _ _ h2
   split at h
   ·rename_i v s hb
    refine zh ?_ hk h
    simp only [zA,hf,zAw,Bool.false_eq_true,if_false,h1,Option.bind_some,h2,hb]
   ·cases h
  ·cases h
 ·--a call that is lent a box with an own row
  rename_i f args
  split at h
  ·rename_i g caps hf
   split at h
   ·rename_i a r hq
    obtain ⟨⟨r',s1⟩,h1,h⟩:=Tr.bind_some h
    have h1:=(zCh h1).1
    simp only at h
    split at h
    ·rename_i a' q q2 hl
     obtain ⟨res,h2,h⟩:=Tr.bind_some h
     have h2:=hC _ _ _ _ h2
     split at h
     ·rename_i v s hb
      refine zh ?_ hk h
      simp only [zA,hf,hq,callN,h1,Option.bind_some,hl,h2,hb]
     ·cases h
    ·cases h
   ·cases h
  ·cases h
 ·--a literal slice
  split at h
  ·rename_i rows hrows
   split at h
   ·obtain ⟨⟨rs,s1⟩,h1,h⟩:=Tr.bind_some h
    obtain ⟨h1,ht⟩:=zBp h1
    cases h
    exact ⟨by simp only [zA,hrows,Option.bind_some,h1],hk.frame ht,fun b hb=>by cases hb⟩
   ·exact zBM hk h
  ·cases h
 ·exact zBM hk h
theorem zCj (hC:zEO CT run) (hk:KnOK kn st) {o:KOper} {s:St} {kn':Kn} (h:(zBw CT st kn o).run=some (s,kn')):zM run st o=some s∧KnOK kn' s:=by
 have go:∀{kn:Kn},KnOK kn st→((zDW CT st kn (o.dst.getD 0) o.op).bind fun (v,s,kn,kb)=>Tr.done (({s with t:=zA4 s.t o.dst v}:St),zE0 kn o.dst kb)).run=some (s,kn')→
   (zA run st (o.dst.getD 0) o.op).map (fun (a,st)=>({st with t:=zA4 st.t o.dst a}:St))=some s∧KnOK kn' s:=fun {kn} hk h=>by
  obtain ⟨⟨v,s1,kn1,kb⟩,h1,h2⟩:=Tr.bind_some h
  obtain ⟨e1,e2,e3⟩:=zGp hC hk h1
  cases h2
  exact ⟨by rw [e1];rfl,zD8 e2 e3⟩
 unfold zBw at h
 cases hg:o.guard with
 |none=>
  simp only [hg] at h
  simp only [zM,hg]
  exact go hk h
 |some jw=>
  obtain ⟨j,want⟩:=jw
  simp only [hg] at h
  split at h
  ·rename_i hu
   simp only [zM,hg,hu]
   cases h
   exact ⟨rfl,zD8 hk (fun b hb=>by cases hb)⟩
  obtain ⟨v,kn1,h1,h2,h3⟩:=zFP hk h
  have h1':zF j st.t=some (.c (.p (.b v))):=by
   simp only [St.eval] at h1
   cases hq:zF j st.t with
   |none=>rw [hq] at h1;cases h1
   |some a=>rw [hq] at h1;simp only at h1;rw [h1]
  simp only [zM,hg,h1']
  split at h3
  ·rename_i e
   rw [if_pos e]
   exact go h2 h3
  ·rename_i e
   rw [if_neg e]
   cases h3
   exact ⟨rfl,zD8 h2 (fun b hb=>by cases hb)⟩
theorem zDM (hC:zEO CT run):∀{l:List KOper} {st:St} {kn:Kn} {s:St} {kn':Kn},KnOK kn st→(zEF CT l st kn).run=some (s,kn')→zA7 run l st=some s∧KnOK kn' s
 | [],st,kn,s,kn',hk,h=>by cases h;exact ⟨rfl,hk⟩
 |o::r,st,kn,s,kn',hk,h=>by
  obtain ⟨⟨s1,kn1⟩,h1,h2⟩:=Tr.bind_some h
  obtain ⟨e1,e2⟩:=zCj hC hk h1
  obtain ⟨e3,e4⟩:=zDM hC e2 h2
  exact ⟨by simp only [zA7,e1,Option.bind_some,e3],e4⟩
theorem zE5 (hC:zEO CT run):∀{l:List (KOper×List Bool)} {ts:List Tch} {st:St} {kn:Kn} {s:St} {kn':Kn},KnOK kn st→(zFU CT l ts st kn).run=some (s,kn')→zDZ run l ts st=some s∧KnOK kn' s
 | [],ts,st,kn,s,kn',hk,h=>by cases h;exact ⟨rfl,hk⟩
 |(o,bs)::r,ts,st,kn,s,kn',hk,h=>by
  simp only [zFU] at h
  split at h
  ·rename_i hc
   obtain ⟨⟨s1,kn1⟩,h1,h2⟩:=Tr.bind_some h
   obtain ⟨e1,e2⟩:=zCj hC hk h1
   obtain ⟨e3,e4⟩:=zE5 hC e2 h2
   exact ⟨by simp only [zDZ,hc,if_true,e1,Option.bind_some];exact e3,e4⟩
  ·cases h
theorem zE6 (hC:zEO CT run):∀(c:KCode),zHr LT run N c→∀{st:St} {kn:Kn} {e:Ex} {s:St} {kn':Kn},KnOK kn st→(zBD CT LT c st kn).run=some (e,s,kn')→zc run N c st=some (e,s)∧KnOK kn' s:=by
 intro c
 induction c with
 |skip=>intro hL st kn e s kn' hk h;cases h;exact ⟨rfl,hk⟩
 |ops l=>
  intro hL st kn e s kn' hk h
  obtain ⟨⟨s1,kn1⟩,h1,h2⟩:=Tr.bind_some h
  cases h2
  obtain ⟨e1,e2⟩:=zDM hC hk h1
  exact ⟨by simp only [zc,e1,Option.map_some],e2⟩
 |draw l=>
  intro hL st kn e s kn' hk h
  obtain ⟨⟨s1,kn1⟩,h1,h2⟩:=Tr.bind_some h
  cases h2
  obtain ⟨e1,e2⟩:=zE5 hC hk h1
  exact ⟨by simp only [zc,e1,Option.map_some],e2⟩
 |seq a b iha ihb=>
  intro hL st kn e s kn' hk h
  obtain ⟨⟨e1,s1,kn1⟩,h1,h2⟩:=Tr.bind_some h
  obtain ⟨g1,g2⟩:=iha (fun mk keep z8 b hm=>hL mk keep z8 b (by simp only [zy];exact List.mem_append_left _ hm)) hk h1
  simp only [zc,g1,Option.bind_some]
  cases e1 with
  |normal=>exact ihb (fun mk keep z8 b hm=>hL mk keep z8 b (by simp only [zy];exact List.mem_append_right _ hm)) g2 h2
  |exit id=>cases h2;exact ⟨rfl,g2⟩
  |ret=>cases h2;exact ⟨rfl,g2⟩
 |cond c a b iha ihb=>
  intro hL st kn e s kn' hk h
  obtain ⟨v,kn1,h1,h2,h3⟩:=zFP hk h
  simp only [zc,h1]
  cases v
  ·exact ihb (fun mk keep z8 b hm=>hL mk keep z8 b (by simp only [zy];exact List.mem_append_right _ hm)) h2 h3
  ·exact iha (fun mk keep z8 b hm=>hL mk keep z8 b (by simp only [zy];exact List.mem_append_left _ hm)) h2 h3
 |block id c ih=>
  intro hL st kn e s kn' hk h
  obtain ⟨⟨e1,s1,kn1⟩,h1,h2⟩:=Tr.bind_some h
  cases h2
  obtain ⟨g1,g2⟩:=ih (fun mk keep z8 b hm=>hL mk keep z8 b (by simpa only [zy] using hm)) hk h1
  exact ⟨by simp only [zc,g1,Option.map_some],g2⟩
 |loop mk keep z8 c ih=>
  intro hL st kn e s kn' hk h
  obtain ⟨⟨e1,s1⟩,h1,h2⟩:=Tr.bind_some h
  cases h2
  obtain ⟨s0,g1,rfl⟩:=hL mk keep z8 c (by simp [zy]) _ _ _ h1
  exact ⟨by simp only [zc,zHL,g1,Option.map_some],fun n b hn=>by cases hn⟩
 |exit id=>intro hL st kn e s kn' hk h;cases h;exact ⟨rfl,hk⟩
 |ret=>intro hL st kn e s kn' hk h;cases h;exact ⟨rfl,hk⟩
theorem zGH:∀{l:List (Bool×List CV)} {st:St} {y:List (Bool×List CV)×St},(zJA st l).run=some y→z8 st l=some y
 | [],st,y,h=>by cases h;rfl
 |(g,cs)::r,st,y,h=>by
  obtain ⟨⟨ps,s1⟩,h1,h2⟩:=Tr.bind_some h
  obtain ⟨⟨l,s2⟩,h3,h4⟩:=Tr.bind_some h2
  cases h4
  simp only [z8,(zAm h1).1,Option.bind_some,zGH h3,Option.map_some]
theorem zGq {kf:KFun} {e:Ex} {st:St} {r:Res} (h:(zFV kf e st).run=some r):zCn kf e st=some r:=by
 unfold zFV at h
 unfold zCn
 split at h
 ·rename_i hc
  rw [if_pos hc]
  split at h
  ·rename_i l hl
   obtain ⟨⟨l',s⟩,h1,h2⟩:=Tr.bind_some h
   cases h2
   simp only [hl,Option.bind_some,zGH h1,Option.map_some]
  ·cases h
 ·rename_i hc
  rw [if_neg hc]
  split at h
  ·rename_i hc2
   rw [if_pos hc2]
   split at h
   ·rename_i r' hr
    cases h
    exact hr
   ·cases h
  ·cases h
theorem zJy {kf:KFun} {args:List AV} {up:List Frame} {q r:Res} (h:(zKS kf args up q).run=some r):zGO kf args up q=some r:=by
 unfold zKS at h
 unfold zGO
 split at h
 ·rename_i hn
  rw [if_pos hn]
  split at h
  ·rcases Tr.ask_some h with ⟨hc,h⟩|⟨_,h⟩
   ·cases h
    simp only
    rw [if_pos hc]
   ·cases h
  ·cases h
 ·rename_i hn
  rw [if_neg hn]
  exact h
theorem zJz (hC:zEO CT run) {kf:KFun} (hL:zHr LT run N kf.body) {args:List AV} {up:List Frame} {r:Res} (h:(zJw CT LT kf args up).run=some r):
  args.length=kf.params.length∧((zc run N kf.body ⟨zDc args 0,[],up⟩).bind fun (e,st)=>(zCn kf e st.low).bind (zGO kf args up))=some r:=by
 unfold zJw at h
 split at h
 ·rename_i hl
  obtain ⟨⟨e,s,kn⟩,h1,h2⟩:=Tr.bind_some h
  obtain ⟨g1,_⟩:=zE6 (N:=N) hC kf.body hL (fun n b hn=>by cases hn) h1
  obtain ⟨q,h3,h4⟩:=Tr.bind_some h2
  exact ⟨hl,by rw [g1];simp only [Option.bind_some,zGq h3];exact zJy h4⟩
 ·cases h
end
theorem zHt {KP:FuncId→Option KFun} {lib:FuncId→List AV→Option AV} {n:Nat} {CT:zDN} {LT:zGD} {f:FuncId} {kf:KFun} (hf:KP f=some kf) (hC:zEO CT (zBV KP lib n)) (hL:zHr LT (zBV KP lib n) n kf.body) {args:List AV} {up:List Frame} {r:Res}
  (h:(zJw CT LT kf args up).run=some r):zBV KP lib (n+1) f args up=some r:=by
 obtain ⟨h1,h2⟩:=zJz hC hL h
 simp only [zBV,hf]
 rw [if_pos h1]
 exact h2
end Go.Eng

