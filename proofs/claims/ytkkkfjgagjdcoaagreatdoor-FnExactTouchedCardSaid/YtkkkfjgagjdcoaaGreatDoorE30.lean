import Derived.Test.YtkkkfjgagjdcoaaGreatDoorE29
set_option linter.unusedVariables false
set_option linter.unusedSimpArgs false
namespace Go.Eng
abbrev zDP:=FuncId→List AV→List Frame→Tr Res
abbrev zGF:=Nat→St→Tr (Ex×St)
def zKB:za:=fun _ _ _=>none
abbrev OpR:=AV×St×Kn×Option Bool
def zFU (st:St) (kn:Kn) (dst:Nat) (k:KOp):Tr OpR:=match zA zKB st dst k with
 |some (v,s)=> .done (v,s,kn,none)
 |none=> .fail
def zKC (op:BinOp) (k:IntKind) (lit:Bool) (x y:Int) (done:PV→Tr OpR):Tr OpR:=
 match op with
 | .quo| .rem=>if lit then (match zFC op k x y with|some r=>done r|none=> .fail) else .ask (decide (y=0)) .fail (match op with| .quo=>done (.i k (k.wrap (x.tdiv y)))|_=>done (.i k (x.tmod y)))
 | .shl| .shr=>if lit then (match zFC op k x y with|some r=>done r|none=> .fail) else .fail
 |_=>match zFC op k x y with
  |some r=>done r
  |none=> .fail
def zKj:KX→Bool
 | .k _=>true
 | .t _=>false
def zGp (st:St):AV→Tr (AV×Nat×Nat×Blk)
 | .c (.own d n g m)=>match st.get d n with
  |some ⟨g',sz,ty,.row rows⟩=>if g=g' then .ask (decide (m=rows.length)) (.done (.c (.own 0 0 0 m),d,n,⟨0,sz,ty,.row rows⟩)) .fail else .fail
  |_=> .fail
 | .c (.ptr d n g 0 0)=>match st.get d n with
  |some ⟨g',sz,ty,.box cells⟩=>if g=g'∧cells.all isP=true then .done (.c (.ptr 0 0 0 0 0),d,n,⟨0,sz,ty,.box cells⟩) else .fail
  |_=> .fail
 |_=> .fail
def zJB:AV→Bool
 | .c (.own ..)| .c (.ptr ..)=>true
 |_=>false
def zFV (st:St):List AV→Tr (List AV×Nat×Nat×Blk)
 | []=> .fail
 |a::r=>if zJB a=true then (zGp st a).bind fun (a,d,n,B)=>match zCM r with
   |some r=> .done (a::r,d,n,B)
   |none=> .fail
  else match zCl a with
   |some a=>(zFV st r).bind fun (r,q)=> .done (a::r,q)
   |none=> .fail
def zGG (st:St):AV→Tr (AV×St)
 | .c x=>(zCf st x).bind fun (a,st)=> .done (.c (.p a),st)
 | .agg cs=>(zBL st cs).bind fun (l,st)=> .done (.agg (l.map .p),st)
 | .tup _=> .fail
def zC2 (st:St):List AV→Tr (List AV×St)
 | []=> .done ([],st)
 |x::r=>(zGG st x).bind fun (a,st)=>(zC2 st r).bind fun (l,st)=> .done (a::l,st)
theorem zGH {st:St} {a:AV} {y:AV×St} (h:(zGG st a).run=some y):zp st a=some y∧y.2.t=st.t:=by
 cases a with
 |c x=>
  obtain ⟨⟨p,s⟩,h1,h2⟩:=Tr.bind_some h
  cases h2
  obtain ⟨e1,t1⟩:=zDM h1
  exact ⟨by simp only [zp,e1,Option.map_some],t1⟩
 |agg cs=>
  obtain ⟨⟨p,s⟩,h1,h2⟩:=Tr.bind_some h
  cases h2
  obtain ⟨e1,t1⟩:=zAq h1
  exact ⟨by simp only [zp,e1,Option.map_some],t1⟩
 |tup vs=>cases h
theorem zCh:∀{l:List AV} {st:St} {y:List AV×St},(zC2 st l).run=some y→zm st l=some y∧y.2.t=st.t
 | [],st,y,h=>by cases h;exact ⟨rfl,rfl⟩
 |x::r,st,y,h=>by
  obtain ⟨⟨a,st1⟩,h1,h2⟩:=Tr.bind_some h
  obtain ⟨⟨b,st2⟩,h3,h4⟩:=Tr.bind_some h2
  cases h4
  obtain ⟨e1,t1⟩:=zGH h1
  obtain ⟨e2,t2⟩:=zCh h3
  simp only [zm,e1,Option.bind_some,e2,Option.map_some]
  exact ⟨by first|rfl|trivial,t2.trans t1⟩
theorem zJx {st st':St} {q q2:Nat×Nat×Blk} {r:Res} {v:AV} (h:zC5 st q q2 r=some (v,st')):st'.t=st.t:=by
 obtain ⟨_,_,_,_,_,_,_,_,_,_,_,_,_,_,_,_,_,_,_,_,_,_,rfl⟩:=zEj h
 rw [zAt,zAt]
def zBp (st:St):List (List CV)→Tr (List (List PV)×St)
 | []=> .done ([],st)
 |x::r=>(zBL st x).bind fun (a,st)=>(zBp st r).bind fun (b,st)=> .done (a::b,st)
theorem zBq:∀{l:List (List CV)} {st:St} {y:List (List PV)×St},(zBp st l).run=some y→zW st l=some y∧y.2.t=st.t
 | [],st,y,h=>by cases h;exact ⟨rfl,rfl⟩
 |x::r,st,y,h=>by
  obtain ⟨⟨a,st1⟩,h1,h2⟩:=Tr.bind_some h
  obtain ⟨⟨b,st2⟩,h3,h4⟩:=Tr.bind_some h2
  cases h4
  obtain ⟨e1,t1⟩:=zAq h1
  obtain ⟨e2,t2⟩:=zBq h3
  simp only [zW,e1,Option.bind_some,e2]
  exact ⟨by first|rfl|trivial,t2.trans t1⟩
def zKk:CV→Bool
 | .own ..=>true
 |_=>false
def zDY (CT:zDP) (st:St) (kn:Kn) (dst:Nat):KOp→Tr OpR
 | .mv x=> .done (st.eval x,st,kn,knX kn x)
 | .pick c a b=>zI9 st kn c fun v st kn=>match v with
  |true=> .done (st.eval a,st,kn,knX kn a)
  |false=> .done (st.eval b,st,kn,knX kn b)
 | .un op x=>match op,st.eval x with
  | .not,.c (.p (.b v))=> .done (.c (.p (.b (!v))),st,kn,(knX kn x).map (!·))
  |_,_=>zFU st kn dst (.un op x)
 | .bin op x y=>match st.eval x,st.eval y with
  | .c (.p (.i k a)),.c (.p (.i k' b))=>if k=k' then zKC op k (zKj y) a b (fun r=> .done (.c (.p r),st,kn,none)) else .fail
  | .c (.p (.s a)),.c (.p (.s b))=>match op with
   | .add=> .ask (decide (a.size+b.size≤9223372036854775807)) (.done (.c (.p (.s (a++b))),st,kn,none)) .fail
   |op=>match zH0 op a b with
    |some r=> .done (.c (.p r),st,kn,none)
    |none=> .fail
  |_,_=> .fail
 | .load g n ks a=>match st.eval a with
  | .c (.rp e o)=>if ks.length=n∧0<n then (zCy e o ks).bind fun cs=>match zBZ g cs with
    |some v=> .done (v,st,kn,none)
    |none=> .fail
   else .fail
  | .c (.ptr d m gg j o)=>match st.get d m with
   |some ⟨g',_,_,.row rows⟩=>if gg=g'∧ks.length=n∧0<n∧o≠KO then .opt (rows[j]?) fun e=>(zCy e o ks).bind fun cs=>match zBZ g cs with
     |some v=> .done (v,st,kn,none)
     |none=> .fail
    else .fail
   |_=>zFU st kn dst (.load g n ks a)
  |_=> .fail
 | .store n a x=>match st.eval a,st.eval x with
  | .c (.ptr d m gg j o),v=>match st.get d m,v with
   |some ⟨_,_,_,.row _⟩,.tup _=> .fail
   |some ⟨_,_,_,.row _⟩,v=>if v.cvs.length=n∧v.cvs.all (·.known)=true then
     (zBL st v.cvs).bind fun (ys,st)=>match st.get d m with
      |some ⟨g',sz,ty,.row rows⟩=>if gg=g'∧o≠KO then .opt (rows[j]?) fun e=> .ask (decide (o+ys.length≤e.length)) (.done (.c .u,st.set d m ⟨g',sz,ty,.row (rows.set j (zJ e o ys))⟩,kn,none)) .fail else .fail
      |_=> .fail
    else .fail
   |_,_=>zFU st kn dst (.store n a x)
  |_,_=> .fail
 | .index x i=>match st.eval x,st.eval i with
  | .c (.p (.s s)),.c (.p (.i .i64 i))=> .ask (decide (0≤i)) (.opt (s.toList[i.toNat]?) fun c=> .done (.c (.p (.i .u8 c.toNat)),st,kn,none)) .fail
  |_,_=> .fail
 | .iaddr sz x i=>match st.eval x,st.eval i with
  | .c (.p (.ls rows)),.c (.p (.i .i64 z))=> .ask (decide (0≤z∧z<rows.length)) (.opt (rows[z.toNat]?) fun e=> .ask (decide (e.length=sz)) (.done (.c (.rp e 0),st,kn,none)) .fail) .fail
  | .c (.own d n g m),.c (.p (.i .i64 z))=>match st.get d n with
   |some ⟨g',sz',_,.row rows⟩=>if g=g'∧sz'=sz then .ask (decide (m=rows.length∧0≤z∧z<m)) (.done (.c (.ptr d n g z.toNat 0),st,kn,none)) .fail else .fail
   |_=>zFU st kn dst (.iaddr sz x i)
  |_,_=> .fail
 | .slcS x lo hi=>match st.eval x,st.bound 0 lo with
  | .c (.p (.s s)),some l=>match st.bound s.size hi with
   |some h=> .ask (decide (0≤l∧l≤h∧h≤s.size)) (.done (.c (.p (.s (s.extract l.toNat h.toNat))),st,kn,none)) .fail
   |none=> .fail
  |_,_=> .fail
 | .slc sz x lo hi=>match st.eval x,st.bound 0 lo with
  | .c (.p (.ls rows)),some l=>match st.bound rows.length hi with
   |some h=> .ask (decide (0≤l∧l≤h∧h≤rows.length∧rows.all (fun e=>e.length==sz)=true)) (.done (.c (.p (.ls ((rows.take h.toNat).drop l.toNat))),st,kn,none)) .fail
   |none=> .fail
  |_,_=> .fail
 | .toStr x=>(zHM st (st.eval x)).bind fun rows=> .opt (bytesOf rows) fun l=> .done (.c (.p (.s ⟨l.toArray⟩)),st,kn,none)
 | .app ty sz bytes x y=>(zHM st (st.eval y)).bind fun ys=>match st.eval x with
  | .c (.p .nl)=> .ask (decide (0<sz∧0<bytes∧ys.length*bytes≤140737488355328∧ys.all (fun e=>e.length==sz)=true))
    (.done (.c (.own st.up.length (dst*64) (st.fresh (dst*64)) ys.length),(st.new (dst*64) sz ty (.row ys)).2,kn,none)) .fail
  | .c (.own d n g m)=>match st.get d n with
   |some ⟨g',sz',ty',.row rows⟩=>if g=g'∧sz'=sz∧ty'=ty then .ask (decide (m=rows.length∧0<sz∧0<bytes∧(m+ys.length)*bytes≤140737488355328∧ys.all (fun e=>e.length==sz)=true))
     (.done (.c (.own d n (g+1) (m+ys.length)),st.set d n ⟨g+1,sz,ty,.row (rows++ys)⟩,kn,none)) .fail else .fail
   |_=> .fail
  |_=> .fail
 | .mksl ty sz bytes zero l c=>match st.eval l,st.eval c with
  | .c (.p (.i .i64 l)),.c (.p (.i .i64 c))=>if zero.length=sz then .ask (decide (0≤l∧l=c∧bytes*l≤140737488355328∧l≤9223372036854775807))
    (.done (.c (.own st.up.length (dst*64) (st.fresh (dst*64)) l.toNat),(st.new (dst*64) sz ty (.row (zAI zero l.toNat))).2,kn,none)) .fail else .fail
  |_,_=> .fail
 | .call true f args=>match st.eval f with
  | .c (.fn f caps)=>(zFT st (args.map st.eval++caps.map Cap.av)).bind fun (as,lent)=>(CT f as []).bind fun r=>if zCm r=true then
    (if lent=false then .done (r.v.map (z9 st.up.length dst st.fr),{st with fr:=zl dst r.rows 0 st.fr},kn,none) else .ask (zd r) (.done (r.v.map (z9 st.up.length dst st.fr),{st with fr:=zl dst r.rows 0 st.fr},kn,none)) .fail) else .fail
  |_=> .fail
 | .call false f args=>match st.eval f with
  | .c (.fn f caps)=>(zFV st (args.map st.eval++caps.map Cap.av)).bind fun (as,d,n,B)=>(CT f as [[(0,B)]]).bind fun r=>match zC4 st dst d n B r with
    |some (v,s)=> .done (v,s,kn,none)
    |none=> .fail
  |_=> .fail
 | .callN f args=>match st.eval f with
  | .c (.fn f caps)=>match args.map st.eval++caps.map Cap.av with
   |a::r=>(zC2 st r).bind fun (r,st)=>match zCN st a with
    |some (a,q,q2)=>(CT f (a::r) [[(0,q.2.2),(1,q2.2.2)]]).bind fun res=>match zC5 st q q2 res with
     |some (v,s)=> .done (v,s,kn,none)
     |none=> .fail
    |none=> .fail
   | []=> .fail
  |_=> .fail
 | .bslice ty sz len zero parts=>match zAS ((List.replicate len zero).map (·.map .p)) sz (parts.map fun (j,x)=>(j,st.eval x)) with
  |some rows=>if rows.any (·.any zKk)=true then (zBp st rows).bind fun (rs,st)=> .done (.c (.own st.up.length (dst*64) (st.fresh (dst*64)) len),(st.new (dst*64) sz ty (.row rs)).2,kn,none) else zFU st kn dst (.bslice ty sz len zero parts)
  |none=> .fail
 |k=>zFU st kn dst k
def zBx (CT:zDP) (st:St) (kn:Kn) (o:KOper):Tr (St×Kn):=
 let go:St→Kn→Tr (St×Kn):=fun st kn=>(zDY CT st kn (o.dst.getD 0) o.op).bind fun (v,s,kn,kb)=> .done ({s with t:=zA5 s.t o.dst v},zE3 kn o.dst kb)
 match o.guard with
 |none=>go st kn
 |some (j,want)=>match zF j st.t with
  |some (.tup [])=> .done ({st with t:=zA5 st.t o.dst (.tup [])},zE3 kn o.dst none)
  |_=>zI9 st kn (.t j) fun v st kn=>if v=want then go st kn else .done ({st with t:=zA5 st.t o.dst (.tup [])},zE3 kn o.dst none)
def zEK (CT:zDP):List KOper→St→Kn→Tr (St×Kn)
 | [],st,kn=> .done (st,kn)
 |o::r,st,kn=>(zBx CT st kn o).bind fun (st,kn)=>zEK CT r st kn
def zFW (CT:zDP):List (KOper×List Bool)→List Tch→St→Kn→Tr (St×Kn)
 | [],_,st,kn=> .done (st,kn)
 |(o,bs)::r,ts,st,kn=>if zH2 bs ts (tch st o)=true then (zBx CT st kn o).bind fun p=>zFW CT r (tch st o::ts) p.1 p.2 else .fail
def zBF (CT:zDP) (LT:zGF):KCode→St→Kn→Tr (Ex×St×Kn)
 | .skip,st,kn=> .done (.normal,st,kn)
 | .ops l,st,kn=>(zEK CT l st kn).bind fun (st,kn)=> .done (.normal,st,kn)
 | .draw l,st,kn=>(zFW CT l [] st kn).bind fun (st,kn)=> .done (.normal,st,kn)
 | .seq a b,st,kn=>(zBF CT LT a st kn).bind fun (e,st,kn)=>match e with
  | .normal=>zBF CT LT b st kn
  |e=> .done (e,st,kn)
 | .cond c a b,st,kn=>zI9 st kn c fun v st kn=>match v with
  |true=>zBF CT LT a st kn
  |false=>zBF CT LT b st kn
 | .block id c,st,kn=>(zBF CT LT c st kn).bind fun (e,st,kn)=> .done (if e= .exit id then .normal else e,st,kn)
 | .loop mk keep zAB c,st,kn=>(LT mk (st.norm keep)).bind fun (e,s)=> .done (e,s,[])
 | .exit id,st,kn=> .done (.exit id,st,kn)
 | .ret,st,kn=> .done (.ret,st,kn)
def zJC (st:St):List (Bool×List CV)→Tr (List (Bool×List CV)×St)
 | []=> .done ([],st)
 |(g,cs)::r=>(zBL st cs).bind fun (ps,st)=>(zJC st r).bind fun (l,st')=> .done ((g,ps.map CV.p)::l,st')
def zFX (kf:KFun) (e:Ex) (st:St):Tr Res:=
 if (e= .normal∨e= .ret)∧kf.frozen=true then match zBW st kf.results with
  |some l=>(zJC st l).bind fun (l,st)=> .done ⟨zAP l,st.up,[]⟩
  |none=> .fail
 else if e= .normal∨e= .ret then match (zBW st kf.results).bind (zGP st) with
  |some r=> .done r
  |none=> .fail
 else .fail
def zKU (kf:KFun) (args:List AV) (up:List Frame) (r:Res):Tr Res:=
 if kf.nil1=true then match args,up with
  | [.c (.p (.ls rows))],[]=> .ask (!rows.isEmpty||zCo r) (.done r) .fail
  |_,_=> .fail
 else .done r
def zJy (CT:zDP) (LT:zGF) (kf:KFun) (args:List AV) (up:List Frame):Tr Res:=
 if args.length=kf.params.length then (zBF CT LT kf.body ⟨zDg args 0,[],up⟩ []).bind fun (e,st,_)=>(zFX kf e st.low).bind (zKU kf args up) else .fail
def zET (CT:zDP) (run:za):Prop:=∀f args up r,(CT f args up).run=some r→run f args up=some r
def zz:KCode→List (Nat×List Nat×List (Ex×List Nat)×KCode)
 | .seq a b| .cond _ a b=>zz a++zz b
 | .block _ c=>zz c
 | .loop mk keep zAB c=> [(mk,keep,zAB,c)]
 |_=> []
def zDN (body:St→Option (Ex×St)) (keep:List Nat):Nat→St→Option (Ex×St)
 |0,_=>none
 |m+1,st=>(body st).bind fun (e,s)=>match e with
  | .normal=>zDN body keep m (s.norm keep)
  |e=>some (e,s)
theorem zHN (body:St→Option (Ex×St)) (keep:List Nat):∀(m:Nat) (st:St),zGO body keep m st=zDN body keep m (st.norm keep)
 |0,st=>rfl
 |m+1,st=>by
  simp only [zGO,zDN]
  congr 1
  funext p
  obtain ⟨e,s⟩:=p
  cases e with
  |normal=>exact zHN body keep m s
  |_=>rfl
def zHs (LT:zGF) (run:za) (N:Nat) (c:KCode):Prop:=
 ∀mk keep zAB b,(mk,keep,zAB,b)∈zz c→∀st e s,(LT mk st).run=some (e,s)→∃s0,zDN (zf run N b) keep N st=some (e,s0)∧s=s0.norm (zC7 e zAB)
section
variable {CT:zDP} {LT:zGF} {run:za} {N:Nat} {st:St} {kn:Kn}
theorem zJz {dst:Nat} {k:KOp} {v:AV} {s:St} {kn':Kn} {kb:Option Bool} (hk:KnOK kn st) (h:(zFU st kn dst k).run=some (v,s,kn',kb)) (hst:∀{v s},zA zKB st dst k=some (v,s)→s.t=st.t):
  zA run st dst k=some (v,s)∧s.t=st.t∧KnOK kn' s∧∀b,kb=some b→v= .c (.p (.b b)):=by
 unfold zFU at h
 split at h
 ·rename_i v' s' he
  cases h
  have ht:=hst he
  exact ⟨zGC (fun f a u r h=>by cases h) he,ht,hk.frame ht,fun b hb=>by cases hb⟩
 ·cases h
theorem zE6 {c:CV} {st:St} {y:PV×St} (h:zAM st c=some y):y.2.t=st.t:=by
 unfold zAM at h
 split at h
 ·cases h;rfl
 ·split at h
  ·split at h
   ·cases h;exact zAt _ _ _ _
   ·cases h
  ·cases h
 ·cases h
theorem zBy:∀{l:List CV} {st:St} {y:List PV×St},zi st l=some y→y.2.t=st.t
 | [],st,y,h=>by cases h;rfl
 |x::r,st,y,h=>by
  simp only [zi,Option.bind_eq_some_iff,Option.some.injEq] at h
  obtain ⟨⟨a,s1⟩,h1,⟨b,s2⟩,h2,rfl⟩:=h
  exact (zBy h2).trans (zE6 h1)
theorem zCi:∀{l:List (List CV)} {st:St} {y:List (List PV)×St},zW st l=some y→y.2.t=st.t
 | [],st,y,h=>by cases h;rfl
 |x::r,st,y,h=>by
  simp only [zW,Option.bind_eq_some_iff,Option.some.injEq] at h
  obtain ⟨⟨a,s1⟩,h1,⟨b,s2⟩,h2,rfl⟩:=h
  exact (zCi h2).trans (zBy h1)
theorem zEL:∀{l:List AV} {st:St} {y:List AV×St},zm st l=some y→y.2.t=st.t
 | [],st,y,h=>by cases h;rfl
 |x::r,st,y,h=>by
  simp only [zm,Option.bind_eq_some_iff,Option.map_eq_some_iff] at h
  obtain ⟨⟨a,s1⟩,h1,⟨b,s2⟩,h2,rfl⟩:=h
  refine (zEL h2).trans ?_
  cases x with
  |c x=>
   simp only [zp,Option.map_eq_some_iff,Prod.mk.injEq,Prod.exists] at h1
   obtain ⟨p,s,h3,_,rfl⟩:=h1
   exact zE6 h3
  |agg cs=>
   simp only [zp,Option.map_eq_some_iff,Prod.mk.injEq,Prod.exists] at h1
   obtain ⟨p,s,h3,_,rfl⟩:=h1
   exact zBy h3
  |tup vs=>cases h1
theorem zFY {a:AV} {xs:List CV} {s:St} (h:st.write a xs=some s):s.t=st.t:=by
 unfold St.write at h
 split at h
 ·split at h
  ·split at h
   ·cases h;exact zAt _ _ _ _
   ·cases h
  ·simp only [Option.bind_eq_some_iff] at h
   obtain ⟨⟨ys,s1⟩,h1,h⟩:=h
   have ht:=zBy h1
   simp only at h ht
   split at h
   ·split at h
    ·split at h
     ·split at h
      ·cases h;exact (zAt _ _ _ _).trans ht
      ·cases h
     ·cases h
    ·cases h
   ·cases h
  ·cases h
 ·cases h
theorem zBz {base:Nat}:∀(l:List (Nat×TypeId×Nat)) (i:Nat) (cs:List CV) (st:St),(zQ base l i cs st).2.t=st.t
 | [],_,_,_=>rfl
 |(col,ty,sz)::r,i,cs,st=>by
  unfold zQ
  split
  ·exact zBz r (i+1) _ _
  ·exact zBz r (i+1) cs st
theorem zGI {dst:Nat} {k:KOp} {v:AV} {s:St} (h:zA run st dst k=some (v,s)):s.t=st.t:=by
 cases k<;>simp only [zA] at h
 case nil=>cases h;rfl
 case mv=>cases h;rfl
 case rel=>
  split at h
  ·split at h<;>cases h;rfl
  ·cases h
 case pick=>split at h<;>cases h;rfl
 case box=>
  split at h
  ·cases h
  ·split at h
   ·cases h;rfl
   ·cases h
 case build=>
  obtain ⟨cs,_,h⟩:=Option.map_eq_some_iff.1 h
  cases h;rfl
 case bslice=>
  obtain ⟨rows,_,h⟩:=Option.bind_eq_some_iff.1 h
  split at h
  ·rename_i rs s1 hf
   cases h
   exact zCi hf
  ·split at h
   ·cases h;rfl
   ·cases h
 case load=>
  obtain ⟨cs,_,h⟩:=Option.bind_eq_some_iff.1 h
  obtain ⟨v',_,h⟩:=Option.map_eq_some_iff.1 h
  cases h;rfl
 case store=>
  split at h
  ·cases h
  ·split at h
   ·obtain ⟨s',h1,h⟩:=Option.map_eq_some_iff.1 h
    cases h
    exact zFY h1
   ·cases h
 case storeN=>
  split at h
  ·cases h
  ·split at h
   ·obtain ⟨s',h1,h⟩:=Option.map_eq_some_iff.1 h
    cases h
    exact (zFY h1).trans (zBz _ _ _ _)
   ·cases h
 case chk=>
  split at h
  ·split at h<;>cases h;rfl
  ·cases h;rfl
  ·cases h;rfl
  ·cases h
 case bin=>
  split at h
  ·obtain ⟨_,_,h⟩:=Option.map_eq_some_iff.1 h;cases h;rfl
  ·cases h
 case eqs=>
  split at h
  ·obtain ⟨_,_,h⟩:=Option.map_eq_some_iff.1 h;cases h;rfl
  ·cases h
 case beq=>split at h<;>cases h;rfl
 case inil=>split at h<;>cases h<;>rfl
 case un=>
  split at h
  ·obtain ⟨_,_,h⟩:=Option.map_eq_some_iff.1 h;cases h;rfl
  ·cases h
 case conv=>split at h<;>cases h;rfl
 case str=>split at h<;>cases h;rfl
 case toStr=>
  obtain ⟨_,_,h⟩:=Option.bind_eq_some_iff.1 h
  obtain ⟨_,_,h⟩:=Option.map_eq_some_iff.1 h;cases h;rfl
 case mkfn=>obtain ⟨_,_,h⟩:=Option.map_eq_some_iff.1 h;cases h;rfl
 case mksl=>
  obtain ⟨_,_,h⟩:=Option.bind_eq_some_iff.1 h
  obtain ⟨_,_,h⟩:=Option.bind_eq_some_iff.1 h
  split at h<;>cases h;rfl
 case slcS=>
  split at h
  ·obtain ⟨_,_,h⟩:=Option.bind_eq_some_iff.1 h
   obtain ⟨_,_,h⟩:=Option.bind_eq_some_iff.1 h
   split at h<;>cases h;rfl
  ·cases h
 case slc=>
  split at h
  ·obtain ⟨_,_,h⟩:=Option.bind_eq_some_iff.1 h
   obtain ⟨_,_,h⟩:=Option.bind_eq_some_iff.1 h
   split at h<;>cases h;rfl
  ·cases h
 case faddr=>
  split at h
  ·split at h<;>cases h;rfl
  ·cases h;rfl
  ·cases h
 case field=>
  split at h
  ·split at h
   ·obtain ⟨_,_,h⟩:=Option.map_eq_some_iff.1 h;cases h;rfl
   ·cases h
  ·cases h
 case iaddr=>
  obtain ⟨i,_,h⟩:=Option.bind_eq_some_iff.1 h
  split at h
  ·split at h
   ·split at h
    ·split at h<;>cases h;rfl
    ·cases h
   ·cases h
  ·split at h
   ·split at h<;>cases h;rfl
   ·split at h<;>cases h;rfl
   ·cases h
  ·cases h
 case index=>
  obtain ⟨i,_,h⟩:=Option.bind_eq_some_iff.1 h
  split at h
  ·split at h
   ·split at h<;>cases h;rfl
   ·cases h
  ·cases h
 case ext=>
  split at h
  ·split at h
   ·obtain ⟨_,_,h⟩:=Option.map_eq_some_iff.1 h;cases h;rfl
   ·cases h
  ·cases h
 case app=>
  split at h
  ·split at h<;>cases h;rfl
  ·split at h
   ·split at h
    ·cases h;exact zAt _ _ _ _
    ·cases h
   ·cases h
  ·cases h
 case boxN=>
  split at h
  ·cases h
  ·split at h
   ·cases h;rfl
   ·cases h
 case storeB=>
  split at h
  ·obtain ⟨s',h1,h⟩:=Option.map_eq_some_iff.1 h
   cases h
   exact (zFY h1).trans (zBz _ _ _ _)
  ·cases h
 case callN f args=>
  split at h
  ·cases hq:args.map st.eval++(List.map Cap.av ‹_›) with
   |nil=>rw [hq] at h;cases h
   |cons a0 r=>
    rw [hq] at h
    simp only [callN] at h
    obtain ⟨⟨r',s1⟩,h1,h⟩:=Option.bind_eq_some_iff.1 h
    obtain ⟨⟨a',q,q2⟩,h2,h⟩:=Option.bind_eq_some_iff.1 h
    obtain ⟨res,h3,h⟩:=Option.bind_eq_some_iff.1 h
    exact (zJx h).trans (zEL h1)
  ·cases h
 case len s x=>
  cases s
  ·simp only [zA] at h
   split at h
   ·cases h;rfl
   ·cases h;rfl
   ·split at h<;>cases h;rfl
   ·cases h
  ·simp only [zA] at h
   split at h<;>cases h;rfl
 case mm=>obtain ⟨_,_,h⟩:=Option.map_eq_some_iff.1 h;cases h;rfl
 case call bo f args=>
  split at h
  ·unfold zAz at h
   split at h
   ·obtain ⟨⟨as,l⟩,_,h⟩:=Option.bind_eq_some_iff.1 h
    obtain ⟨r,_,h⟩:=Option.bind_eq_some_iff.1 h
    split at h<;>cases h;rfl
   ·obtain ⟨⟨ar,d,n,B⟩,_,h⟩:=Option.bind_eq_some_iff.1 h
    obtain ⟨r,_,h⟩:=Option.bind_eq_some_iff.1 h
    unfold zC4 at h
    split at h
    ·split at h
     ·split at h
      ·cases h;exact zAt _ _ _ _
      ·cases h
     ·cases h
    ·cases h
  ·cases h
def zJD (run:za) (st:St) (dst:Nat) (k:KOp) (x:OpR):Prop:=zA run st dst k=some (x.1,x.2.1)∧KnOK x.2.2.1 x.2.1∧∀b,x.2.2.2=some b→x.1= .c (.p (.b b))
theorem zBM {dst:Nat} {k:KOp} {x:OpR} (hk:KnOK kn st) (h:(zFU st kn dst k).run=some x):zJD run st dst k x:=by
 obtain ⟨v,s,kn',kb⟩:=x
 obtain ⟨h1,h2,h3,h4⟩:=zJz (run:=run) hk h (fun h=>zGI h)
 exact ⟨h1,h3,h4⟩
theorem zB0 {dst:Nat} {k:KOp} {v:AV} {kn':Kn} {kb:Option Bool} {x:OpR} (he:zA run st dst k=some (v,st)) (hk:KnOK kn' st) (hb:∀b,kb=some b→v= .c (.p (.b b))) (h:(Tr.done (v,st,kn',kb)).run=some x):zJD run st dst k x:=by
 cases h
 exact ⟨he,hk,hb⟩
theorem zj {dst:Nat} {k:KOp} {v:AV} {s:St} {x:OpR} (he:zA run st dst k=some (v,s)) (hk:KnOK kn st) (h:(Tr.done (v,s,kn,none)).run=some x):zJD run st dst k x:=by
 cases h
 exact ⟨he,hk.frame (zGI he),fun b hb=>by cases hb⟩
theorem zHt {a:AV} {y:AV×Nat×Nat×Blk} (h:(zGp st a).run=some y):zBH st a=some y:=by
 unfold zGp at h
 unfold zBH
 split at h
 ·split at h
  ·rename_i g' sz ty rows hB
   split at h
   ·rename_i hg
    obtain ⟨hm,h⟩:=Tr.ask_yes h
    cases h
    simp only [hB]
    rw [if_pos ⟨hg,hm⟩]
   ·cases h
  ·cases h
 ·split at h
  ·rename_i g' sz ty cells hB
   split at h
   ·rename_i hc
    cases h
    simp only [hB]
    rw [if_pos hc]
   ·cases h
  ·cases h
 ·cases h
theorem zGq {a:AV} (h:¬zJB a=true):zBH st a=none:=by
 unfold zJB at h
 unfold zBH
 split
 ·simp at h
 ·simp at h
 ·rfl
theorem zE7:∀{l:List AV} {y:List AV×Nat×Nat×Blk},(zFV st l).run=some y→zAy st l=some y
 | [],y,h=>by cases h
 |a::r,y,h=>by
  simp only [zFV] at h
  simp only [zAy]
  split at h
  ·obtain ⟨⟨a',d,n,B⟩,h1,h⟩:=Tr.bind_some h
   rw [zHt h1]
   simp only at h⊢
   split at h
   ·rename_i r' hr
    cases h
    rw [hr]
    rfl
   ·cases h
  ·rename_i hn
   rw [zGq hn]
   simp only
   split at h
   ·rename_i a' ha
    obtain ⟨⟨r',q⟩,h1,h⟩:=Tr.bind_some h
    cases h
    rw [ha,zE7 h1]
    rfl
   ·cases h
theorem zJE {n dst:Nat} {a x:KX} (h:∀vs,st.eval x= .tup vs→False):zA run st dst (.store n a x)=if (st.eval x).cvs.length=n∧(st.eval x).cvs.all (·.known)=true then (st.write (st.eval a) (st.eval x).cvs).map fun st=>(.c .u,st) else none:=by
 simp only [zA]
theorem zGr (hC:zET CT run) (hk:KnOK kn st) {dst:Nat} {k:KOp} {x:OpR} (h:(zDY CT st kn dst k).run=some x):zJD run st dst k x:=by
 unfold zDY at h
 split at h
 ·--mv
  exact zB0 rfl hk (fun b hb=>zFQ hk hb) h
 ·--pick
  obtain ⟨v,kn',h1,h2,h3⟩:=zFR hk h
  cases v
  ·exact zB0 (by simp only [zA,h1];rfl) h2 (fun b hb=>zFQ h2 hb) h3
  ·exact zB0 (by simp only [zA,h1];rfl) h2 (fun b hb=>zFQ h2 hb) h3
 ·--un
  split at h
  ·rename_i v hx
   refine zB0 (by simp only [zA,hx,unP];rfl) hk (fun b hb=>?_) h
   obtain ⟨c,hc,rfl⟩:=Option.map_eq_some_iff.1 hb
   have:=zFQ hk hc
   rw [hx] at this
   cases this
   rfl
  ·exact zBM hk h
 ·--bin
  rename_i op x y
  split at h
  ·rename_i k a k' b hx hy
   split at h
   ·rename_i e
    subst e
    have key:∀{r:PV} {z:OpR},zFC op k a b=some r→(Tr.done ((.c (.p r),st,kn,none):OpR)).run=some z→zJD run st dst (.bin op x y) z:=fun {r z} hr h'=>
     zj (by simp only [zA,hx,hy,zGM,if_true,hr,Option.map_some]) hk h'
    unfold zKC at h
    split at h
    ·split at h
     ·split at h
      ·rename_i r hr;exact key hr h
      ·cases h
     ·rcases Tr.ask_some h with ⟨_,h2⟩|⟨h1,h2⟩
      ·cases h2
      ·have h1:¬b=0:=by simpa using h1
       exact key (by simp only [zFC];rw [if_neg h1]) h2
    ·split at h
     ·split at h
      ·rename_i r hr;exact key hr h
      ·cases h
     ·rcases Tr.ask_some h with ⟨_,h2⟩|⟨h1,h2⟩
      ·cases h2
      ·have h1:¬b=0:=by simpa using h1
       exact key (by simp only [zFC];rw [if_neg h1]) h2
    ·split at h
     ·split at h
      ·rename_i r hr;exact key hr h
      ·cases h
     ·cases h
    ·split at h
     ·split at h
      ·rename_i r hr;exact key hr h
      ·cases h
     ·cases h
    ·split at h
     ·rename_i r hr;exact key hr h
     ·cases h
   ·cases h
  ·rename_i a b hx hy
   split at h
   ·obtain ⟨h1,h2⟩:=Tr.ask_yes h
    exact zj (by simp only [zA,hx,hy,zGM,zH0];rw [if_pos h1];rfl) hk h2
   ·split at h
    ·rename_i r hr
     exact zj (by simp only [zA,hx,hy,zGM,hr,Option.map_some]) hk h
    ·cases h
  ·cases h
 ·--load
  rename_i g n ks a
  split at h
  ·rename_i e o ha
   split at h
   ·rename_i hc
    obtain ⟨cs,h1,h2⟩:=Tr.bind_some h
    obtain ⟨ps,rfl,h3,h4⟩:=zCz h1
    obtain ⟨h5,h6⟩:=zEG (by omega) h4
    split at h2
    ·rename_i v hv
     rw [h3,hc.1] at h5 h6
     exact zj (by simp only [zA,ha,St.read];rw [if_pos h5,h6];simp only [Option.bind_some,hv,Option.map_some]) hk h2
    ·cases h2
   ·cases h
  ·rename_i d m gg j o ha
   split at h
   ·rename_i g' sz ty rows hB
    split at h
    ·rename_i hc
     obtain ⟨e,he,h⟩:=Tr.opt_some h
     obtain ⟨cs,h1,h2⟩:=Tr.bind_some h
     obtain ⟨ps,rfl,h3,h4⟩:=zCz h1
     obtain ⟨h5,h6⟩:=zEG (by omega) h4
     split at h2
     ·rename_i v hv
      rw [h3,hc.2.1] at h5 h6
      exact zj (by simp only [zA,ha,St.read,hB];rw [if_pos ⟨hc.1,hc.2.2.2⟩,he];simp only;rw [if_pos h5,h6];simp only [Option.bind_some,hv,Option.map_some]) hk h2
     ·cases h2
    ·cases h
   ·exact zBM hk h
  ·cases h
 ·--store
  rename_i n a x
  split at h
  ·rename_i d m gg j o v ha
   split at h
   ·cases h
   ·rename_i B1 B2 B3 B4 hB hnt
    split at h
    ·rename_i hc
     obtain ⟨⟨ys,s1⟩,h1,h2⟩:=Tr.bind_some h
     obtain ⟨h3,h4⟩:=zAq h1
     simp only at h2
     split at h2
     ·rename_i g' sz ty rows hB'
      split at h2
      ·rename_i hg
       obtain ⟨e,he,h2⟩:=Tr.opt_some h2
       obtain ⟨h5,h2⟩:=Tr.ask_yes h2
       refine zj ?_ hk h2
       rw [zJE hnt,if_pos hc,ha]
       simp only [St.write,hB,h3,Option.bind_some,hB']
       rw [if_pos hg,he]
       simp only
       rw [if_pos h5]
       rfl
      ·cases h2
     ·cases h2
    ·cases h
   ·exact zBM hk h
  ·cases h
 ·--index
  split at h
  ·rename_i s i hx hi
   obtain ⟨h1,h⟩:=Tr.ask_yes h
   obtain ⟨c,h2,h⟩:=Tr.opt_some h
   exact zj (by simp only [zA,hi,zAn,Option.bind_some,hx];rw [if_pos h1,h2]) hk h
  ·cases h
 ·--iaddr
  rename_i sz x i
  split at h
  ·rename_i rows z hx hi
   obtain ⟨h1,h⟩:=Tr.ask_yes h
   obtain ⟨e,h2,h⟩:=Tr.opt_some h
   obtain ⟨h3,h⟩:=Tr.ask_yes h
   exact zj (by simp only [zA,hi,zAn,Option.bind_some,hx];rw [if_pos h1,h2];simp only;rw [if_pos h3]) hk h
  ·rename_i d n g m z hx hi
   split at h
   ·rename_i g' sz' ty rows hB
    split at h
    ·rename_i hc
     obtain ⟨h1,h⟩:=Tr.ask_yes h
     exact zj (by simp only [zA,hi,zAn,Option.bind_some,hx,hB];rw [if_pos ⟨hc.1,hc.2,h1⟩]) hk h
    ·cases h
   ·exact zBM hk h
  ·cases h
 ·--slcS
  rename_i x lo hi
  split at h
  ·rename_i s l hx hl
   split at h
   ·rename_i u hu
    obtain ⟨h1,h⟩:=Tr.ask_yes h
    exact zj (by simp only [zA,hx,hl,hu,Option.bind_some];rw [if_pos h1]) hk h
   ·cases h
  ·cases h
 ·--slc
  rename_i sz x lo hi
  split at h
  ·rename_i rows l hx hl
   split at h
   ·rename_i u hu
    obtain ⟨h1,h⟩:=Tr.ask_yes h
    exact zj (by simp only [zA,hx,hl,hu,Option.bind_some];rw [if_pos h1]) hk h
   ·cases h
  ·cases h
 ·--toStr
  obtain ⟨rows,h1,h⟩:=Tr.bind_some h
  obtain ⟨l,h2,h⟩:=Tr.opt_some h
  exact zj (by simp only [zA,zGE h1,Option.bind_some,h2,Option.map_some]) hk h
 ·--app
  rename_i ty sz bytes x y
  obtain ⟨ys,h1,h⟩:=Tr.bind_some h
  have h1:=zGE h1
  split at h
  ·rename_i hx
   obtain ⟨h2,h⟩:=Tr.ask_yes h
   exact zj (by simp only [zA,hx,h1];rw [if_pos h2]) hk h
  ·rename_i d n g m hx
   split at h
   ·rename_i g' sz' ty' rows hB
    split at h
    ·rename_i hc
     obtain ⟨h2,h⟩:=Tr.ask_yes h
     exact zj (by simp only [zA,hx,h1,hB];rw [if_pos ⟨hc.1,hc.2.1,hc.2.2,h2⟩]) hk h
    ·cases h
   ·cases h
  ·cases h
 ·--mksl
  split at h
  ·rename_i l c hl hc
   split at h
   ·rename_i hz
    obtain ⟨h2,h⟩:=Tr.ask_yes h
    exact zj (by simp only [zA,hl,hc,zAn,Option.bind_some];rw [if_pos ⟨h2.1,h2.2.1,h2.2.2.1,h2.2.2.2,hz⟩]) hk h
   ·cases h
  ·cases h
 ·--call
  rename_i f args
  split at h
  ·rename_i g caps hf
   obtain ⟨⟨as,lent⟩,h1,h⟩:=Tr.bind_some h
   obtain ⟨r,h2,h⟩:=Tr.bind_some h
   have h1:=zEJ h1
   have h2:=hC _ _ _ _ h2
   split at h
   ·rename_i hs
    split at h
    ·rename_i hc
     refine zj ?_ hk h
     simp only [zA,hf,zAz,if_true,h1,Option.bind_some,h2]
     rw [if_pos ⟨.inl hc,hs⟩]
    ·rcases Tr.ask_some h with ⟨hc,h⟩|⟨_,h⟩
     ·refine zj ?_ hk h
      simp only [zA,hf,zAz,if_true,h1,Option.bind_some,h2]
      rw [if_pos ⟨.inr hc,hs⟩]
     ·cases h
   ·cases h
  ·cases h
 ·--a call that is lent a block
  rename_i f args
  split at h
  ·rename_i g caps hf
   obtain ⟨⟨as,d,n,B⟩,h1,h⟩:=Tr.bind_some h
   obtain ⟨r,h2,h⟩:=Tr.bind_some h
   have h1:=zE7 h1
   have h2:=hC _ _ _ _ h2
   split at h
   ·rename_i v s hb
    refine zj ?_ hk h
    simp only [zA,hf,zAz,Bool.false_eq_true,if_false,h1,Option.bind_some,h2,hb]
   ·cases h
  ·cases h
 ·--a call that is lent a box with an own row
  rename_i f args
  split at h
  ·rename_i g caps hf
   split at h
   ·rename_i a r hq
    obtain ⟨⟨r',s1⟩,h1,h⟩:=Tr.bind_some h
    have h1:=(zCh h1).1
    simp only at h
    split at h
    ·rename_i a' q q2 hl
     obtain ⟨res,h2,h⟩:=Tr.bind_some h
     have h2:=hC _ _ _ _ h2
     split at h
     ·rename_i v s hb
      refine zj ?_ hk h
      simp only [zA,hf,hq,callN,h1,Option.bind_some,hl,h2,hb]
     ·cases h
    ·cases h
   ·cases h
  ·cases h
 ·--a literal slice
  split at h
  ·rename_i rows hrows
   split at h
   ·obtain ⟨⟨rs,s1⟩,h1,h⟩:=Tr.bind_some h
    obtain ⟨h1,ht⟩:=zBq h1
    cases h
    exact ⟨by simp only [zA,hrows,Option.bind_some,h1],hk.frame ht,fun b hb=>by cases hb⟩
   ·exact zBM hk h
  ·cases h
 ·exact zBM hk h
theorem zCj (hC:zET CT run) (hk:KnOK kn st) {o:KOper} {s:St} {kn':Kn} (h:(zBx CT st kn o).run=some (s,kn')):zN run st o=some s∧KnOK kn' s:=by
 have go:∀{kn:Kn},KnOK kn st→((zDY CT st kn (o.dst.getD 0) o.op).bind fun (v,s,kn,kb)=>Tr.done (({s with t:=zA5 s.t o.dst v}:St),zE3 kn o.dst kb)).run=some (s,kn')→
   (zA run st (o.dst.getD 0) o.op).map (fun (a,st)=>({st with t:=zA5 st.t o.dst a}:St))=some s∧KnOK kn' s:=fun {kn} hk h=>by
  obtain ⟨⟨v,s1,kn1,kb⟩,h1,h2⟩:=Tr.bind_some h
  obtain ⟨e1,e2,e3⟩:=zGr hC hk h1
  cases h2
  exact ⟨by rw [e1];rfl,zED e2 e3⟩
 unfold zBx at h
 cases hg:o.guard with
 |none=>
  simp only [hg] at h
  simp only [zN,hg]
  exact go hk h
 |some jw=>
  obtain ⟨j,want⟩:=jw
  simp only [hg] at h
  split at h
  ·rename_i hu
   simp only [zN,hg,hu]
   cases h
   exact ⟨rfl,zED hk (fun b hb=>by cases hb)⟩
  obtain ⟨v,kn1,h1,h2,h3⟩:=zFR hk h
  have h1':zF j st.t=some (.c (.p (.b v))):=by
   simp only [St.eval] at h1
   cases hq:zF j st.t with
   |none=>rw [hq] at h1;cases h1
   |some a=>rw [hq] at h1;simp only at h1;rw [h1]
  simp only [zN,hg,h1']
  split at h3
  ·rename_i e
   rw [if_pos e]
   exact go h2 h3
  ·rename_i e
   rw [if_neg e]
   cases h3
   exact ⟨rfl,zED h2 (fun b hb=>by cases hb)⟩
theorem zDO (hC:zET CT run):∀{l:List KOper} {st:St} {kn:Kn} {s:St} {kn':Kn},KnOK kn st→(zEK CT l st kn).run=some (s,kn')→zA7 run l st=some s∧KnOK kn' s
 | [],st,kn,s,kn',hk,h=>by cases h;exact ⟨rfl,hk⟩
 |o::r,st,kn,s,kn',hk,h=>by
  obtain ⟨⟨s1,kn1⟩,h1,h2⟩:=Tr.bind_some h
  obtain ⟨e1,e2⟩:=zCj hC hk h1
  obtain ⟨e3,e4⟩:=zDO hC e2 h2
  exact ⟨by simp only [zA7,e1,Option.bind_some,e3],e4⟩
theorem zE8 (hC:zET CT run):∀{l:List (KOper×List Bool)} {ts:List Tch} {st:St} {kn:Kn} {s:St} {kn':Kn},KnOK kn st→(zFW CT l ts st kn).run=some (s,kn')→zDd run l ts st=some s∧KnOK kn' s
 | [],ts,st,kn,s,kn',hk,h=>by cases h;exact ⟨rfl,hk⟩
 |(o,bs)::r,ts,st,kn,s,kn',hk,h=>by
  simp only [zFW] at h
  split at h
  ·rename_i hc
   obtain ⟨⟨s1,kn1⟩,h1,h2⟩:=Tr.bind_some h
   obtain ⟨e1,e2⟩:=zCj hC hk h1
   obtain ⟨e3,e4⟩:=zE8 hC e2 h2
   exact ⟨by simp only [zDd,hc,if_true,e1,Option.bind_some];exact e3,e4⟩
  ·cases h
theorem zE9 (hC:zET CT run):∀(c:KCode),zHs LT run N c→∀{st:St} {kn:Kn} {e:Ex} {s:St} {kn':Kn},KnOK kn st→(zBF CT LT c st kn).run=some (e,s,kn')→zf run N c st=some (e,s)∧KnOK kn' s:=by
 intro c
 induction c with
 |skip=>intro hL st kn e s kn' hk h;cases h;exact ⟨rfl,hk⟩
 |ops l=>
  intro hL st kn e s kn' hk h
  obtain ⟨⟨s1,kn1⟩,h1,h2⟩:=Tr.bind_some h
  cases h2
  obtain ⟨e1,e2⟩:=zDO hC hk h1
  exact ⟨by simp only [zf,e1,Option.map_some],e2⟩
 |draw l=>
  intro hL st kn e s kn' hk h
  obtain ⟨⟨s1,kn1⟩,h1,h2⟩:=Tr.bind_some h
  cases h2
  obtain ⟨e1,e2⟩:=zE8 hC hk h1
  exact ⟨by simp only [zf,e1,Option.map_some],e2⟩
 |seq a b iha ihb=>
  intro hL st kn e s kn' hk h
  obtain ⟨⟨e1,s1,kn1⟩,h1,h2⟩:=Tr.bind_some h
  obtain ⟨g1,g2⟩:=iha (fun mk keep zAB b hm=>hL mk keep zAB b (by simp only [zz];exact List.mem_append_left _ hm)) hk h1
  simp only [zf,g1,Option.bind_some]
  cases e1 with
  |normal=>exact ihb (fun mk keep zAB b hm=>hL mk keep zAB b (by simp only [zz];exact List.mem_append_right _ hm)) g2 h2
  |exit id=>cases h2;exact ⟨rfl,g2⟩
  |ret=>cases h2;exact ⟨rfl,g2⟩
 |cond c a b iha ihb=>
  intro hL st kn e s kn' hk h
  obtain ⟨v,kn1,h1,h2,h3⟩:=zFR hk h
  simp only [zf,h1]
  cases v
  ·exact ihb (fun mk keep zAB b hm=>hL mk keep zAB b (by simp only [zz];exact List.mem_append_right _ hm)) h2 h3
  ·exact iha (fun mk keep zAB b hm=>hL mk keep zAB b (by simp only [zz];exact List.mem_append_left _ hm)) h2 h3
 |block id c ih=>
  intro hL st kn e s kn' hk h
  obtain ⟨⟨e1,s1,kn1⟩,h1,h2⟩:=Tr.bind_some h
  cases h2
  obtain ⟨g1,g2⟩:=ih (fun mk keep zAB b hm=>hL mk keep zAB b (by simpa only [zz] using hm)) hk h1
  exact ⟨by simp only [zf,g1,Option.map_some],g2⟩
 |loop mk keep zAB c ih=>
  intro hL st kn e s kn' hk h
  obtain ⟨⟨e1,s1⟩,h1,h2⟩:=Tr.bind_some h
  cases h2
  obtain ⟨s0,g1,rfl⟩:=hL mk keep zAB c (by simp [zz]) _ _ _ h1
  exact ⟨by simp only [zf,zHN,g1,Option.map_some],fun n b hn=>by cases hn⟩
 |exit id=>intro hL st kn e s kn' hk h;cases h;exact ⟨rfl,hk⟩
 |ret=>intro hL st kn e s kn' hk h;cases h;exact ⟨rfl,hk⟩
theorem zGJ:∀{l:List (Bool×List CV)} {st:St} {y:List (Bool×List CV)×St},(zJC st l).run=some y→zAB st l=some y
 | [],st,y,h=>by cases h;rfl
 |(g,cs)::r,st,y,h=>by
  obtain ⟨⟨ps,s1⟩,h1,h2⟩:=Tr.bind_some h
  obtain ⟨⟨l,s2⟩,h3,h4⟩:=Tr.bind_some h2
  cases h4
  simp only [zAB,(zAq h1).1,Option.bind_some,zGJ h3,Option.map_some]
theorem zGs {kf:KFun} {e:Ex} {st:St} {r:Res} (h:(zFX kf e st).run=some r):zCn kf e st=some r:=by
 unfold zFX at h
 unfold zCn
 split at h
 ·rename_i hc
  rw [if_pos hc]
  split at h
  ·rename_i l hl
   obtain ⟨⟨l',s⟩,h1,h2⟩:=Tr.bind_some h
   cases h2
   simp only [hl,Option.bind_some,zGJ h1,Option.map_some]
  ·cases h
 ·rename_i hc
  rw [if_neg hc]
  split at h
  ·rename_i hc2
   rw [if_pos hc2]
   split at h
   ·rename_i r' hr
    cases h
    exact hr
   ·cases h
  ·cases h
theorem zJ0 {kf:KFun} {args:List AV} {up:List Frame} {q r:Res} (h:(zKU kf args up q).run=some r):zGQ kf args up q=some r:=by
 unfold zKU at h
 unfold zGQ
 split at h
 ·rename_i hn
  rw [if_pos hn]
  split at h
  ·rcases Tr.ask_some h with ⟨hc,h⟩|⟨_,h⟩
   ·cases h
    simp only
    rw [if_pos hc]
   ·cases h
  ·cases h
 ·rename_i hn
  rw [if_neg hn]
  exact h
theorem zJ1 (hC:zET CT run) {kf:KFun} (hL:zHs LT run N kf.body) {args:List AV} {up:List Frame} {r:Res} (h:(zJy CT LT kf args up).run=some r):
  args.length=kf.params.length∧((zf run N kf.body ⟨zDg args 0,[],up⟩).bind fun (e,st)=>(zCn kf e st.low).bind (zGQ kf args up))=some r:=by
 unfold zJy at h
 split at h
 ·rename_i hl
  obtain ⟨⟨e,s,kn⟩,h1,h2⟩:=Tr.bind_some h
  obtain ⟨g1,_⟩:=zE9 (N:=N) hC kf.body hL (fun n b hn=>by cases hn) h1
  obtain ⟨q,h3,h4⟩:=Tr.bind_some h2
  exact ⟨hl,by rw [g1];simp only [Option.bind_some,zGs h3];exact zJ0 h4⟩
 ·cases h
end
theorem zHu {KP:FuncId→Option KFun} {lib:za} {n:Nat} {CT:zDP} {LT:zGF} {f:FuncId} {kf:KFun} (hf:KP f=some kf) (hC:zET CT (zBX KP lib n)) (hL:zHs LT (zBX KP lib n) n kf.body) {args:List AV} {up:List Frame} {r:Res}
  (h:(zJy CT LT kf args up).run=some r):zBX KP lib (n+1) f args up=some r:=by
 obtain ⟨h1,h2⟩:=zJ1 hC hL h
 simp only [zBX,hf]
 rw [if_pos h1]
 exact h2
end Go.Eng

