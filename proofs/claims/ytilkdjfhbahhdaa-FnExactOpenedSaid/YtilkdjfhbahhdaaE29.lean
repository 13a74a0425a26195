import Derived.Test.YtilkdjfhbahhdaaE28
set_option linter.unusedVariables false
set_option linter.unusedSimpArgs false
namespace Go.Eng
inductive Tr (α:Type):Type 1 where
 |done (x:α)
 |fail
 |ask (b:Bool) (t f:Tr α)
 |opt {β:Type} (o:Option β) (k:β→Tr α)
 |alt {β γ:Type} (x:β⊕γ) (k:β→Tr α) (l:γ→Tr α)
def Tr.run {α:Type}:Tr α→Option α
 | .done x=>some x
 | .fail=>none
 | .ask b t f=>bif b then t.run else f.run
 | .opt o k=>match o with
  |some x=>(k x).run
  |none=>none
 | .alt x k l=>match x with
  | .inl a=>(k a).run
  | .inr b=>(l b).run
def Tr.bind {α β:Type}:Tr α→(α→Tr β)→Tr β
 | .done x,f=>f x
 | .fail,_=> .fail
 | .ask b t e,f=> .ask b (t.bind f) (e.bind f)
 | .opt o k,f=> .opt o fun x=>(k x).bind f
 | .alt x k l,f=> .alt x (fun a=>(k a).bind f) (fun b=>(l b).bind f)
theorem Tr.run_bind {α β:Type}:∀(t:Tr α) (f:α→Tr β),(t.bind f).run=t.run.bind fun x=>(f x).run
 | .done x,f=>rfl
 | .fail,f=>rfl
 | .ask b t e,f=>by cases b<;>simp only [Tr.bind,Tr.run,cond]<;>exact run_bind _ f
 | .opt o k,f=>by
  simp only [Tr.bind,Tr.run]
  cases o with
  |none=>rfl
  |some x=>exact run_bind (k x) f
 | .alt x k l,f=>by
  simp only [Tr.bind,Tr.run]
  cases x with
  |inl a=>exact run_bind (k a) f
  |inr b=>exact run_bind (l b) f
theorem Tr.bind_some {α β:Type} {t:Tr α} {f:α→Tr β} {y:β} (h:(t.bind f).run=some y):∃x,t.run=some x∧(f x).run=some y:=by
 rw [run_bind] at h
 exact Option.bind_eq_some_iff.1 h
theorem Tr.ask_some {α:Type} {b:Bool} {t f:Tr α} {y:α} (h:(Tr.ask b t f).run=some y):(b=true∧t.run=some y)∨(b=false∧f.run=some y):=by
 cases b
 ·exact .inr ⟨rfl,h⟩
 ·exact .inl ⟨rfl,h⟩
theorem Tr.ask_yes {α:Type} {p:Prop} [Decidable p] {t:Tr α} {y:α} (h:(Tr.ask (decide p) t .fail).run=some y):p∧t.run=some y:=by
 rcases Tr.ask_some h with ⟨h1,h2⟩|⟨_,h2⟩
 ·exact ⟨of_decide_eq_true h1,h2⟩
 ·cases h2
theorem Tr.opt_some {α β:Type} {o:Option β} {k:β→Tr α} {y:α} (h:(Tr.opt o k).run=some y):∃x,o=some x∧(k x).run=some y:=by
 cases o with
 |none=>cases h
 |some x=>exact ⟨x,rfl,h⟩
def Tr.ofOpt {α:Type}:Option α→Tr α
 |some x=> .done x
 |none=> .fail
theorem Tr.ofOpt_some {α:Type} {o:Option α} {y:α} (h:(Tr.ofOpt o).run=some y):o=some y:=by
 cases o with
 |none=>cases h
 |some x=>cases h;rfl
abbrev Kn:=List (Nat×Bool)
def KnOK (kn:Kn) (st:St):Prop:=∀n b,look n kn=some b→look n st.t=some (.c (.p (.b b)))
def knX (kn:Kn):KX→Option Bool
 | .t n=>look n kn
 | .k (.c (.p (.b b)))=>some b
 | .k _=>none
def zE7 (kn:Kn):Option Nat→Option Bool→Kn
 |none,_=>kn
 |some d,some b=>(d,b)::kn.filter (fun p=>p.1 !=d)
 |some d,none=>kn.filter (fun p=>p.1 !=d)
theorem zBh (d n:Nat):∀(kn:Kn),look n (kn.filter (fun p=>p.1 !=d))=if n=d then none else look n kn
 | []=>by simp [look]
 |(m,b)::r=>by
  by_cases hm:m=d
  ·subst hm
   simp only [List.filter,bne_self_eq_false,look]
   rw [zBh m n r]
   by_cases hn:n=m
   ·simp [hn]
   ·simp [hn,Ne.symm hn]
  ·have:((m,b).1 !=d)=true:=by simpa using hm
   simp only [List.filter,this,look]
   rw [zBh d n r]
   by_cases hn:m=n
   ·subst hn;simp [hm]
   ·simp [hn]
theorem zEN {kn:Kn} {st:St} (h:KnOK kn st) {dst:Option Nat} {v:AV} {kb:Option Bool} (hv:∀b,kb=some b→v= .c (.p (.b b))):KnOK (zE7 kn dst kb) {st with t:=zAy st.t dst v}:=by
 intro n b hn
 cases dst with
 |none=>exact h n b hn
 |some d=>
  have key:look n (kn.filter (fun p=>p.1 !=d))=some b→look n (zAy st.t (some d) v)=some (.c (.p (.b b))):=fun hn=>by
   rw [zBh] at hn
   split at hn
   ·cases hn
   ·rename_i hne
    simp only [zAy,look]
    rw [if_neg (Ne.symm hne)]
    exact h n b hn
  cases kb with
  |none=>exact key hn
  |some b'=>
   simp only [zE7,look] at hn
   split at hn
   ·rename_i e
    cases hn
    simp [zAy,look,e,hv b rfl]
   ·exact key hn
theorem zFW {kn:Kn} {st:St} (h:KnOK kn st) {x:KX} {b:Bool} (hx:knX kn x=some b):st.eval x= .c (.p (.b b)):=by
 unfold knX at hx
 split at hx
 ·simp only [St.eval,h _ _ hx]
 ·cases hx;rfl
 ·cases hx
theorem KnOK.frame {kn:Kn} {st st':St} (h:KnOK kn st) (ht:st'.t=st.t):KnOK kn st':=fun n b hn=>by rw [ht];exact h n b hn
def zJd {α:Type} (st:St) (kn:Kn) (x:KX) (k:Bool→St→Kn→Tr α):Tr α:=
 match x with
 | .t n=>match look n kn with
  |some b=>k b st kn
  |none=>match look n st.t with
   |some (.c (.p (.b v)))=> .ask v (k true {st with t:=upd n (.c (.p (.b true))) st.t} ((n,true)::kn)) (k false {st with t:=upd n (.c (.p (.b false))) st.t} ((n,false)::kn))
   |_=> .fail
 | .k (.c (.p (.b b)))=>k b st kn
 | .k _=> .fail
theorem zEO {α:Type} {n:Nat} {x:α}:∀{l:List (Nat×α)},look n l=some x→upd n x l=l
 | [],h=>by cases h
 |(m,a)::r,h=>by
  simp only [look] at h
  simp only [upd]
  split at h
  ·rename_i e;cases h;rw [if_pos e]
  ·rename_i e;rw [if_neg e,zEO h]
theorem zFX {α:Type} {st:St} {kn:Kn} {x:KX} {k:Bool→St→Kn→Tr α} {y:α} (hk:KnOK kn st) (h:(zJd st kn x k).run=some y):∃v kn',st.eval x= .c (.p (.b v))∧KnOK kn' st∧(k v st kn').run=some y:=by
 unfold zJd at h
 split at h
 ·rename_i n
  split at h
  ·rename_i b hb
   exact ⟨b,kn,by simp [St.eval,hk n b hb],hk,h⟩
  ·split at h
   ·rename_i v hv
    have ok:∀b,v=b→KnOK ((n,b)::kn) st:=fun b hb m c hm=>by
     simp only [look] at hm
     split at hm
     ·rename_i e
      cases hm
      subst e
      rw [hv,hb]
     ·exact hk m c hm
    rcases Tr.ask_some h with ⟨rfl,h1⟩|⟨rfl,h1⟩
    ·rw [zEO hv] at h1
     exact ⟨true,(n,true)::kn,by simp [St.eval,hv],ok true rfl,h1⟩
    ·rw [zEO hv] at h1
     exact ⟨false,(n,false)::kn,by simp [St.eval,hv],ok false rfl,h1⟩
   ·cases h
 ·rename_i b
  exact ⟨b,kn,rfl,hk,h⟩
 ·cases h
def zW (e:List PV) (i:Nat):Option Bool:=match e[i]? with|some (.b x)=>some x|_=>none
def zE (k:IntKind) (e:List PV) (i:Nat):Option Int:=match e[i]? with|some (.i k' x)=>if k'=k then some x else none|_=>none
def zAl (e:List PV) (i:Nat):Option ByteArray:=match e[i]? with|some (.s x)=>some x|_=>none
def z0 (e:List PV) (i:Nat):Option (List (List PV)):=match e[i]? with|some (.ls x)=>some x|_=>none
def zC6 (e:List PV):Nat→List Nat→Tr (List CV)
 |_,[]=> .done []
 |o,k::r=>
  let rest:CV→Tr (List CV):=fun c=>(zC6 e (o+1) r).bind fun l=> .done (c::l)
  match k with
  |0=> .opt (zW e o) fun x=>rest (.p (.b x))
  |1=> .opt (zE .i64 e o) fun x=>rest (.p (.i .i64 x))
  |2=> .opt (zAl e o) fun x=>rest (.p (.s x))
  |3=> .opt (z0 e o) fun x=>rest (.p (.ls x))
  |6=> .opt (zE .u8 e o) fun x=>rest (.p (.i .u8 x))
  |_=> .fail
theorem zEP {e:List PV} {i:Nat} {x:Bool} (h:zW e i=some x):e[i]?=some (.b x):=by
 unfold zW at h;split at h
 ·cases h;assumption
 ·cases h
theorem zBQ {k:IntKind} {e:List PV} {i:Nat} {x:Int} (h:zE k e i=some x):e[i]?=some (.i k x):=by
 unfold zE at h;split at h
 ·split at h
  ·rename_i e;cases h;subst e;assumption
  ·cases h
 ·cases h
theorem zEQ {e:List PV} {i:Nat} {x:ByteArray} (h:zAl e i=some x):e[i]?=some (.s x):=by
 unfold zAl at h;split at h
 ·cases h;assumption
 ·cases h
theorem zBR {e:List PV} {i:Nat} {x:List (List PV)} (h:z0 e i=some x):e[i]?=some (.ls x):=by
 unfold z0 at h;split at h
 ·cases h;assumption
 ·cases h
theorem zC7 {e:List PV}:∀{ks:List Nat} {o:Nat} {cs:List CV},(zC6 e o ks).run=some cs→∃ps:List PV,cs=ps.map .p∧ps.length=ks.length∧∀j p,ps[j]?=some p→e[o+j]?=some p
 | [],o,cs,h=>by cases h;exact ⟨[],rfl,rfl,fun j p hp=>by simp at hp⟩
 |k::r,o,cs,h=>by
  have key:∀{q:PV},e[o]?=some q→((zC6 e (o+1) r).bind fun l=>Tr.done (CV.p q::l)).run=some cs→∃ps:List PV,cs=ps.map .p∧ps.length=(k::r).length∧∀j p,ps[j]?=some p→e[o+j]?=some p:=fun {q} hq h=>by
   obtain ⟨l,h1,h2⟩:=Tr.bind_some h
   cases h2
   obtain ⟨ps,rfl,h3,h4⟩:=zC7 h1
   refine ⟨q::ps,rfl,by simp [h3],fun j p hp=>?_⟩
   cases j with
   |zero=>cases hp;exact hq
   |succ j=>rw [←h4 j p (by simpa using hp)];congr 1;omega
  simp only [zC6] at h
  split at h
  ·obtain ⟨x,h1,h2⟩:=Tr.opt_some h;exact key (zEP h1) h2
  ·obtain ⟨x,h1,h2⟩:=Tr.opt_some h;exact key (zBQ h1) h2
  ·obtain ⟨x,h1,h2⟩:=Tr.opt_some h;exact key (zEQ h1) h2
  ·obtain ⟨x,h1,h2⟩:=Tr.opt_some h;exact key (zBR h1) h2
  ·obtain ⟨x,h1,h2⟩:=Tr.opt_some h;exact key (zBQ h1) h2
  ·cases h
theorem zCK {e ps:List PV} {o:Nat} (hn:0<ps.length) (h:∀j p,ps[j]?=some p→e[o+j]?=some p):o+ps.length≤e.length∧(e.drop o).take ps.length=ps:=by
 have hl:o+ps.length≤e.length:=by
  have:=h (ps.length-1) _ (zb (by omega))
  have:=(List.getElem?_eq_some_iff.1 this).1
  omega
 refine ⟨hl,List.ext_getElem? fun j=>?_⟩
 by_cases hj:j<ps.length
 ·rw [List.getElem?_take_of_lt hj,List.getElem?_drop,h j _ (zb hj),zb hj]
 ·rw [List.getElem?_eq_none (by simp;omega),List.getElem?_eq_none (by omega)]
def zGP (d m g j:Nat) (cols:List (Nat×Nat×TypeId)) (e:List PV):Nat→List Nat→Tr (List CV)
 |_,[]=> .done []
 |o,k::r=>
  let rest:CV→Tr (List CV):=fun c=>(zGP d m g j cols e (o+1) r).bind fun l=> .done (c::l)
  match look o cols with
  |some q=> .opt (z0 e o) fun x=>rest (.sub d m g j o x.length q.1)
  |none=>match k with
   |0=> .opt (zW e o) fun x=>rest (.p (.b x))
   |1=> .opt (zE .i64 e o) fun x=>rest (.p (.i .i64 x))
   |2=> .opt (zAl e o) fun x=>rest (.p (.s x))
   |3=> .opt (z0 e o) fun x=>rest (.p (.ls x))
   |6=> .opt (zE .u8 e o) fun x=>rest (.p (.i .u8 x))
   |_=> .fail
theorem zGQ {d m g j:Nat} {cols:List (Nat×Nat×TypeId)} {e:List PV}:∀{ks:List Nat} {o:Nat} {cs:List CV},(zGP d m g j cols e o ks).run=some cs→∃ps:List PV,cs=zAB d m g j cols o ps∧ps.length=ks.length∧∀j p,ps[j]?=some p→e[o+j]?=some p
 | [],o,cs,h=>by cases h;exact ⟨[],rfl,rfl,fun j p hp=>by simp at hp⟩
 |k::r,o,cs,h=>by
  have key:∀{q:PV} {c:CV},e[o]?=some q→(match look o cols with|some t=>CV.sub d m g j o (zKn q) t.1|none=> .p q)=c→((zGP d m g j cols e (o+1) r).bind fun l=>Tr.done (c::l)).run=some cs→∃ps:List PV,cs=zAB d m g j cols o ps∧ps.length=(k::r).length∧∀j p,ps[j]?=some p→e[o+j]?=some p:=fun {q c} hq hc h=>by
   obtain ⟨l,h1,h2⟩:=Tr.bind_some h
   cases h2
   obtain ⟨ps,rfl,h3,h4⟩:=zGQ h1
   refine ⟨q::ps,?_,by simp [h3],fun j p hp=>?_⟩
   ·simp only [zAB]
    rw [←hc]
    cases look o cols<;>rfl
   ·cases j with
    |zero=>cases hp;exact hq
    |succ j=>rw [←h4 j p (by simpa using hp)];congr 1;omega
  simp only [zGP] at h
  split at h
  ·rename_i t ht
   obtain ⟨x,h1,h2⟩:=Tr.opt_some h
   exact key (zBR h1) (by rw [ht];rfl) h2
  ·rename_i ht
   split at h
   ·obtain ⟨x,h1,h2⟩:=Tr.opt_some h;exact key (zEP h1) (by rw [ht]) h2
   ·obtain ⟨x,h1,h2⟩:=Tr.opt_some h;exact key (zBQ h1) (by rw [ht]) h2
   ·obtain ⟨x,h1,h2⟩:=Tr.opt_some h;exact key (zEQ h1) (by rw [ht]) h2
   ·obtain ⟨x,h1,h2⟩:=Tr.opt_some h;exact key (zBR h1) (by rw [ht]) h2
   ·obtain ⟨x,h1,h2⟩:=Tr.opt_some h;exact key (zBQ h1) (by rw [ht]) h2
   ·cases h
def zCj (st:St):CV→Tr (PV×St)
 | .p x=> .done (x.weak,st)
 | .own d n g m=>match st.get d n with
  |some ⟨g',sz,ty,.row rows⟩=>if g=g' then .ask (decide (m=rows.length)) (.done (.ls rows,st.set d n ⟨g+1,sz,ty,.dead⟩)) .fail else .fail
  |_=> .fail
 |_=> .fail
def zBH (st:St):List CV→Tr (List PV×St)
 | []=> .done ([],st)
 |x::r=>(zCj st x).bind fun (a,st)=>(zBH st r).bind fun (b,st)=> .done (a::b,st)
theorem zDR {st:St} {c:CV} {y:PV×St} (h:(zCj st c).run=some y):zAH st c=some y∧y.2.t=st.t:=by
 unfold zCj at h
 unfold zAH
 split at h
 ·cases h;exact ⟨rfl,rfl⟩
 ·split at h
  ·rename_i g' sz ty rows hB
   split at h
   ·rename_i hg
    obtain ⟨hm,h⟩:=Tr.ask_yes h
    cases h
    simp only [hB]
    rw [if_pos ⟨hg,hm⟩]
    refine ⟨rfl,?_⟩
    unfold St.set
    split<;>rfl
   ·cases h
  ·cases h
 ·cases h
theorem zAh:∀{l:List CV} {st:St} {y:List PV×St},(zBH st l).run=some y→zq st l=some y∧y.2.t=st.t
 | [],st,y,h=>by cases h;exact ⟨rfl,rfl⟩
 |x::r,st,y,h=>by
  obtain ⟨⟨a,st1⟩,h1,h2⟩:=Tr.bind_some h
  obtain ⟨⟨b,st2⟩,h3,h4⟩:=Tr.bind_some h2
  cases h4
  obtain ⟨e1,t1⟩:=zDR h1
  obtain ⟨e2,t2⟩:=zAh h3
  simp only [zq,e1,zG,e2]
  exact ⟨by first|rfl|trivial,t2.trans t1⟩
def zG3 (st:St):CV→Tr (PV×Bool)
 | .p x=> .done (x.weak,false)
 | .own d n g m=>match st.get d n with
  |some ⟨g',_,_,.row rows⟩=>if g=g' then .ask (decide (m=rows.length)) (.done (.ls rows,true)) .fail else .fail
  |_=> .fail
 |_=> .fail
def zFY (st:St):List CV→Tr (List PV×Bool)
 | []=> .done ([],false)
 |x::r=>(zG3 st x).bind fun (a,p)=>(zFY st r).bind fun (b,q)=> .done (a::b,p||q)
def zER (st:St):Cap→Tr (Cap×Bool)
 | .ptr d n g=>match st.get d n with
  |some ⟨g',_,_,.box cells⟩=>if g=g' then (zFY st cells).bind fun (r,p)=> .done (.rp r,p) else .fail
  |_=> .fail
 |c=> .done (c,false)
def zC8 (st:St):List Cap→Tr (List Cap×Bool)
 | []=> .done ([],false)
 |x::r=>(zER st x).bind fun (a,p)=>(zC8 st r).bind fun (b,q)=> .done (a::b,p||q)
theorem zIN {st:St} {c:CV} {y:PV×Bool} (h:(zG3 st c).run=some y):zDB st c=some y:=by
 cases c with
 |own d n g m=>
  simp only [zG3] at h
  simp only [zDB]
  split at h
  ·rename_i g' sz ty rows hB
   split at h
   ·rename_i hg
    obtain ⟨hm,h⟩:=Tr.ask_yes h
    cases h
    simp only [hB]
    rw [if_pos ⟨hg,hm⟩]
   ·cases h
  ·cases h
 |p x=>cases h;rfl
 |_=>cases h
theorem zES:∀{l:List CV} {st:St} {y:List PV×Bool},(zFY st l).run=some y→zA8 st l=some y
 | [],st,y,h=>by cases h;rfl
 |x::r,st,y,h=>by
  obtain ⟨⟨a,p⟩,h1,h2⟩:=Tr.bind_some h
  obtain ⟨⟨b,q⟩,h3,h4⟩:=Tr.bind_some h2
  cases h4
  simp only [zA8,zIN h1,zG,zES h3]
theorem zGR {st:St} {c:Cap} {y:Cap×Bool} (h:(zER st c).run=some y):zAz st c=some y:=by
 cases c with
 |ptr d n g=>
  simp only [zER] at h
  simp only [zAz]
  split at h
  ·rename_i g' sz ty cells hB
   split at h
   ·rename_i hg
    obtain ⟨⟨a,p⟩,h1,h2⟩:=Tr.bind_some h
    cases h2
    simp only [hB]
    rw [if_pos hg,zES h1]
    rfl
   ·cases h
  ·cases h
 |_=>cases h;rfl
theorem zCk:∀{l:List Cap} {st:St} {y:List Cap×Bool},(zC8 st l).run=some y→zAK st l=some y
 | [],st,y,h=>by cases h;rfl
 |x::r,st,y,h=>by
  obtain ⟨⟨a,p⟩,h1,h2⟩:=Tr.bind_some h
  obtain ⟨⟨b,q⟩,h3,h4⟩:=Tr.bind_some h2
  cases h4
  simp only [zAK,zGR h1,zG,zCk h3]
def zKU (st:St) (d n g j o m esz:Nat):Tr (TypeId×List (List PV)):=match st.get d n with
 |some ⟨g',sz,_,.deep cols rows⟩=>match look o cols with
  |some (esz',ety)=>if g=g'∧esz'=esz∧o<sz then .opt (rows[j]?) fun e=> .opt (z0 e o) fun inner=> .ask (decide (m=inner.length)) (.done (ety,inner)) .fail else .fail
  |none=> .fail
 |_=> .fail
theorem zHm {st:St} {d n g j o m esz:Nat} {q:TypeId×List (List PV)} (h:(zKU st d n g j o m esz).run=some q):st.subB d n g j o m esz=some q:=by
 unfold zKU at h
 unfold St.subB
 split at h
 ·rename_i g' sz ty cols rows hB
  rw [hB]
  simp only
  split at h
  ·rename_i esz' ety hl
   rw [hl]
   split at h
   ·rename_i hc
    obtain ⟨e,he,h⟩:=Tr.opt_some h
    obtain ⟨inner,hi,h⟩:=Tr.opt_some h
    obtain ⟨hm,h⟩:=Tr.ask_yes h
    cases h
    rw [he]
    simp only
    rw [zBR hi]
    simp only
    rw [if_pos ⟨hc.1,hc.2.1,hm,hc.2.2⟩]
   ·cases h
  ·cases h
 ·cases h
def zCL (st:St):CV→Tr (CV×Bool)
 | .own d n g m=>match st.get d n with
  |some ⟨g',_,_,.row rows⟩|some ⟨g',_,_,.deep _ rows⟩=>if g=g' then .ask (decide (m=rows.length)) (.done (.p (.ls rows),true)) .fail else .fail
  |_=> .fail
 | .sub d n g j o m esz=>(zKU st d n g j o m esz).bind fun q=> .done (.p (.ls q.2),true)
 | .p x=> .done (.p x.weak,false)
 | .fn f caps=>(zC8 st caps).bind fun (l,p)=> .done (.fn f l,p)
 |x=>if x.pure then .done (x,false) else .fail
def zG4 (st:St):List CV→Tr (List CV×Bool)
 | []=> .done ([],false)
 |x::r=>(zCL st x).bind fun (a,p)=>(zG4 st r).bind fun (b,q)=> .done (a::b,p||q)
def zJe (st:St):AV→Tr (AV×Bool)
 | .c x=>(zCL st x).bind fun (a,p)=> .done (.c a,p)
 | .agg cs=>(zG4 st cs).bind fun (a,p)=> .done (.agg a,p)
 | .tup _=> .fail
def zFZ (st:St):List AV→Tr (List AV×Bool)
 | []=> .done ([],false)
 |x::r=>(zJe st x).bind fun (a,p)=>(zFZ st r).bind fun (b,q)=> .done (a::b,p||q)
theorem zE8 {st:St} {c:CV} {y:CV×Bool} (h:(zCL st c).run=some y):zAo st c=some y:=by
 cases c with
 |own d n g m=>
  simp only [zCL] at h
  simp only [zAo]
  split at h
  ·rename_i g' sz ty rows hB
   split at h
   ·rename_i hg
    obtain ⟨hm,h⟩:=Tr.ask_yes h
    cases h
    simp only [hB]
    rw [if_pos ⟨hg,hm⟩]
   ·cases h
  ·rename_i g' sz ty cols rows hB
   split at h
   ·rename_i hg
    obtain ⟨hm,h⟩:=Tr.ask_yes h
    cases h
    simp only [hB]
    rw [if_pos ⟨hg,hm⟩]
   ·cases h
  ·cases h
 |sub d n g j o m esz=>
  simp only [zCL] at h
  obtain ⟨q,h1,h2⟩:=Tr.bind_some h
  cases h2
  simp only [zAo,zHm h1,Option.map_some]
 |p x=>cases h;rfl
 |fn f caps=>
  simp only [zCL] at h
  obtain ⟨⟨l,p⟩,h1,h2⟩:=Tr.bind_some h
  cases h2
  simp only [zAo,zCk h1,Option.map_some]
 |_=>
  simp only [zCL] at h
  simp only [zAo]
  split at h
  ·rename_i hp
   cases h
   rw [if_pos hp]
  ·cases h
theorem zE9:∀{l:List CV} {st:St} {y:List CV×Bool},(zG4 st l).run=some y→zBy st l=some y
 | [],st,y,h=>by cases h;rfl
 |x::r,st,y,h=>by
  obtain ⟨⟨a,p⟩,h1,h2⟩:=Tr.bind_some h
  obtain ⟨⟨b,q⟩,h3,h4⟩:=Tr.bind_some h2
  cases h4
  simp only [zBy,zE8 h1,zG,zE9 h3]
theorem zIO {st:St} {a:AV} {y:AV×Bool} (h:(zJe st a).run=some y):zBS st a=some y:=by
 cases a with
 |c x=>
  obtain ⟨⟨a,p⟩,h1,h2⟩:=Tr.bind_some h
  cases h2
  simp only [zBS,zE8 h1,Option.map_some]
 |agg cs=>
  obtain ⟨⟨a,p⟩,h1,h2⟩:=Tr.bind_some h
  cases h2
  simp only [zBS,zE9 h1,Option.map_some]
 |tup vs=>cases h
theorem zET:∀{l:List AV} {st:St} {y:List AV×Bool},(zFZ st l).run=some y→zA9 st l=some y
 | [],st,y,h=>by cases h;rfl
 |x::r,st,y,h=>by
  obtain ⟨⟨a,p⟩,h1,h2⟩:=Tr.bind_some h
  obtain ⟨⟨b,q⟩,h3,h4⟩:=Tr.bind_some h2
  cases h4
  simp only [zA9,zIO h1,zG,zET h3]
def zHn (st:St):AV→Tr (List (List PV))
 | .c (.p .nl)=> .done []
 | .c (.p (.ls rows))=> .done rows
 | .c (.own d n g m)=>match st.get d n with
  |some ⟨g',_,_,.row rows⟩=>if g=g' then .ask (decide (m=rows.length)) (.done rows) .fail else .fail
  |_=> .fail
 |_=> .fail
theorem zGS {st:St} {a:AV} {y:List (List PV)} (h:(zHn st a).run=some y):st.rows a=some y:=by
 unfold zHn at h
 unfold St.rows
 split at h
 ·cases h;rfl
 ·cases h;rfl
 ·split at h
  ·rename_i g' sz ty rows hB
   split at h
   ·rename_i hg
    obtain ⟨hm,h⟩:=Tr.ask_yes h
    cases h
    simp only [hB]
    rw [if_pos ⟨hg,hm⟩]
   ·cases h
  ·cases h
 ·cases h
end Go.Eng

