import Derived.Test.YtdkoeegcpbaojaaGreatDoorE28
set_option linter.unusedVariables false
set_option linter.unusedSimpArgs false
namespace Go.Eng
inductive Tr (α:Type):Type 1 where
 |done (x:α)
 |fail
 |ask (b:Bool) (t f:Tr α)
 |opt {β:Type} (o:Option β) (k:β→Tr α)
 |alt {β γ:Type} (x:β⊕γ) (k:β→Tr α) (l:γ→Tr α)
def Tr.run {α:Type}:Tr α→Option α
 | .done x=>some x
 | .fail=>none
 | .ask b t f=>bif b then t.run else f.run
 | .opt o k=>match o with
  |some x=>(k x).run
  |none=>none
 | .alt x k l=>match x with
  | .inl a=>(k a).run
  | .inr b=>(l b).run
def Tr.bind {α β:Type}:Tr α→(α→Tr β)→Tr β
 | .done x,f=>f x
 | .fail,_=> .fail
 | .ask b t e,f=> .ask b (t.bind f) (e.bind f)
 | .opt o k,f=> .opt o fun x=>(k x).bind f
 | .alt x k l,f=> .alt x (fun a=>(k a).bind f) (fun b=>(l b).bind f)
theorem Tr.run_bind {α β:Type}:∀(t:Tr α) (f:α→Tr β),(t.bind f).run=t.run.bind fun x=>(f x).run
 | .done x,f=>rfl
 | .fail,f=>rfl
 | .ask b t e,f=>by cases b<;>simp only [Tr.bind,Tr.run,cond]<;>exact run_bind _ f
 | .opt o k,f=>by
  simp only [Tr.bind,Tr.run]
  cases o with
  |none=>rfl
  |some x=>exact run_bind (k x) f
 | .alt x k l,f=>by
  simp only [Tr.bind,Tr.run]
  cases x with
  |inl a=>exact run_bind (k a) f
  |inr b=>exact run_bind (l b) f
theorem Tr.bind_some {α β:Type} {t:Tr α} {f:α→Tr β} {y:β} (h:(t.bind f).run=some y):∃x,t.run=some x∧(f x).run=some y:=by
 rw [run_bind] at h
 exact Option.bind_eq_some_iff.1 h
theorem Tr.ask_some {α:Type} {b:Bool} {t f:Tr α} {y:α} (h:(Tr.ask b t f).run=some y):(b=true∧t.run=some y)∨(b=false∧f.run=some y):=by
 cases b
 ·exact .inr ⟨rfl,h⟩
 ·exact .inl ⟨rfl,h⟩
theorem Tr.ask_yes {α:Type} {p:Prop} [Decidable p] {t:Tr α} {y:α} (h:(Tr.ask (decide p) t .fail).run=some y):p∧t.run=some y:=by
 rcases Tr.ask_some h with ⟨h1,h2⟩|⟨_,h2⟩
 ·exact ⟨of_decide_eq_true h1,h2⟩
 ·cases h2
theorem Tr.opt_some {α β:Type} {o:Option β} {k:β→Tr α} {y:α} (h:(Tr.opt o k).run=some y):∃x,o=some x∧(k x).run=some y:=by
 cases o with
 |none=>cases h
 |some x=>exact ⟨x,rfl,h⟩
abbrev Kn:=List (Nat×Bool)
def KnOK (kn:Kn) (st:St):Prop:=∀n b,zF n kn=some b→zF n st.t=some (.c (.p (.b b)))
def knX (kn:Kn):KX→Option Bool
 | .t n=>zF n kn
 | .k (.c (.p (.b b)))=>some b
 | .k _=>none
def zFO (kn:Kn):Option Nat→Option Bool→Kn
 |none,_=>kn
 |some d,some b=>(d,b)::kn.filter (fun p=>p.1 !=d)
 |some d,none=>kn.filter (fun p=>p.1 !=d)
theorem zB6 (d n:Nat):∀(kn:Kn),zF n (kn.filter (fun p=>p.1 !=d))=if n=d then none else zF n kn
 | []=>by simp [zF]
 |(m,b)::r=>by
  by_cases hm:m=d
  ·subst hm
   simp only [List.filter,bne_self_eq_false,zF]
   rw [zB6 m n r]
   by_cases hn:n=m
   ·simp [hn]
   ·simp [hn,Ne.symm hn]
  ·have:((m,b).1 !=d)=true:=by simpa using hm
   simp only [List.filter,this,zF]
   rw [zB6 d n r]
   by_cases hn:m=n
   ·subst hn;simp [hm]
   ·simp [hn]
theorem zEY {kn:Kn} {st:St} (h:KnOK kn st) {dst:Option Nat} {v:AV} {kb:Option Bool} (hv:∀b,kb=some b→v= .c (.p (.b b))):KnOK (zFO kn dst kb) {st with t:=zBL st.t dst v}:=by
 intro n b hn
 cases dst with
 |none=>exact h n b hn
 |some d=>
  have key:zF n (kn.filter (fun p=>p.1 !=d))=some b→zF n (zBL st.t (some d) v)=some (.c (.p (.b b))):=fun hn=>by
   rw [zB6] at hn
   split at hn
   ·cases hn
   ·rename_i hne
    simp only [zBL,zF]
    rw [if_neg (Ne.symm hne)]
    exact h n b hn
  cases kb with
  |none=>exact key hn
  |some b'=>
   simp only [zFO,zF] at hn
   split at hn
   ·rename_i e
    cases hn
    simp [zBL,zF,e,hv b rfl]
   ·exact key hn
theorem zFl {kn:Kn} {st:St} (h:KnOK kn st) {x:KX} {b:Bool} (hx:knX kn x=some b):st.eval x= .c (.p (.b b)):=by
 unfold knX at hx
 split at hx
 ·simp only [St.eval,h _ _ hx]
 ·cases hx;rfl
 ·cases hx
theorem KnOK.frame {kn:Kn} {st st':St} (h:KnOK kn st) (ht:st'.t=st.t):KnOK kn st':=fun n b hn=>by rw [ht];exact h n b hn
def zJc {α:Type} (st:St) (kn:Kn) (x:KX) (k:Bool→St→Kn→Tr α):Tr α:=
 match x with
 | .t n=>match zF n kn with
  |some b=>k b st kn
  |none=>match zF n st.t with
   |some (.c (.p (.b v)))=> .ask v (k true {st with t:=upd n (.c (.p (.b true))) st.t} ((n,true)::kn)) (k false {st with t:=upd n (.c (.p (.b false))) st.t} ((n,false)::kn))
   |_=> .fail
 | .k (.c (.p (.b b)))=>k b st kn
 | .k _=> .fail
theorem zEZ {α:Type} {n:Nat} {x:α}:∀{l:List (Nat×α)},zF n l=some x→upd n x l=l
 | [],h=>by cases h
 |(m,a)::r,h=>by
  simp only [zF] at h
  simp only [upd]
  split at h
  ·rename_i e;cases h;rw [if_pos e]
  ·rename_i e;rw [if_neg e,zEZ h]
theorem zFm {α:Type} {st:St} {kn:Kn} {x:KX} {k:Bool→St→Kn→Tr α} {y:α} (hk:KnOK kn st) (h:(zJc st kn x k).run=some y):∃v kn',st.eval x= .c (.p (.b v))∧KnOK kn' st∧(k v st kn').run=some y:=by
 unfold zJc at h
 split at h
 ·rename_i n
  split at h
  ·rename_i b hb
   exact ⟨b,kn,by simp [St.eval,hk n b hb],hk,h⟩
  ·split at h
   ·rename_i v hv
    have ok:∀b,v=b→KnOK ((n,b)::kn) st:=fun b hb m c hm=>by
     simp only [zF] at hm
     split at hm
     ·rename_i e
      cases hm
      subst e
      rw [hv,hb]
     ·exact hk m c hm
    rcases Tr.ask_some h with ⟨rfl,h1⟩|⟨rfl,h1⟩
    ·rw [zEZ hv] at h1
     exact ⟨true,(n,true)::kn,by simp [St.eval,hv],ok true rfl,h1⟩
    ·rw [zEZ hv] at h1
     exact ⟨false,(n,false)::kn,by simp [St.eval,hv],ok false rfl,h1⟩
   ·cases h
 ·rename_i b
  exact ⟨b,kn,rfl,hk,h⟩
 ·cases h
def zAZ (e:List PV) (i:Nat):Option Bool:=match e[i]? with|some (.b x)=>some x|_=>none
def zD (k:IntKind) (e:List PV) (i:Nat):Option Int:=match e[i]? with|some (.i k' x)=>if k'=k then some x else none|_=>none
def zT (e:List PV) (i:Nat):Option ByteArray:=match e[i]? with|some (.s x)=>some x|_=>none
def zg (e:List PV) (i:Nat):Option (List (List PV)):=match e[i]? with|some (.ls x)=>some x|_=>none
def zDH (e:List PV):Nat→List Nat→Tr (List CV)
 |_,[]=> .done []
 |o,k::r=>
  let rest:CV→Tr (List CV):=fun c=>(zDH e (o+1) r).bind fun l=> .done (c::l)
  match k with
  |0=> .opt (zAZ e o) fun x=>rest (.p (.b x))
  |1=> .opt (zD .i64 e o) fun x=>rest (.p (.i .i64 x))
  |2=> .opt (zT e o) fun x=>rest (.p (.s x))
  |3=> .opt (zg e o) fun x=>rest (.p (.ls x))
  |6=> .opt (zD .u8 e o) fun x=>rest (.p (.i .u8 x))
  |_=> .fail
theorem zG8 {e:List PV} {i:Nat} {x:Bool} (h:zAZ e i=some x):e[i]?=some (.b x):=by
 unfold zAZ at h;split at h
 ·cases h;assumption
 ·cases h
theorem zEa {k:IntKind} {e:List PV} {i:Nat} {x:Int} (h:zD k e i=some x):e[i]?=some (.i k x):=by
 unfold zD at h;split at h
 ·split at h
  ·rename_i e;cases h;subst e;assumption
  ·cases h
 ·cases h
theorem zG9 {e:List PV} {i:Nat} {x:ByteArray} (h:zT e i=some x):e[i]?=some (.s x):=by
 unfold zT at h;split at h
 ·cases h;assumption
 ·cases h
theorem zHA {e:List PV} {i:Nat} {x:List (List PV)} (h:zg e i=some x):e[i]?=some (.ls x):=by
 unfold zg at h;split at h
 ·cases h;assumption
 ·cases h
theorem zDI {e:List PV}:∀{ks:List Nat} {o:Nat} {cs:List CV},(zDH e o ks).run=some cs→∃ps:List PV,cs=ps.map .p∧ps.length=ks.length∧∀j p,ps[j]?=some p→e[o+j]?=some p
 | [],o,cs,h=>by cases h;exact ⟨[],rfl,rfl,fun j p hp=>by simp at hp⟩
 |k::r,o,cs,h=>by
  have key:∀{q:PV},e[o]?=some q→((zDH e (o+1) r).bind fun l=>Tr.done (CV.p q::l)).run=some cs→∃ps:List PV,cs=ps.map .p∧ps.length=(k::r).length∧∀j p,ps[j]?=some p→e[o+j]?=some p:=fun {q} hq h=>by
   obtain ⟨l,h1,h2⟩:=Tr.bind_some h
   cases h2
   obtain ⟨ps,rfl,h3,h4⟩:=zDI h1
   refine ⟨q::ps,rfl,by simp [h3],fun j p hp=>?_⟩
   cases j with
   |zero=>cases hp;exact hq
   |succ j=>rw [←h4 j p (by simpa using hp)];congr 1;omega
  simp only [zDH] at h
  split at h
  ·obtain ⟨x,h1,h2⟩:=Tr.opt_some h;exact key (zG8 h1) h2
  ·obtain ⟨x,h1,h2⟩:=Tr.opt_some h;exact key (zEa h1) h2
  ·obtain ⟨x,h1,h2⟩:=Tr.opt_some h;exact key (zG9 h1) h2
  ·obtain ⟨x,h1,h2⟩:=Tr.opt_some h;exact key (zHA h1) h2
  ·obtain ⟨x,h1,h2⟩:=Tr.opt_some h;exact key (zEa h1) h2
  ·cases h
theorem zEb {e ps:List PV} {o:Nat} (hn:0<ps.length) (h:∀j p,ps[j]?=some p→e[o+j]?=some p):o+ps.length≤e.length∧(e.drop o).take ps.length=ps:=by
 have hl:o+ps.length≤e.length:=by
  have:=h (ps.length-1) _ (List.getElem?_eq_getElem (by omega))
  have:=(List.getElem?_eq_some_iff.1 this).1
  omega
 refine ⟨hl,List.ext_getElem? fun j=>?_⟩
 by_cases hj:j<ps.length
 ·rw [List.getElem?_take_of_lt hj,List.getElem?_drop,h j _ (List.getElem?_eq_getElem hj),List.getElem?_eq_getElem hj]
 ·rw [List.getElem?_eq_none (by simp;omega),List.getElem?_eq_none (by omega)]
def zCx (st:St):CV→Tr (PV×St)
 | .p x=> .done (x.weak,st)
 | .own d n g m=>match st.get d n with
  |some ⟨g',sz,ty,.row rows⟩=>if g=g' then .ask (decide (m=rows.length)) (.done (.ls rows,st.set d n ⟨g+1,sz,ty,.dead⟩)) .fail else .fail
  |_=> .fail
 |_=> .fail
def zBe (st:St):List CV→Tr (List PV×St)
 | []=> .done ([],st)
 |x::r=>(zCx st x).bind fun (a,st)=>(zBe st r).bind fun (b,st)=> .done (a::b,st)
theorem zDg {st:St} {c:CV} {y:PV×St} (h:(zCx st c).run=some y):zAb st c=some y∧y.2.t=st.t:=by
 unfold zCx at h
 unfold zAb
 split at h
 ·cases h;exact ⟨rfl,rfl⟩
 ·split at h
  ·rename_i g' sz ty rows hB
   split at h
   ·rename_i hg
    obtain ⟨hm,h⟩:=Tr.ask_yes h
    cases h
    simp only [hB]
    rw [if_pos ⟨hg,hm⟩]
    refine ⟨rfl,?_⟩
    unfold St.set
    split<;>rfl
   ·cases h
  ·cases h
 ·cases h
theorem zA6:∀{l:List CV} {st:St} {y:List PV×St},(zBe st l).run=some y→zq st l=some y∧y.2.t=st.t
 | [],st,y,h=>by cases h;exact ⟨rfl,rfl⟩
 |x::r,st,y,h=>by
  obtain ⟨⟨a,st1⟩,h1,h2⟩:=Tr.bind_some h
  obtain ⟨⟨b,st2⟩,h3,h4⟩:=Tr.bind_some h2
  cases h4
  obtain ⟨e1,t1⟩:=zDg h1
  obtain ⟨e2,t2⟩:=zA6 h3
  simp only [zq,e1,Option.bind_some,e2]
  exact ⟨by first|rfl|trivial,t2.trans t1⟩
def zHB (st:St):CV→Tr (PV×Bool)
 | .p x=> .done (x.weak,false)
 | .own d n g m=>match st.get d n with
  |some ⟨g',_,_,.row rows⟩=>if g=g' then .ask (decide (m=rows.length)) (.done (.ls rows,true)) .fail else .fail
  |_=> .fail
 |_=> .fail
def zFn (st:St):List CV→Tr (List PV×Bool)
 | []=> .done ([],false)
 |x::r=>(zHB st x).bind fun (a,p)=>(zFn st r).bind fun (b,q)=> .done (a::b,p||q)
def zEc (st:St):Cap→Tr (Cap×Bool)
 | .ptr d n g=>match st.get d n with
  |some ⟨g',_,_,.box cells⟩=>if g=g' then (zFn st cells).bind fun (r,p)=> .done (.rp r,p) else .fail
  |_=> .fail
 |c=> .done (c,false)
def zDJ (st:St):List Cap→Tr (List Cap×Bool)
 | []=> .done ([],false)
 |x::r=>(zEc st x).bind fun (a,p)=>(zDJ st r).bind fun (b,q)=> .done (a::b,p||q)
theorem zIH {st:St} {c:CV} {y:PV×Bool} (h:(zHB st c).run=some y):zDM st c=some y:=by
 cases c with
 |own d n g m=>
  simp only [zHB] at h
  simp only [zDM]
  split at h
  ·rename_i g' sz ty rows hB
   split at h
   ·rename_i hg
    obtain ⟨hm,h⟩:=Tr.ask_yes h
    cases h
    simp only [hB]
    rw [if_pos ⟨hg,hm⟩]
   ·cases h
  ·cases h
 |p x=>cases h;rfl
 |_=>cases h
theorem zEd:∀{l:List CV} {st:St} {y:List PV×Bool},(zFn st l).run=some y→zBV st l=some y
 | [],st,y,h=>by cases h;rfl
 |x::r,st,y,h=>by
  obtain ⟨⟨a,p⟩,h1,h2⟩:=Tr.bind_some h
  obtain ⟨⟨b,q⟩,h3,h4⟩:=Tr.bind_some h2
  cases h4
  simp only [zBV,zIH h1,Option.bind_some,zEd h3]
theorem zGZ {st:St} {c:Cap} {y:Cap×Bool} (h:(zEc st c).run=some y):zBO st c=some y:=by
 cases c with
 |ptr d n g=>
  simp only [zEc] at h
  simp only [zBO]
  split at h
  ·rename_i g' sz ty cells hB
   split at h
   ·rename_i hg
    obtain ⟨⟨a,p⟩,h1,h2⟩:=Tr.bind_some h
    cases h2
    simp only [hB]
    rw [if_pos hg,zEd h1]
    rfl
   ·cases h
  ·cases h
 |_=>cases h;rfl
theorem zCy:∀{l:List Cap} {st:St} {y:List Cap×Bool},(zDJ st l).run=some y→zAi st l=some y
 | [],st,y,h=>by cases h;rfl
 |x::r,st,y,h=>by
  obtain ⟨⟨a,p⟩,h1,h2⟩:=Tr.bind_some h
  obtain ⟨⟨b,q⟩,h3,h4⟩:=Tr.bind_some h2
  cases h4
  simp only [zAi,zGZ h1,Option.bind_some,zCy h3]
def zDK (st:St):CV→Tr (CV×Bool)
 | .own d n g m=>match st.get d n with
  |some ⟨g',_,_,.row rows⟩=>if g=g' then .ask (decide (m=rows.length)) (.done (.p (.ls rows),true)) .fail else .fail
  |_=> .fail
 | .p x=> .done (.p x.weak,false)
 | .fn f caps=>(zDJ st caps).bind fun (l,p)=> .done (.fn f l,p)
 |x=>if x.pure then .done (x,false) else .fail
def zHC (st:St):List CV→Tr (List CV×Bool)
 | []=> .done ([],false)
 |x::r=>(zDK st x).bind fun (a,p)=>(zHC st r).bind fun (b,q)=> .done (a::b,p||q)
def zJd (st:St):AV→Tr (AV×Bool)
 | .c x=>(zDK st x).bind fun (a,p)=> .done (.c a,p)
 | .agg cs=>(zHC st cs).bind fun (a,p)=> .done (.agg a,p)
 | .tup _=> .fail
def zFo (st:St):List AV→Tr (List AV×Bool)
 | []=> .done ([],false)
 |x::r=>(zJd st x).bind fun (a,p)=>(zFo st r).bind fun (b,q)=> .done (a::b,p||q)
theorem zFP {st:St} {c:CV} {y:CV×Bool} (h:(zDK st c).run=some y):zBY st c=some y:=by
 cases c with
 |own d n g m=>
  simp only [zDK] at h
  simp only [zBY]
  split at h
  ·rename_i g' sz ty rows hB
   split at h
   ·rename_i hg
    obtain ⟨hm,h⟩:=Tr.ask_yes h
    cases h
    simp only [hB]
    rw [if_pos ⟨hg,hm⟩]
   ·cases h
  ·cases h
 |p x=>cases h;rfl
 |fn f caps=>
  simp only [zDK] at h
  obtain ⟨⟨l,p⟩,h1,h2⟩:=Tr.bind_some h
  cases h2
  simp only [zBY,zCy h1,Option.map_some]
 |_=>
  simp only [zDK] at h
  simp only [zBY]
  split at h
  ·rename_i hp
   cases h
   rw [if_pos hp]
  ·cases h
theorem zFQ:∀{l:List CV} {st:St} {y:List CV×Bool},(zHC st l).run=some y→zCM st l=some y
 | [],st,y,h=>by cases h;rfl
 |x::r,st,y,h=>by
  obtain ⟨⟨a,p⟩,h1,h2⟩:=Tr.bind_some h
  obtain ⟨⟨b,q⟩,h3,h4⟩:=Tr.bind_some h2
  cases h4
  simp only [zCM,zFP h1,Option.bind_some,zFQ h3]
theorem zII {st:St} {a:AV} {y:AV×Bool} (h:(zJd st a).run=some y):zBo st a=some y:=by
 cases a with
 |c x=>
  obtain ⟨⟨a,p⟩,h1,h2⟩:=Tr.bind_some h
  cases h2
  simp only [zBo,zFP h1,Option.map_some]
 |agg cs=>
  obtain ⟨⟨a,p⟩,h1,h2⟩:=Tr.bind_some h
  cases h2
  simp only [zBo,zFQ h1,Option.map_some]
 |tup vs=>cases h
theorem zEe:∀{l:List AV} {st:St} {y:List AV×Bool},(zFo st l).run=some y→zBW st l=some y
 | [],st,y,h=>by cases h;rfl
 |x::r,st,y,h=>by
  obtain ⟨⟨a,p⟩,h1,h2⟩:=Tr.bind_some h
  obtain ⟨⟨b,q⟩,h3,h4⟩:=Tr.bind_some h2
  cases h4
  simp only [zBW,zII h1,Option.bind_some,zEe h3]
def zHo (st:St):AV→Tr (List (List PV))
 | .c (.p .nl)=> .done []
 | .c (.p (.ls rows))=> .done rows
 | .c (.own d n g m)=>match st.get d n with
  |some ⟨g',_,_,.row rows⟩=>if g=g' then .ask (decide (m=rows.length)) (.done rows) .fail else .fail
  |_=> .fail
 |_=> .fail
theorem zGa {st:St} {a:AV} {y:List (List PV)} (h:(zHo st a).run=some y):st.rows a=some y:=by
 unfold zHo at h
 unfold St.rows
 split at h
 ·cases h;rfl
 ·cases h;rfl
 ·split at h
  ·rename_i g' sz ty rows hB
   split at h
   ·rename_i hg
    obtain ⟨hm,h⟩:=Tr.ask_yes h
    cases h
    simp only [hB]
    rw [if_pos ⟨hg,hm⟩]
   ·cases h
  ·cases h
 ·cases h
end Go.Eng

