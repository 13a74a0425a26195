import Derived.Test.YtilkdjfhbahhdaaGreatDoorE28
set_option linter.unusedVariables false
set_option linter.unusedSimpArgs false
namespace Go.Eng
inductive Tr (α:Type):Type 1 where
 |done (x:α)
 |fail
 |ask (b:Bool) (t f:Tr α)
 |opt {β:Type} (o:Option β) (k:β→Tr α)
 |alt {β γ:Type} (x:β⊕γ) (k:β→Tr α) (l:γ→Tr α)
def Tr.run {α:Type}:Tr α→Option α
 | .done x=>some x
 | .fail=>none
 | .ask b t f=>bif b then t.run else f.run
 | .opt o k=>match o with
  |some x=>(k x).run
  |none=>none
 | .alt x k l=>match x with
  | .inl a=>(k a).run
  | .inr b=>(l b).run
def Tr.bind {α β:Type}:Tr α→(α→Tr β)→Tr β
 | .done x,f=>f x
 | .fail,_=> .fail
 | .ask b t e,f=> .ask b (t.bind f) (e.bind f)
 | .opt o k,f=> .opt o fun x=>(k x).bind f
 | .alt x k l,f=> .alt x (fun a=>(k a).bind f) (fun b=>(l b).bind f)
theorem Tr.run_bind {α β:Type}:∀(t:Tr α) (f:α→Tr β),(t.bind f).run=t.run.bind fun x=>(f x).run
 | .done x,f=>rfl
 | .fail,f=>rfl
 | .ask b t e,f=>by cases b<;>simp only [Tr.bind,Tr.run,cond]<;>exact run_bind _ f
 | .opt o k,f=>by
  simp only [Tr.bind,Tr.run]
  cases o with
  |none=>rfl
  |some x=>exact run_bind (k x) f
 | .alt x k l,f=>by
  simp only [Tr.bind,Tr.run]
  cases x with
  |inl a=>exact run_bind (k a) f
  |inr b=>exact run_bind (l b) f
theorem Tr.bind_some {α β:Type} {t:Tr α} {f:α→Tr β} {y:β} (h:(t.bind f).run=some y):∃x,t.run=some x∧(f x).run=some y:=by
 rw [run_bind] at h
 exact Option.bind_eq_some_iff.1 h
theorem Tr.ask_some {α:Type} {b:Bool} {t f:Tr α} {y:α} (h:(Tr.ask b t f).run=some y):(b=true∧t.run=some y)∨(b=false∧f.run=some y):=by
 cases b
 ·exact .inr ⟨rfl,h⟩
 ·exact .inl ⟨rfl,h⟩
theorem Tr.ask_yes {α:Type} {p:Prop} [Decidable p] {t:Tr α} {y:α} (h:(Tr.ask (decide p) t .fail).run=some y):p∧t.run=some y:=by
 rcases Tr.ask_some h with ⟨h1,h2⟩|⟨_,h2⟩
 ·exact ⟨of_decide_eq_true h1,h2⟩
 ·cases h2
theorem Tr.opt_some {α β:Type} {o:Option β} {k:β→Tr α} {y:α} (h:(Tr.opt o k).run=some y):∃x,o=some x∧(k x).run=some y:=by
 cases o with
 |none=>cases h
 |some x=>exact ⟨x,rfl,h⟩
def Tr.ofOpt {α:Type}:Option α→Tr α
 |some x=> .done x
 |none=> .fail
theorem Tr.ofOpt_some {α:Type} {o:Option α} {y:α} (h:(Tr.ofOpt o).run=some y):o=some y:=by
 cases o with
 |none=>cases h
 |some x=>cases h;rfl
abbrev Kn:=List (Nat×Bool)
def KnOK (kn:Kn) (st:St):Prop:=∀n b,zE n kn=some b→zE n st.t=some (.c (.p (.b b)))
def knX (kn:Kn):KX→Option Bool
 | .t n=>zE n kn
 | .k (.c (.p (.b b)))=>some b
 | .k _=>none
def zF2 (kn:Kn):Option Nat→Option Bool→Kn
 |none,_=>kn
 |some d,some b=>(d,b)::kn.filter (fun p=>p.1 !=d)
 |some d,none=>kn.filter (fun p=>p.1 !=d)
theorem zCS (d n:Nat):∀(kn:Kn),zE n (kn.filter (fun p=>p.1 !=d))=if n=d then none else zE n kn
 | []=>by simp [zE]
 |(m,b)::r=>by
  by_cases hm:m=d
  ·subst hm
   simp only [List.filter,bne_self_eq_false,zE]
   rw [zCS m n r]
   by_cases hn:n=m
   ·simp [hn]
   ·simp [hn,Ne.symm hn]
  ·have:((m,b).1 !=d)=true:=by simpa using hm
   simp only [List.filter,this,zE]
   rw [zCS d n r]
   by_cases hn:m=n
   ·subst hn;simp [hm]
   ·simp [hn]
theorem zFC {kn:Kn} {st:St} (h:KnOK kn st) {dst:Option Nat} {v:AV} {kb:Option Bool} (hv:∀b,kb=some b→v= .c (.p (.b b))):KnOK (zF2 kn dst kb) {st with t:=zBe st.t dst v}:=by
 intro n b hn
 cases dst with
 |none=>exact h n b hn
 |some d=>
  have key:zE n (kn.filter (fun p=>p.1 !=d))=some b→zE n (zBe st.t (some d) v)=some (.c (.p (.b b))):=fun hn=>by
   rw [zCS] at hn
   split at hn
   ·cases hn
   ·rename_i hne
    simp only [zBe,zE]
    rw [if_neg (Ne.symm hne)]
    exact h n b hn
  cases kb with
  |none=>exact key hn
  |some b'=>
   simp only [zF2,zE] at hn
   split at hn
   ·rename_i e
    cases hn
    simp [zBe,zE,e,hv b rfl]
   ·exact key hn
theorem zGT {kn:Kn} {st:St} (h:KnOK kn st) {x:KX} {b:Bool} (hx:knX kn x=some b):st.eval x= .c (.p (.b b)):=by
 unfold knX at hx
 split at hx
 ·simp only [St.eval,h _ _ hx]
 ·cases hx;rfl
 ·cases hx
theorem KnOK.frame {kn:Kn} {st st':St} (h:KnOK kn st) (ht:st'.t=st.t):KnOK kn st':=fun n b hn=>by rw [ht];exact h n b hn
def zKw {α:Type} (st:St) (kn:Kn) (x:KX) (k:Bool→St→Kn→Tr α):Tr α:=
 match x with
 | .t n=>match zE n kn with
  |some b=>k b st kn
  |none=>match zE n st.t with
   |some (.c (.p (.b v)))=> .ask v (k true {st with t:=upd n (.c (.p (.b true))) st.t} ((n,true)::kn)) (k false {st with t:=upd n (.c (.p (.b false))) st.t} ((n,false)::kn))
   |_=> .fail
 | .k (.c (.p (.b b)))=>k b st kn
 | .k _=> .fail
theorem zFD {α:Type} {n:Nat} {x:α}:∀{l:List (Nat×α)},zE n l=some x→upd n x l=l
 | [],h=>by cases h
 |(m,a)::r,h=>by
  simp only [zE] at h
  simp only [upd]
  split at h
  ·rename_i e;cases h;rw [if_pos e]
  ·rename_i e;rw [if_neg e,zFD h]
theorem zGU {α:Type} {st:St} {kn:Kn} {x:KX} {k:Bool→St→Kn→Tr α} {y:α} (hk:KnOK kn st) (h:(zKw st kn x k).run=some y):∃v kn',st.eval x= .c (.p (.b v))∧KnOK kn' st∧(k v st kn').run=some y:=by
 unfold zKw at h
 split at h
 ·rename_i n
  split at h
  ·rename_i b hb
   exact ⟨b,kn,by simp [St.eval,hk n b hb],hk,h⟩
  ·split at h
   ·rename_i v hv
    have ok:∀b,v=b→KnOK ((n,b)::kn) st:=fun b hb m c hm=>by
     simp only [zE] at hm
     split at hm
     ·rename_i e
      cases hm
      subst e
      rw [hv,hb]
     ·exact hk m c hm
    rcases Tr.ask_some h with ⟨rfl,h1⟩|⟨rfl,h1⟩
    ·rw [zFD hv] at h1
     exact ⟨true,(n,true)::kn,by simp [St.eval,hv],ok true rfl,h1⟩
    ·rw [zFD hv] at h1
     exact ⟨false,(n,false)::kn,by simp [St.eval,hv],ok false rfl,h1⟩
   ·cases h
 ·rename_i b
  exact ⟨b,kn,rfl,hk,h⟩
 ·cases h
def zAn (e:List PV) (i:Nat):Option Bool:=match e[i]? with|some (.b x)=>some x|_=>none
def zI (k:IntKind) (e:List PV) (i:Nat):Option Int:=match e[i]? with|some (.i k' x)=>if k'=k then some x else none|_=>none
def zAG (e:List PV) (i:Nat):Option ByteArray:=match e[i]? with|some (.s x)=>some x|_=>none
def zA9 (e:List PV) (i:Nat):Option (List (List PV)):=match e[i]? with|some (.ls x)=>some x|_=>none
def zDq (e:List PV):Nat→List Nat→Tr (List CV)
 |_,[]=> .done []
 |o,k::r=>
  let rest:CV→Tr (List CV):=fun c=>(zDq e (o+1) r).bind fun l=> .done (c::l)
  match k with
  |0=> .opt (zAn e o) fun x=>rest (.p (.b x))
  |1=> .opt (zI .i64 e o) fun x=>rest (.p (.i .i64 x))
  |2=> .opt (zAG e o) fun x=>rest (.p (.s x))
  |3=> .opt (zA9 e o) fun x=>rest (.p (.ls x))
  |6=> .opt (zI .u8 e o) fun x=>rest (.p (.i .u8 x))
  |_=> .fail
theorem zFE {e:List PV} {i:Nat} {x:Bool} (h:zAn e i=some x):e[i]?=some (.b x):=by
 unfold zAn at h;split at h
 ·cases h;assumption
 ·cases h
theorem zB7 {k:IntKind} {e:List PV} {i:Nat} {x:Int} (h:zI k e i=some x):e[i]?=some (.i k x):=by
 unfold zI at h;split at h
 ·split at h
  ·rename_i e;cases h;subst e;assumption
  ·cases h
 ·cases h
theorem zFF {e:List PV} {i:Nat} {x:ByteArray} (h:zAG e i=some x):e[i]?=some (.s x):=by
 unfold zAG at h;split at h
 ·cases h;assumption
 ·cases h
theorem zB8 {e:List PV} {i:Nat} {x:List (List PV)} (h:zA9 e i=some x):e[i]?=some (.ls x):=by
 unfold zA9 at h;split at h
 ·cases h;assumption
 ·cases h
theorem zDr {e:List PV}:∀{ks:List Nat} {o:Nat} {cs:List CV},(zDq e o ks).run=some cs→∃ps:List PV,cs=ps.map .p∧ps.length=ks.length∧∀j p,ps[j]?=some p→e[o+j]?=some p
 | [],o,cs,h=>by cases h;exact ⟨[],rfl,rfl,fun j p hp=>by simp at hp⟩
 |k::r,o,cs,h=>by
  have key:∀{q:PV},e[o]?=some q→((zDq e (o+1) r).bind fun l=>Tr.done (CV.p q::l)).run=some cs→∃ps:List PV,cs=ps.map .p∧ps.length=(k::r).length∧∀j p,ps[j]?=some p→e[o+j]?=some p:=fun {q} hq h=>by
   obtain ⟨l,h1,h2⟩:=Tr.bind_some h
   cases h2
   obtain ⟨ps,rfl,h3,h4⟩:=zDr h1
   refine ⟨q::ps,rfl,by simp [h3],fun j p hp=>?_⟩
   cases j with
   |zero=>cases hp;exact hq
   |succ j=>rw [←h4 j p (by simpa using hp)];congr 1;omega
  simp only [zDq] at h
  split at h
  ·obtain ⟨x,h1,h2⟩:=Tr.opt_some h;exact key (zFE h1) h2
  ·obtain ⟨x,h1,h2⟩:=Tr.opt_some h;exact key (zB7 h1) h2
  ·obtain ⟨x,h1,h2⟩:=Tr.opt_some h;exact key (zFF h1) h2
  ·obtain ⟨x,h1,h2⟩:=Tr.opt_some h;exact key (zB8 h1) h2
  ·obtain ⟨x,h1,h2⟩:=Tr.opt_some h;exact key (zB7 h1) h2
  ·cases h
theorem zC4 {e ps:List PV} {o:Nat} (hn:0<ps.length) (h:∀j p,ps[j]?=some p→e[o+j]?=some p):o+ps.length≤e.length∧(e.drop o).take ps.length=ps:=by
 have hl:o+ps.length≤e.length:=by
  have:=h (ps.length-1) _ (ze (by omega))
  have:=(List.getElem?_eq_some_iff.1 this).1
  omega
 refine ⟨hl,List.ext_getElem? fun j=>?_⟩
 by_cases hj:j<ps.length
 ·rw [List.getElem?_take_of_lt hj,List.getElem?_drop,h j _ (ze hj),ze hj]
 ·rw [List.getElem?_eq_none (by simp;omega),List.getElem?_eq_none (by omega)]
def zHQ (d m g j:Nat) (cols:List (Nat×Nat×TypeId)) (e:List PV):Nat→List Nat→Tr (List CV)
 |_,[]=> .done []
 |o,k::r=>
  let rest:CV→Tr (List CV):=fun c=>(zHQ d m g j cols e (o+1) r).bind fun l=> .done (c::l)
  match zE o cols with
  |some q=> .opt (zA9 e o) fun x=>rest (.sub d m g j o x.length q.1)
  |none=>match k with
   |0=> .opt (zAn e o) fun x=>rest (.p (.b x))
   |1=> .opt (zI .i64 e o) fun x=>rest (.p (.i .i64 x))
   |2=> .opt (zAG e o) fun x=>rest (.p (.s x))
   |3=> .opt (zA9 e o) fun x=>rest (.p (.ls x))
   |6=> .opt (zI .u8 e o) fun x=>rest (.p (.i .u8 x))
   |_=> .fail
theorem zHR {d m g j:Nat} {cols:List (Nat×Nat×TypeId)} {e:List PV}:∀{ks:List Nat} {o:Nat} {cs:List CV},(zHQ d m g j cols e o ks).run=some cs→∃ps:List PV,cs=zAb d m g j cols o ps∧ps.length=ks.length∧∀j p,ps[j]?=some p→e[o+j]?=some p
 | [],o,cs,h=>by cases h;exact ⟨[],rfl,rfl,fun j p hp=>by simp at hp⟩
 |k::r,o,cs,h=>by
  have key:∀{q:PV} {c:CV},e[o]?=some q→(match zE o cols with|some t=>CV.sub d m g j o (zL9 q) t.1|none=> .p q)=c→((zHQ d m g j cols e (o+1) r).bind fun l=>Tr.done (c::l)).run=some cs→∃ps:List PV,cs=zAb d m g j cols o ps∧ps.length=(k::r).length∧∀j p,ps[j]?=some p→e[o+j]?=some p:=fun {q c} hq hc h=>by
   obtain ⟨l,h1,h2⟩:=Tr.bind_some h
   cases h2
   obtain ⟨ps,rfl,h3,h4⟩:=zHR h1
   refine ⟨q::ps,?_,by simp [h3],fun j p hp=>?_⟩
   ·simp only [zAb]
    rw [←hc]
    cases zE o cols<;>rfl
   ·cases j with
    |zero=>cases hp;exact hq
    |succ j=>rw [←h4 j p (by simpa using hp)];congr 1;omega
  simp only [zHQ] at h
  split at h
  ·rename_i t ht
   obtain ⟨x,h1,h2⟩:=Tr.opt_some h
   exact key (zB8 h1) (by rw [ht];rfl) h2
  ·rename_i ht
   split at h
   ·obtain ⟨x,h1,h2⟩:=Tr.opt_some h;exact key (zFE h1) (by rw [ht]) h2
   ·obtain ⟨x,h1,h2⟩:=Tr.opt_some h;exact key (zB7 h1) (by rw [ht]) h2
   ·obtain ⟨x,h1,h2⟩:=Tr.opt_some h;exact key (zFF h1) (by rw [ht]) h2
   ·obtain ⟨x,h1,h2⟩:=Tr.opt_some h;exact key (zB8 h1) (by rw [ht]) h2
   ·obtain ⟨x,h1,h2⟩:=Tr.opt_some h;exact key (zB7 h1) (by rw [ht]) h2
   ·cases h
def zDS (st:St):CV→Tr (PV×St)
 | .p x=> .done (x.weak,st)
 | .own d n g m=>match st.get d n with
  |some ⟨g',sz,ty,.row rows⟩=>if g=g' then .ask (decide (m=rows.length)) (.done (.ls rows,st.set d n ⟨g+1,sz,ty,.dead⟩)) .fail else .fail
  |_=> .fail
 |_=> .fail
def zBx (st:St):List CV→Tr (List PV×St)
 | []=> .done ([],st)
 |x::r=>(zDS st x).bind fun (a,st)=>(zBx st r).bind fun (b,st)=> .done (a::b,st)
theorem zEC {st:St} {c:CV} {y:PV×St} (h:(zDS st c).run=some y):zAs st c=some y∧y.2.t=st.t:=by
 unfold zDS at h
 unfold zAs
 split at h
 ·cases h;exact ⟨rfl,rfl⟩
 ·split at h
  ·rename_i g' sz ty rows hB
   split at h
   ·rename_i hg
    obtain ⟨hm,h⟩:=Tr.ask_yes h
    cases h
    simp only [hB]
    rw [if_pos ⟨hg,hm⟩]
    refine ⟨rfl,?_⟩
    unfold St.set
    split<;>rfl
   ·cases h
  ·cases h
 ·cases h
theorem zBP:∀{l:List CV} {st:St} {y:List PV×St},(zBx st l).run=some y→zAI st l=some y∧y.2.t=st.t
 | [],st,y,h=>by cases h;exact ⟨rfl,rfl⟩
 |x::r,st,y,h=>by
  obtain ⟨⟨a,st1⟩,h1,h2⟩:=Tr.bind_some h
  obtain ⟨⟨b,st2⟩,h3,h4⟩:=Tr.bind_some h2
  cases h4
  obtain ⟨e1,t1⟩:=zEC h1
  obtain ⟨e2,t2⟩:=zBP h3
  simp only [zAI,e1,zC,e2]
  exact ⟨by first|rfl|trivial,t2.trans t1⟩
def zH7 (st:St):CV→Tr (PV×Bool)
 | .p x=> .done (x.weak,false)
 | .own d n g m=>match st.get d n with
  |some ⟨g',_,_,.row rows⟩=>if g=g' then .ask (decide (m=rows.length)) (.done (.ls rows,true)) .fail else .fail
  |_=> .fail
 |_=> .fail
def zGV (st:St):List CV→Tr (List PV×Bool)
 | []=> .done ([],false)
 |x::r=>(zH7 st x).bind fun (a,p)=>(zGV st r).bind fun (b,q)=> .done (a::b,p||q)
def zFG (st:St):Cap→Tr (Cap×Bool)
 | .ptr d n g=>match st.get d n with
  |some ⟨g',_,_,.box cells⟩=>if g=g' then (zGV st cells).bind fun (r,p)=> .done (.rp r,p) else .fail
  |_=> .fail
 |c=> .done (c,false)
def zDs (st:St):List Cap→Tr (List Cap×Bool)
 | []=> .done ([],false)
 |x::r=>(zFG st x).bind fun (a,p)=>(zDs st r).bind fun (b,q)=> .done (a::b,p||q)
theorem zJV {st:St} {c:CV} {y:PV×Bool} (h:(zH7 st c).run=some y):zDu st c=some y:=by
 cases c with
 |own d n g m=>
  simp only [zH7] at h
  simp only [zDu]
  split at h
  ·rename_i g' sz ty rows hB
   split at h
   ·rename_i hg
    obtain ⟨hm,h⟩:=Tr.ask_yes h
    cases h
    simp only [hB]
    rw [if_pos ⟨hg,hm⟩]
   ·cases h
  ·cases h
 |p x=>cases h;rfl
 |_=>cases h
theorem zFH:∀{l:List CV} {st:St} {y:List PV×Bool},(zGV st l).run=some y→zBn st l=some y
 | [],st,y,h=>by cases h;rfl
 |x::r,st,y,h=>by
  obtain ⟨⟨a,p⟩,h1,h2⟩:=Tr.bind_some h
  obtain ⟨⟨b,q⟩,h3,h4⟩:=Tr.bind_some h2
  cases h4
  simp only [zBn,zJV h1,zC,zFH h3]
theorem zHS {st:St} {c:Cap} {y:Cap×Bool} (h:(zFG st c).run=some y):zBg st c=some y:=by
 cases c with
 |ptr d n g=>
  simp only [zFG] at h
  simp only [zBg]
  split at h
  ·rename_i g' sz ty cells hB
   split at h
   ·rename_i hg
    obtain ⟨⟨a,p⟩,h1,h2⟩:=Tr.bind_some h
    cases h2
    simp only [hB]
    rw [if_pos hg,zFH h1]
    rfl
   ·cases h
  ·cases h
 |_=>cases h;rfl
theorem zDT:∀{l:List Cap} {st:St} {y:List Cap×Bool},(zDs st l).run=some y→zAy st l=some y
 | [],st,y,h=>by cases h;rfl
 |x::r,st,y,h=>by
  obtain ⟨⟨a,p⟩,h1,h2⟩:=Tr.bind_some h
  obtain ⟨⟨b,q⟩,h3,h4⟩:=Tr.bind_some h2
  cases h4
  simp only [zAy,zHS h1,zC,zDT h3]
def zLp (st:St) (d n g j o m esz:Nat):Tr (TypeId×List (List PV)):=match st.get d n with
 |some ⟨g',sz,_,.deep cols rows⟩=>match zE o cols with
  |some (esz',ety)=>if g=g'∧esz'=esz∧o<sz then .opt (rows[j]?) fun e=> .opt (zA9 e o) fun inner=> .ask (decide (m=inner.length)) (.done (ety,inner)) .fail else .fail
  |none=> .fail
 |_=> .fail
theorem zIw {st:St} {d n g j o m esz:Nat} {q:TypeId×List (List PV)} (h:(zLp st d n g j o m esz).run=some q):st.subB d n g j o m esz=some q:=by
 unfold zLp at h
 unfold St.subB
 split at h
 ·rename_i g' sz ty cols rows hB
  rw [hB]
  simp only
  split at h
  ·rename_i esz' ety hl
   rw [hl]
   split at h
   ·rename_i hc
    obtain ⟨e,he,h⟩:=Tr.opt_some h
    obtain ⟨inner,hi,h⟩:=Tr.opt_some h
    obtain ⟨hm,h⟩:=Tr.ask_yes h
    cases h
    rw [he]
    simp only
    rw [zB8 hi]
    simp only
    rw [if_pos ⟨hc.1,hc.2.1,hm,hc.2.2⟩]
   ·cases h
  ·cases h
 ·cases h
def zC5 (st:St):CV→Tr (CV×Bool)
 | .own d n g m=>match st.get d n with
  |some ⟨g',_,_,.row rows⟩|some ⟨g',_,_,.deep _ rows⟩=>if g=g' then .ask (decide (m=rows.length)) (.done (.p (.ls rows),true)) .fail else .fail
  |_=> .fail
 | .sub d n g j o m esz=>(zLp st d n g j o m esz).bind fun q=> .done (.p (.ls q.2),true)
 | .p x=> .done (.p x.weak,false)
 | .fn f caps=>(zDs st caps).bind fun (l,p)=> .done (.fn f l,p)
 |x=>if x.pure then .done (x,false) else .fail
def zH8 (st:St):List CV→Tr (List CV×Bool)
 | []=> .done ([],false)
 |x::r=>(zC5 st x).bind fun (a,p)=>(zH8 st r).bind fun (b,q)=> .done (a::b,p||q)
def zKx (st:St):AV→Tr (AV×Bool)
 | .c x=>(zC5 st x).bind fun (a,p)=> .done (.c a,p)
 | .agg cs=>(zH8 st cs).bind fun (a,p)=> .done (.agg a,p)
 | .tup _=> .fail
def zGW (st:St):List AV→Tr (List AV×Bool)
 | []=> .done ([],false)
 |x::r=>(zKx st x).bind fun (a,p)=>(zGW st r).bind fun (b,q)=> .done (a::b,p||q)
theorem zF3 {st:St} {c:CV} {y:CV×Bool} (h:(zC5 st c).run=some y):zBW st c=some y:=by
 cases c with
 |own d n g m=>
  simp only [zC5] at h
  simp only [zBW]
  split at h
  ·rename_i g' sz ty rows hB
   split at h
   ·rename_i hg
    obtain ⟨hm,h⟩:=Tr.ask_yes h
    cases h
    simp only [hB]
    rw [if_pos ⟨hg,hm⟩]
   ·cases h
  ·rename_i g' sz ty cols rows hB
   split at h
   ·rename_i hg
    obtain ⟨hm,h⟩:=Tr.ask_yes h
    cases h
    simp only [hB]
    rw [if_pos ⟨hg,hm⟩]
   ·cases h
  ·cases h
 |sub d n g j o m esz=>
  simp only [zC5] at h
  obtain ⟨q,h1,h2⟩:=Tr.bind_some h
  cases h2
  simp only [zBW,zIw h1,Option.map_some]
 |p x=>cases h;rfl
 |fn f caps=>
  simp only [zC5] at h
  obtain ⟨⟨l,p⟩,h1,h2⟩:=Tr.bind_some h
  cases h2
  simp only [zBW,zDT h1,Option.map_some]
 |_=>
  simp only [zC5] at h
  simp only [zBW]
  split at h
  ·rename_i hp
   cases h
   rw [if_pos hp]
  ·cases h
theorem zF4:∀{l:List CV} {st:St} {y:List CV×Bool},(zH8 st l).run=some y→zCm st l=some y
 | [],st,y,h=>by cases h;rfl
 |x::r,st,y,h=>by
  obtain ⟨⟨a,p⟩,h1,h2⟩:=Tr.bind_some h
  obtain ⟨⟨b,q⟩,h3,h4⟩:=Tr.bind_some h2
  cases h4
  simp only [zCm,zF3 h1,zC,zF4 h3]
theorem zJW {st:St} {a:AV} {y:AV×Bool} (h:(zKx st a).run=some y):zCB st a=some y:=by
 cases a with
 |c x=>
  obtain ⟨⟨a,p⟩,h1,h2⟩:=Tr.bind_some h
  cases h2
  simp only [zCB,zF3 h1,Option.map_some]
 |agg cs=>
  obtain ⟨⟨a,p⟩,h1,h2⟩:=Tr.bind_some h
  cases h2
  simp only [zCB,zF4 h1,Option.map_some]
 |tup vs=>cases h
theorem zFI:∀{l:List AV} {st:St} {y:List AV×Bool},(zGW st l).run=some y→zBo st l=some y
 | [],st,y,h=>by cases h;rfl
 |x::r,st,y,h=>by
  obtain ⟨⟨a,p⟩,h1,h2⟩:=Tr.bind_some h
  obtain ⟨⟨b,q⟩,h3,h4⟩:=Tr.bind_some h2
  cases h4
  simp only [zBo,zJW h1,zC,zFI h3]
def zIx (st:St):AV→Tr (List (List PV))
 | .c (.p .nl)=> .done []
 | .c (.p (.ls rows))=> .done rows
 | .c (.own d n g m)=>match st.get d n with
  |some ⟨g',_,_,.row rows⟩=>if g=g' then .ask (decide (m=rows.length)) (.done rows) .fail else .fail
  |_=> .fail
 |_=> .fail
theorem zHT {st:St} {a:AV} {y:List (List PV)} (h:(zIx st a).run=some y):st.rows a=some y:=by
 unfold zIx at h
 unfold St.rows
 split at h
 ·cases h;rfl
 ·cases h;rfl
 ·split at h
  ·rename_i g' sz ty rows hB
   split at h
   ·rename_i hg
    obtain ⟨hm,h⟩:=Tr.ask_yes h
    cases h
    simp only [hB]
    rw [if_pos ⟨hg,hm⟩]
   ·cases h
  ·cases h
 ·cases h
end Go.Eng

