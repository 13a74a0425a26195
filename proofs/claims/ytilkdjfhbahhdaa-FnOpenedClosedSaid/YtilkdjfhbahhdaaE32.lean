import Derived.Test.YtilkdjfhbahhdaaE28
import Derived.ProofKit
import Derived.OpenShut
import Derived.ShutString
set_option linter.unusedVariables false
set_option linter.unusedSimpArgs false
namespace Go.Eng
inductive Tr (α:Type):Type 1 where
 |done (x:α)
 |fail
 |ask (b:Bool) (t f:Tr α)
 |opt {β:Type} (o:Option β) (k:β->Tr α)
 |alt {β γ:Type} (x:β⊕γ) (k:β->Tr α) (l:γ->Tr α)
def Tr.run {α:Type}:Tr α->Option α
 | .done x=>some x
 | .fail=>none
 | .ask b t f=>bif b then t.run else f.run
 | .opt o k=>match o with
  |some x=>(k x).run
  |none=>none
 | .alt x k l=>match x with
  | .inl a=>(k a).run
  | .inr b=>(l b).run
def Tr.bind {α β:Type}:Tr α->(α->Tr β)->Tr β
 | .done x,f=>f x
 | .fail,_=> .fail
 | .ask b t e,f=> .ask b (t.bind f) (e.bind f)
 | .opt o k,f=> .opt o λx=>(k x).bind f
 | .alt x k l,f=> .alt x (λa=>(k a).bind f) (λb=>(l b).bind f)
theorem Tr.run_bind {α β:Type}:∀(t:Tr α) (f:α->Tr β),(t.bind f).run=t.run.bind λx=>(f x).run
 | .done x,f=>rfl
 | .fail,f=>rfl
 | .ask b t e,f=>by cases b<;>simp only [Tr.bind,Tr.run,cond]<;>exact run_bind _ f
 | .opt o k,f=>by
  simp only [Tr.bind,Tr.run];cases o with
  |none=>rfl
  |some x=>exact run_bind (k x) f
 | .alt x k l,f=>by
  simp only [Tr.bind,Tr.run];cases x with
  |inl a=>exact run_bind (k a) f
  |inr b=>exact run_bind (l b) f
theorem Tr.bind_some {α β:Type} {t:Tr α} {f:α->Tr β} {y:β} (h:(t.bind f).run=some y):∃x,t.run=some x/\(f x).run=some y:=by
 rw [run_bind] at h;exact zH.1 h
theorem Tr.ask_some {α:Type} {b:Bool} {t f:Tr α} {y:α} (h:(Tr.ask b t f).run=some y):(b=true/\t.run=some y)\/(b=false/\f.run=some y):=by
 cases b
 ·exact .inr ⟨rfl,h⟩
 ·exact .inl ⟨rfl,h⟩
theorem Tr.ask_yes {α:Type} {p:Prop} [Decidable p] {t:Tr α} {y:α} (h:(Tr.ask (decide p) t .fail).run=some y):p/\t.run=some y:=by
 rcases Tr.ask_some h with ⟨h1,h2⟩|⟨_,h2⟩
 ·exact ⟨of_decide_eq_true h1,h2⟩
 ·cases h2
theorem Tr.opt_some {α β:Type} {o:Option β} {k:β->Tr α} {y:α} (h:(Tr.opt o k).run=some y):∃x,o=some x/\(k x).run=some y:=by
 cases o with
 |none=>cases h
 |some x=>exact ⟨x,rfl,h⟩
def Tr.ofOpt {α:Type}:Option α->Tr α
 |some x=> .done x
 |none=> .fail
theorem Tr.ofOpt_some {α:Type} {o:Option α} {y:α} (h:(Tr.ofOpt o).run=some y):o=some y:=by
 cases o with
 |none=>cases h
 |some x=>cases h;rfl
abbrev Kn:=List (Nat×Bool)
def KnOK (kn:Kn) (st:St):Prop:=∀n b,zC n kn=some b->zC n st.t=some (.c (.p (.b b)))
def knX (kn:Kn):KX->Option Bool
 | .t n=>zC n kn
 | .k (.c (.p (.b b)))=>some b
 | .k _=>none
def nS (kn:Kn):Option Nat->Option Bool->Kn
 |none,_=>kn
 |some d,some b=>(d,b)::kn.filter (λp=>p.1 !=d)
 |some d,none=>kn.filter (λp=>p.1 !=d)
theorem eK (d n:Nat):∀(kn:Kn),zC n (kn.filter (λp=>p.1 !=d))=if n=d then none else zC n kn
 | []=>by simp [zC]
 |(m,b)::r=>by
  by_cases hm:m=d
  ·subst hm;simp only [List.filter,bne_self_eq_false,zC];rw [eK m n r];by_cases hn:n=m
   ·simp [hn]
   ·simp [hn,Ne.symm hn]
  ·have:((m,b).1 !=d)=true:=by simpa using hm
   simp only [List.filter,this,zC];rw [eK d n r];by_cases hn:m=n
   ·subst hn;simp [hm]
   ·simp [hn]
theorem lX {kn:Kn} {st:St} (h:KnOK kn st) {dst:Option Nat} {v:AV} {kb:Option Bool} (hv:∀b,kb=some b->v= .c (.p (.b b))):KnOK (nS kn dst kb) {st with t:=cS st.t dst v}:=by
 intro n b hn;cases dst with
 |none=>exact h n b hn
 |some d=>
  have key:zC n (kn.filter (λp=>p.1 !=d))=some b->zC n (cS st.t (some d) v)=some (.c (.p (.b b))):=λhn=>by
   rw [eK] at hn;split at hn
   ·cases hn
   ·rename_i hne;simp only [cS,zC];rw [if_neg (Ne.symm hne)];exact h n b hn
  cases kb with
  |none=>exact key hn
  |some b'=>
   simp only [nS,zC] at hn;split at hn
   ·rename_i e;cases hn;simp [cS,zC,e,hv b rfl]
   ·exact key hn
theorem oR {kn:Kn} {st:St} (h:KnOK kn st) {x:KX} {b:Bool} (hx:knX kn x=some b):st.eval x= .c (.p (.b b)):=by
 unfold knX at hx;split at hx
 ·simp only [St.eval,h _ _ hx]
 ·cases hx;rfl
 ·cases hx
theorem KnOK.frame {kn:Kn} {st st':St} (h:KnOK kn st) (ht:st'.t=st.t):KnOK kn st':=λn b hn=>by rw [ht];exact h n b hn
def AN {α:Type} (st:St) (kn:Kn) (x:KX) (k:Bool->St->Kn->Tr α):Tr α:=
 match x with
 | .t n=>match zC n kn with
  |some b=>k b st kn
  |none=>match zC n st.t with
   |some (.c (.p (.b v)))=> .ask v (k true {st with t:=upd n (.c (.p (.b true))) st.t} ((n,true)::kn)) (k false {st with t:=upd n (.c (.p (.b false))) st.t} ((n,false)::kn))
   |_=> .fail
 | .k (.c (.p (.b b)))=>k b st kn
 | .k _=> .fail
theorem lY {α:Type} {n:Nat} {x:α}:∀{l:List (Nat×α)},zC n l=some x->upd n x l=l
 | [],h=>by cases h
 |(m,a)::r,h=>by
  simp only [zC] at h;simp only [upd];split at h
  ·rename_i e;cases h;rw [if_pos e]
  ·rename_i e;rw [if_neg e,lY h]
theorem oS {α:Type} {st:St} {kn:Kn} {x:KX} {k:Bool->St->Kn->Tr α} {y:α} (hk:KnOK kn st) (h:(AN st kn x k).run=some y):∃v kn',st.eval x= .c (.p (.b v))/\KnOK kn' st/\(k v st kn').run=some y:=by
 unfold AN at h;split at h
 ·rename_i n;split at h
  ·rename_i b hb;exact ⟨b,kn,by simp [St.eval,hk n b hb],hk,h⟩
  ·split at h
   ·rename_i v hv;have ok:∀b,v=b->KnOK ((n,b)::kn) st:=λb hb m c hm=>by
     simp only [zC] at hm;split at hm
     ·rename_i e;cases hm;subst e;rw [hv,hb]
     ·exact hk m c hm
    rcases Tr.ask_some h with ⟨rfl,h1⟩|⟨rfl,h1⟩
    ·rw [lY hv] at h1;exact ⟨true,(n,true)::kn,by simp [St.eval,hv],ok true rfl,h1⟩
    ·rw [lY hv] at h1;exact ⟨false,(n,false)::kn,by simp [St.eval,hv],ok false rfl,h1⟩
   ·cases h
 ·rename_i b;exact ⟨b,kn,rfl,hk,h⟩
 ·cases h
def zg (e:List PV) (i:Nat):Option Bool:=match e[i]? with|some (.b x)=>some x|_=>none
def zF (k:IntKind) (e:List PV) (i:Nat):Option Int:=match e[i]? with|some (.i k' x)=>if k'=k then some x else none|_=>none
def aY (e:List PV) (i:Nat):Option ByteArray:=match e[i]? with|some (.s x)=>some x|_=>none
def aW (e:List PV) (i:Nat):Option (List (List PV)):=match e[i]? with|some (.ls x)=>some x|_=>none
def iS (e:List PV):Nat->List Nat->Tr (List CV)
 |_,[]=> .done []
 |o,k::r=>
  let rest:CV->Tr (List CV):=λc=>(iS e (o+1) r).bind λl=> .done (c::l)
  match k with
  |0=> .opt (zg e o) λx=>rest (.p (.b x))
  |1=> .opt (zF .i64 e o) λx=>rest (.p (.i .i64 x))
  |2=> .opt (aY e o) λx=>rest (.p (.s x))
  |3=> .opt (aW e o) λx=>rest (.p (.ls x))
  |6=> .opt (zF .u8 e o) λx=>rest (.p (.i .u8 x))
  |_=> .fail
theorem lZ {e:List PV} {i:Nat} {x:Bool} (h:zg e i=some x):e[i]?=some (.b x):=by
 unfold zg at h;split at h
 ·cases h;assumption
 ·cases h
theorem dT {k:IntKind} {e:List PV} {i:Nat} {x:Int} (h:zF k e i=some x):e[i]?=some (.i k x):=by
 unfold zF at h;split at h
 ·split at h
  ·rename_i e;cases h;subst e;assumption
  ·cases h
 ·cases h
theorem mA {e:List PV} {i:Nat} {x:ByteArray} (h:aY e i=some x):e[i]?=some (.s x):=by
 unfold aY at h;split at h
 ·cases h;assumption
 ·cases h
theorem dU {e:List PV} {i:Nat} {x:List (List PV)} (h:aW e i=some x):e[i]?=some (.ls x):=by
 unfold aW at h;split at h
 ·cases h;assumption
 ·cases h
theorem iT {e:List PV}:∀{ks:List Nat} {o:Nat} {cs:List CV},(iS e o ks).run=some cs->∃ps:List PV,cs=ps.map .p/\ps.length=ks.length/\∀j p,ps[j]?=some p->e[o+j]?=some p
 | [],o,cs,h=>by cases h;exact ⟨[],rfl,rfl,λj p hp=>by simp at hp⟩
 |k::r,o,cs,h=>by
  have key:∀{q:PV},e[o]?=some q->((iS e (o+1) r).bind λl=>Tr.done (CV.p q::l)).run=some cs->∃ps:List PV,cs=ps.map .p/\ps.length=(k::r).length/\∀j p,ps[j]?=some p->e[o+j]?=some p:=fun {q} hq h=>by
   obtain ⟨l,h1,h2⟩:=Tr.bind_some h;cases h2;obtain ⟨ps,rfl,h3,h4⟩:=iT h1;refine ⟨q::ps,rfl,by simp [h3],λj p hp=>?_⟩;cases j with
   |zero=>cases hp;exact hq
   |succ j=>rw [<-h4 j p (by simpa using hp)];congr 1;omega
  simp only [iS] at h;split at h
  ·obtain ⟨x,h1,h2⟩:=Tr.opt_some h;exact key (lZ h1) h2
  ·obtain ⟨x,h1,h2⟩:=Tr.opt_some h;exact key (dT h1) h2
  ·obtain ⟨x,h1,h2⟩:=Tr.opt_some h;exact key (mA h1) h2
  ·obtain ⟨x,h1,h2⟩:=Tr.opt_some h;exact key (dU h1) h2
  ·obtain ⟨x,h1,h2⟩:=Tr.opt_some h;exact key (dT h1) h2
  ·cases h
theorem fZ {e ps:List PV} {o:Nat} (hn:0<ps.length) (h:∀j p,ps[j]?=some p->e[o+j]?=some p):o+ps.length<=e.length/\(e.drop o).take ps.length=ps:=by
 have hl:o+ps.length<=e.length:=by
  have:=h (ps.length-1) _ (zc (by omega));have:=(zamJ.1 this).1;omega
 refine ⟨hl,List.ext_getElem? λj=>?_⟩;by_cases hj:j<ps.length
 ·rw [List.getElem?_take_of_lt hj,List.getElem?_drop,h j _ (zc hj),zc hj]
 ·rw [zamY (by simp;omega),zamY (by omega)]
def rC (d m g j:Nat) (cols:List (Nat×Nat×TypeId)) (e:List PV):Nat->List Nat->Tr (List CV)
 |_,[]=> .done []
 |o,k::r=>
  let rest:CV->Tr (List CV):=λc=>(rC d m g j cols e (o+1) r).bind λl=> .done (c::l)
  match zC o cols with
  |some q=> .opt (aW e o) λx=>rest (.sub d m g j o x.length q.1)
  |none=>match k with
   |0=> .opt (zg e o) λx=>rest (.p (.b x))
   |1=> .opt (zF .i64 e o) λx=>rest (.p (.i .i64 x))
   |2=> .opt (aY e o) λx=>rest (.p (.s x))
   |3=> .opt (aW e o) λx=>rest (.p (.ls x))
   |6=> .opt (zF .u8 e o) λx=>rest (.p (.i .u8 x))
   |_=> .fail
theorem rD {d m g j:Nat} {cols:List (Nat×Nat×TypeId)} {e:List PV}:∀{ks:List Nat} {o:Nat} {cs:List CV},(rC d m g j cols e o ks).run=some cs->∃ps:List PV,cs=aM d m g j cols o ps/\ps.length=ks.length/\∀j p,ps[j]?=some p->e[o+j]?=some p
 | [],o,cs,h=>by cases h;exact ⟨[],rfl,rfl,λj p hp=>by simp at hp⟩
 |k::r,o,cs,h=>by
  have key:∀{q:PV} {c:CV},e[o]?=some q->(match zC o cols with|some t=>CV.sub d m g j o (Bf q) t.1|none=> .p q)=c->((rC d m g j cols e (o+1) r).bind λl=>Tr.done (c::l)).run=some cs->∃ps:List PV,cs=aM d m g j cols o ps/\ps.length=(k::r).length/\∀j p,ps[j]?=some p->e[o+j]?=some p:=fun {q c} hq hc h=>by
   obtain ⟨l,h1,h2⟩:=Tr.bind_some h;cases h2;obtain ⟨ps,rfl,h3,h4⟩:=rD h1;refine ⟨q::ps,?_,by simp [h3],λj p hp=>?_⟩
   ·simp only [aM];rw [<-hc];cases zC o cols<;>rfl
   ·cases j with
    |zero=>cases hp;exact hq
    |succ j=>rw [<-h4 j p (by simpa using hp)];congr 1;omega
  simp only [rC] at h;split at h
  ·rename_i t ht;obtain ⟨x,h1,h2⟩:=Tr.opt_some h;exact key (dU h1) (by rw [ht];rfl) h2
  ·rename_i ht;split at h
   ·obtain ⟨x,h1,h2⟩:=Tr.opt_some h;exact key (lZ h1) (by rw [ht]) h2
   ·obtain ⟨x,h1,h2⟩:=Tr.opt_some h;exact key (dT h1) (by rw [ht]) h2
   ·obtain ⟨x,h1,h2⟩:=Tr.opt_some h;exact key (mA h1) (by rw [ht]) h2
   ·obtain ⟨x,h1,h2⟩:=Tr.opt_some h;exact key (dU h1) (by rw [ht]) h2
   ·obtain ⟨x,h1,h2⟩:=Tr.opt_some h;exact key (dT h1) (by rw [ht]) h2
   ·cases h
def hJ (st:St):CV->Tr (PV×St)
 | .p x=> .done (x.weak,st)
 | .own d n g m=>match st.get d n with
  |some ⟨g',sz,ty,.row rows⟩=>if g=g' then .ask (decide (m=rows.length)) (.done (.ls rows,st.set d n ⟨g+1,sz,ty,.dead⟩)) .fail else .fail
  |_=> .fail
 |_=> .fail
def dL (st:St):List CV->Tr (List PV×St)
 | []=> .done ([],st)
 |x::r=>(hJ st x).bind λ(a,st)=>(dL st r).bind λ(b,st)=> .done (a::b,st)
theorem jO {st:St} {c:CV} {y:PV×St} (h:(hJ st c).run=some y):aX st c=some y/\y.2.t=st.t:=by
 unfold hJ at h;unfold aX;split at h
 ·cases h;exact ⟨rfl,rfl⟩
 ·split at h
  ·rename_i g' sz ty rows hB;split at h
   ·rename_i hg;obtain ⟨hm,h⟩:=Tr.ask_yes h;cases h;simp only [hB];rw [if_pos ⟨hg,hm⟩];refine ⟨rfl,?_⟩;unfold St.set;split<;>rfl
   ·cases h
  ·cases h
 ·cases h
theorem cA:∀{l:List CV} {st:St} {y:List PV×St},(dL st l).run=some y->zx st l=some y/\y.2.t=st.t
 | [],st,y,h=>by cases h;exact ⟨rfl,rfl⟩
 |x::r,st,y,h=>by
  obtain ⟨⟨a,st1⟩,h1,h2⟩:=Tr.bind_some h;obtain ⟨⟨b,st2⟩,h3,h4⟩:=Tr.bind_some h2;cases h4;obtain ⟨e1,t1⟩:=jO h1;obtain ⟨e2,t2⟩:=cA h3;simp only [zx,e1,zw,e2];exact ⟨by first|rfl|trivial,t2.trans t1⟩
def tA (st:St):CV->Tr (PV×Bool)
 | .p x=> .done (x.weak,false)
 | .own d n g m=>match st.get d n with
  |some ⟨g',_,_,.row rows⟩=>if g=g' then .ask (decide (m=rows.length)) (.done (.ls rows,true)) .fail else .fail
  |_=> .fail
 |_=> .fail
def oT (st:St):List CV->Tr (List PV×Bool)
 | []=> .done ([],false)
 |x::r=>(tA st x).bind λ(a,p)=>(oT st r).bind λ(b,q)=> .done (a::b,p||q)
def mB (st:St):Cap->Tr (Cap×Bool)
 | .ptr d n g=>match st.get d n with
  |some ⟨g',_,_,.box cells⟩=>if g=g' then match mL cells with
    |some (f,caps)=>match bB st caps with
     |some (l,p)=> .done (.rf f l,p)
     |none=> .fail
    |none=>(oT st cells).bind λ(r,p)=> .done (.rp r,p)
   else .fail
  |_=> .fail
 |c=> .done (c,false)
def iU (st:St):List Cap->Tr (List Cap×Bool)
 | []=> .done ([],false)
 |x::r=>(mB st x).bind λ(a,p)=>(iU st r).bind λ(b,q)=> .done (a::b,p||q)
theorem wM {st:St} {c:CV} {y:PV×Bool} (h:(tA st c).run=some y):gE st c=some y:=by
 cases c with
 |own d n g m=>
  simp only [tA] at h;simp only [gE];split at h
  ·rename_i g' sz ty rows hB;split at h
   ·rename_i hg;obtain ⟨hm,h⟩:=Tr.ask_yes h;cases h;simp only [hB];rw [if_pos ⟨hg,hm⟩]
   ·cases h
  ·cases h
 |p x=>cases h;rfl
 |_=>cases h
theorem mC:∀{l:List CV} {st:St} {y:List PV×Bool},(oT st l).run=some y->cB st l=some y
 | [],st,y,h=>by cases h;rfl
 |x::r,st,y,h=>by
  obtain ⟨⟨a,p⟩,h1,h2⟩:=Tr.bind_some h;obtain ⟨⟨b,q⟩,h3,h4⟩:=Tr.bind_some h2;cases h4;simp only [cB,wM h1,zw,mC h3]
theorem rE {st:St} {c:Cap} {y:Cap×Bool} (h:(mB st c).run=some y):cT st c=some y:=by
 cases c with
 |ptr d n g=>
  simp only [mB] at h;simp only [cT];split at h
  ·rename_i g' sz ty cells hB;split at h
   ·rename_i hg;simp only [hB];rw [if_pos hg];cases hb:mL cells with
    |some q=>
     rw [hb] at h;dsimp only at h⊢;cases hl:bB st q.2 with
     |some z=>rw [hl] at h;cases h;rfl
     |none=>rw [hl] at h;cases h
    |none=>
     rw [hb] at h;dsimp only at h⊢;obtain ⟨⟨a,p⟩,h1,h2⟩:=Tr.bind_some h;cases h2;rw [mC h1];rfl
   ·cases h
  ·cases h
 |_=>cases h;rfl
theorem hO:∀{l:List Cap} {st:St} {y:List Cap×Bool},(iU st l).run=some y->bC st l=some y
 | [],st,y,h=>by cases h;rfl
 |x::r,st,y,h=>by
  obtain ⟨⟨a,p⟩,h1,h2⟩:=Tr.bind_some h;obtain ⟨⟨b,q⟩,h3,h4⟩:=Tr.bind_some h2;cases h4;simp only [bC,rE h1,zw,hO h3]
def BI (st:St) (d n g j o m esz:Nat):Tr (TypeId×List (List PV)):=match st.get d n with
 |some ⟨g',sz,_,.deep cols rows⟩=>match zC o cols with
  |some (esz',ety)=>if g=g'/\esz'=esz/\o<sz then .opt (rows[j]?) λe=> .opt (aW e o) λinner=> .ask (decide (m=inner.length)) (.done (ety,inner)) .fail else .fail
  |none=> .fail
 |_=> .fail
theorem uW {st:St} {d n g j o m esz:Nat} {q:TypeId×List (List PV)} (h:(BI st d n g j o m esz).run=some q):st.subB d n g j o m esz=some q:=by
 unfold BI at h;unfold St.subB;split at h
 ·rename_i g' sz ty cols rows hB;rw [hB];simp only;split at h
  ·rename_i esz' ety hl;rw [hl];split at h
   ·rename_i hc;obtain ⟨e,he,h⟩:=Tr.opt_some h;obtain ⟨inner,hi,h⟩:=Tr.opt_some h;obtain ⟨hm,h⟩:=Tr.ask_yes h;cases h;rw [he];simp only;rw [dU hi];simp only;rw [if_pos ⟨hc.1,hc.2.1,hm,hc.2.2⟩]
   ·cases h
  ·cases h
 ·cases h
def gA (st:St):CV->Tr (CV×Bool)
 | .own d n g m=>match st.get d n with
  |some ⟨g',_,_,.row rows⟩|some ⟨g',_,_,.deep _ rows⟩=>if g=g' then .ask (decide (m=rows.length)) (.done (.p (.ls rows),true)) .fail else .fail
  |_=> .fail
 | .sub d n g j o m esz=>(BI st d n g j o m esz).bind λq=> .done (.p (.ls q.2),true)
 | .p x=> .done (.p x.weak,false)
 | .fn f caps=>(iU st caps).bind λ(l,p)=> .done (.fn f l,p)
 |x=>if x.pure then .done (x,false) else .fail
def tB (st:St):List CV->Tr (List CV×Bool)
 | []=> .done ([],false)
 |x::r=>(gA st x).bind λ(a,p)=>(tB st r).bind λ(b,q)=> .done (a::b,p||q)
def AO (st:St):AV->Tr (AV×Bool)
 | .c x=>(gA st x).bind λ(a,p)=> .done (.c a,p)
 | .agg cs=>(tB st cs).bind λ(a,p)=> .done (.agg a,p)
 | .tup _=> .fail
def oU (st:St):List AV->Tr (List AV×Bool)
 | []=> .done ([],false)
 |x::r=>(AO st x).bind λ(a,p)=>(oU st r).bind λ(b,q)=> .done (a::b,p||q)
theorem nT {st:St} {c:CV} {y:CV×Bool} (h:(gA st c).run=some y):cG st c=some y:=by
 cases c with
 |own d n g m=>
  simp only [gA] at h;simp only [cG];split at h
  ·rename_i g' sz ty rows hB;split at h
   ·rename_i hg;obtain ⟨hm,h⟩:=Tr.ask_yes h;cases h;simp only [hB];rw [if_pos ⟨hg,hm⟩]
   ·cases h
  ·rename_i g' sz ty cols rows hB;split at h
   ·rename_i hg;obtain ⟨hm,h⟩:=Tr.ask_yes h;cases h;simp only [hB];rw [if_pos ⟨hg,hm⟩]
   ·cases h
  ·cases h
 |sub d n g j o m esz=>
  simp only [gA] at h;obtain ⟨q,h1,h2⟩:=Tr.bind_some h;cases h2;simp only [cG,uW h1,zamW]
 |p x=>cases h;rfl
 |fn f caps=>
  simp only [gA] at h;obtain ⟨⟨l,p⟩,h1,h2⟩:=Tr.bind_some h;cases h2;simp only [cG,hO h1,zamW]
 |_=>
  simp only [gA] at h;simp only [cG];split at h
  ·rename_i hp;cases h;rw [if_pos hp]
  ·cases h
theorem nU:∀{l:List CV} {st:St} {y:List CV×Bool},(tB st l).run=some y->fC st l=some y
 | [],st,y,h=>by cases h;rfl
 |x::r,st,y,h=>by
  obtain ⟨⟨a,p⟩,h1,h2⟩:=Tr.bind_some h;obtain ⟨⟨b,q⟩,h3,h4⟩:=Tr.bind_some h2;cases h4;simp only [fC,nT h1,zw,nU h3]
theorem wN {st:St} {a:AV} {y:AV×Bool} (h:(AO st a).run=some y):dV st a=some y:=by
 cases a with
 |c x=>
  obtain ⟨⟨a,p⟩,h1,h2⟩:=Tr.bind_some h;cases h2;simp only [dV,nT h1,zamW]
 |agg cs=>
  obtain ⟨⟨a,p⟩,h1,h2⟩:=Tr.bind_some h;cases h2;simp only [dV,nU h1,zamW]
 |tup vs=>cases h
theorem mD:∀{l:List AV} {st:St} {y:List AV×Bool},(oU st l).run=some y->dC st l=some y
 | [],st,y,h=>by cases h;rfl
 |x::r,st,y,h=>by
  obtain ⟨⟨a,p⟩,h1,h2⟩:=Tr.bind_some h;obtain ⟨⟨b,q⟩,h3,h4⟩:=Tr.bind_some h2;cases h4;simp only [dC,wN h1,zw,mD h3]
def uX (st:St):AV->Tr (List (List PV))
 | .c (.p .nl)=> .done []
 | .c (.p (.ls rows))=> .done rows
 | .c (.own d n g m)=>match st.get d n with
  |some ⟨g',_,_,.row rows⟩=>if g=g' then .ask (decide (m=rows.length)) (.done rows) .fail else .fail
  |_=> .fail
 |_=> .fail
theorem rF {st:St} {a:AV} {y:List (List PV)} (h:(uX st a).run=some y):st.rows a=some y:=by
 unfold uX at h;unfold St.rows;split at h
 ·cases h;rfl
 ·cases h;rfl
 ·split at h
  ·rename_i g' sz ty rows hB;split at h
   ·rename_i hg;obtain ⟨hm,h⟩:=Tr.ask_yes h;cases h;simp only [hB];rw [if_pos ⟨hg,hm⟩]
   ·cases h
  ·cases h
 ·cases h
abbrev fB:=FuncId->List AV->List Frame->Tr Res
abbrev jU:=Nat->St->Tr (Ex×St)
def Ba:zk:=λ_ _ _=>none
abbrev OpR:=AV×St×Kn×Option Bool
def mK (st:St) (kn:Kn) (dst:Nat) (k:KOp):Tr OpR:=match zB Ba st dst k with
 |some (v,s)=> .done (v,s,kn,none)
 |none=> .fail
def Bb (op:BinOp) (k:IntKind) (lit:Bool) (x y:Int) (done:PV->Tr OpR):Tr OpR:=
 match op with
 | .quo| .rem=>if lit then (match nZ op k x y with|some r=>done r|none=> .fail) else .ask (decide (y=0)) .fail (match op with| .quo=>done (.i k (k.wrap (x.tdiv y)))|_=>done (.i k (x.tmod y)))
 | .shl| .shr=>if lit then (match nZ op k x y with|some r=>done r|none=> .fail) else .fail
 |_=>match nZ op k x y with
  |some r=>done r
  |none=> .fail
def CS:KX->Bool
 | .k _=>true
 | .t _=>false
def tC (st:St):AV->Tr (AV×Nat×Nat×Option (Nat×Nat)×Blk)
 | .c (.own d n g m)=>match st.get d n with
  |some ⟨g',sz,ty,.row rows⟩=>if g=g' then .ask (decide (m=rows.length)) (.done (.c (.own 0 0 0 m),d,n,none,⟨0,sz,ty,.row rows⟩)) .fail else .fail
  |some ⟨g',sz,ty,.deep cols rows⟩=>if g=g' then .ask (decide (m=rows.length)) (.done (.c (.own 0 0 0 m),d,n,none,⟨0,sz,ty,.deep cols rows⟩)) .fail else .fail
  |_=> .fail
 | .c (.sub d n g j o m esz)=>(BI st d n g j o m esz).bind λq=> .done (.c (.own 0 0 0 m),d,n,some (j,o),⟨0,esz,q.1,.row q.2⟩)
 | .c (.ptr d n g 0 o)=>match st.get d n with
  |some ⟨g',sz,ty,.box cells⟩=>if g=g'/\cells.all isP=true/\o≠KO then .done (.c (.ptr 0 0 0 0 o),d,n,none,⟨0,sz,ty,.box cells⟩) else .fail
  |_=> .fail
 |_=> .fail
def AP:AV->Bool
 | .c (.own ..)| .c (.ptr ..)| .c (.sub ..)=>true
 |_=>false
def oV (st:St):List AV->Tr (List AV×Nat×Nat×Option (Nat×Nat)×Blk)
 | []=> .fail
 |a::r=>if AP a=true then (tC st a).bind λ(a,q)=>match gG r with
   |some r=> .done (a::r,q)
   |none=> .fail
  else match iB a with
   |some a=>(oV st r).bind λ(r,q)=> .done (a::r,q)
   |none=> .fail
def rG (st:St):AV->Tr (AV×St)
 | .c x=>(hJ st x).bind λ(a,st)=> .done (.c (.p a),st)
 | .agg cs=>(dL st cs).bind λ(l,st)=> .done (.agg (l.map .p),st)
 | .tup _=> .fail
def iV (st:St):List AV->Tr (List AV×St)
 | []=> .done ([],st)
 |x::r=>(rG st x).bind λ(a,st)=>(iV st r).bind λ(l,st)=> .done (a::l,st)
theorem rH {st:St} {a:AV} {y:AV×St} (h:(rG st a).run=some y):aH st a=some y/\y.2.t=st.t:=by
 cases a with
 |c x=>
  obtain ⟨⟨p,s⟩,h1,h2⟩:=Tr.bind_some h;cases h2;obtain ⟨e1,t1⟩:=jO h1;exact ⟨by simp only [aH,e1,zamW],t1⟩
 |agg cs=>
  obtain ⟨⟨p,s⟩,h1,h2⟩:=Tr.bind_some h;cases h2;obtain ⟨e1,t1⟩:=cA h1;exact ⟨by simp only [aH,e1,zamW],t1⟩
 |tup vs=>cases h
theorem hU:∀{l:List AV} {st:St} {y:List AV×St},(iV st l).run=some y->z9 st l=some y/\y.2.t=st.t
 | [],st,y,h=>by cases h;exact ⟨rfl,rfl⟩
 |x::r,st,y,h=>by
  obtain ⟨⟨a,st1⟩,h1,h2⟩:=Tr.bind_some h;obtain ⟨⟨b,st2⟩,h3,h4⟩:=Tr.bind_some h2;cases h4;obtain ⟨e1,t1⟩:=rH h1;obtain ⟨e2,t2⟩:=hU h3;simp only [z9,e1,zw,e2,zamW];exact ⟨by first|rfl|trivial,t2.trans t1⟩
theorem BJ {st st':St} {q q2:Nat×Nat×Blk} {r:Res} {v:AV} (h:iX st q q2 r=some (v,st')):st'.t=st.t:=by
 obtain ⟨_,_,_,_,_,_,_,_,_,_,_,_,_,_,_,_,_,_,_,_,_,_,rfl⟩:=nB h;rw [aD,aD]
def eM (st:St):List (List CV)->Tr (List (List PV)×St)
 | []=> .done ([],st)
 |x::r=>(dL st x).bind λ(a,st)=>(eM st r).bind λ(b,st)=> .done (a::b,st)
theorem eN:∀{l:List (List CV)} {st:St} {y:List (List PV)×St},(eM st l).run=some y->zd st l=some y/\y.2.t=st.t
 | [],st,y,h=>by cases h;exact ⟨rfl,rfl⟩
 |x::r,st,y,h=>by
  obtain ⟨⟨a,st1⟩,h1,h2⟩:=Tr.bind_some h;obtain ⟨⟨b,st2⟩,h3,h4⟩:=Tr.bind_some h2;cases h4;obtain ⟨e1,t1⟩:=cA h1;obtain ⟨e2,t2⟩:=eN h3;simp only [zd,e1,zw,e2];exact ⟨by first|rfl|trivial,t2.trans t1⟩
def CU:CV->Bool
 | .own ..=>true
 |_=>false
def nlB (e:List PV) (k:Nat):Bool:=match e[k]? with
 |some .nl=>true
 |_=>false
theorem AQ {e:List PV} {k:Nat} (h:nlB e k=true):e[k]?=some .nl:=by
 unfold nlB at h;split at h
 ·assumption
 ·cases h
def tD (st:St) (dst d n:Nat) (q:Option (Nat×Nat)) (B:Blk) (r:Res):Tr (AV×St):=
 match q with
 |none=> .ofOpt (eB st dst d n none B r)
 |some (j,o)=>match r.up with
  | [fr']=>match zC 0 fr',st.get d n,B.k with
   |some ⟨0,sz',ty',.row inner'⟩,some ⟨g,sz,ty,.deep cols rows⟩,.row inner=>if ty'=B.ty/\sz'=B.sz/\r.rows.isEmpty=true/\r.v.cvs.all isP=true then
     .opt (rows[j]?) λe=> .ask (decide (inner'.length=inner.length)) (.done (r.v.map (aG st.up.length dst st.fr),st.set d n ⟨g,sz,ty,.deep cols (rows.set j (e.set o (.ls inner')))⟩)) .fail else .fail
   |_,_,_=> .fail
  |_=> .fail
theorem wO {st:St} {dst d n:Nat} {q:Option (Nat×Nat)} {B:Blk} {r:Res} {y:AV×St} (h:(tD st dst d n q B r).run=some y):eB st dst d n q B r=some y:=by
 unfold tD at h;split at h
 ·exact Tr.ofOpt_some h
 ·rename_i j o;unfold eB;simp only;split at h
  ·rename_i fr' hup;split at h
   ·rename_i sz' ty' inner' g sz ty cols rows inner h1 h2 h3;split at h
    ·rename_i hc;obtain ⟨e,he,h⟩:=Tr.opt_some h;obtain ⟨hl,h⟩:=Tr.ask_yes h;cases h;rw [hup];simp only [h1,h2,h3,he];rw [if_pos ⟨hc.1,hc.2.1,hc.2.2.1,hc.2.2.2,hl⟩]
    ·cases h
   ·cases h
  ·cases h
def oW (st:St) (d m g sz ty j o:Nat) (cols:List (Nat×Nat×TypeId)) (rows:List (List PV)) (xs:List CV):Tr St:=
 match rQ cols o xs with
 |some (ys,none)=> .opt (rows[j]?) λe=> .ask (decide (o+ys.length<=e.length)) (.done (st.set d m ⟨g,sz,ty,.deep cols (rows.set j (zQ e o ys))⟩)) .fail
 |some (ys,some (k,esz,ety,d2,n2,g2,m2))=>match st.get d2 n2 with
  |some ⟨g2',esz',ety',.row rows2⟩=>if g2=g2'/\esz'=esz/\ety'=ety then .opt (rows[j]?) λe=> .ask (decide (o+ys.length<=e.length/\m2=rows2.length/\nlB e k=true))
    (.done ((st.set d2 n2 ⟨g2+1,esz,ety,.dead⟩).set d m ⟨g,sz,ty,.deep cols (rows.set j ((zQ e o ys).set k (.ls rows2)))⟩)) .fail else .fail
  |_=> .fail
 |none=> .fail
def CW (st:St):AV->Bool
 | .c (.own d n _ _)=>match st.get d n with|some ⟨_,_,_,.deep _ _⟩=>true|_=>false
 |_=>false
def AR (st:St) (kn:Kn) (x:AV) (ty sz bytes:Nat) (y:AV):Tr OpR:=match x,y with
 | .c (.own d n g m),.c (.own d2 n2 g2 m2)=>match st.get d n,st.get d2 n2 with
  |some ⟨g',sz',ty',.deep cols rows⟩,some ⟨g2',_,_,.box cells⟩=>
   if g=g'/\sz'=sz/\ty'=ty/\g2=g2'/\m2=1/\cells.length=sz/\0<sz/\0<bytes then match oA cols 0 cells with
    |some (ys,none)=> .ask (decide (m=rows.length/\(m+1)*bytes<=140737488355328)) (.done (.c (.own d n (g+1) (m+1)),st.set d n ⟨g+1,sz,ty,.deep cols (rows++ [ys])⟩,kn,none)) .fail
    |some (ys,some (k,esz,ety,d3,n3,g3,m3))=>match st.get d3 n3 with
     |some ⟨g3',esz',ety',.row rows3⟩=>if g3=g3'/\esz'=esz/\ety'=ety then .ask (decide (m=rows.length/\(m+1)*bytes<=140737488355328/\m3=rows3.length))
       (.done (.c (.own d n (g+1) (m+1)),(st.set d3 n3 ⟨g3+1,esz,ety,.dead⟩).set d n ⟨g+1,sz,ty,.deep cols (rows++ [ys.set k (.ls rows3)])⟩,kn,none)) .fail else .fail
     |_=> .fail
    |none=> .fail
   else .fail
  |_,_=> .fail
 |_,_=> .fail
theorem AS {st:St} {kn:Kn} {x:AV} {ty sz bytes:Nat} {y:AV} {z:OpR} (h:(AR st kn x ty sz bytes y).run=some z):∃d n g m v s,x= .c (.own d n g m)/\mI st d n g m ty sz bytes y=some (v,s)/\st.rows y=none/\(Tr.done ((v,s,kn,none):OpR)).run=some z:=by
 unfold AR at h;split at h
 ·rename_i d n g m d2 n2 g2 m2;split at h
  ·rename_i g' sz' ty' cols rows g2' sz2 ty2 cells hB hY;have hrow:st.rows (.c (.own d2 n2 g2 m2))=none:=by simp only [St.rows,hY]
   split at h
   ·rename_i hc;split at h
    ·rename_i ys hq;obtain ⟨h1,h⟩:=Tr.ask_yes h;refine ⟨d,n,g,m,_,_,rfl,?_,hrow,h⟩;simp only [mI,hB,hY];rw [if_pos ⟨hc.1,hc.2.1,hc.2.2.1,hc.2.2.2.1,hc.2.2.2.2.1,hc.2.2.2.2.2.1,hc.2.2.2.2.2.2.1,hc.2.2.2.2.2.2.2,h1.1,h1.2⟩,hq];rfl
    ·rename_i ys k esz ety d3 n3 g3 m3 hq;split at h
     ·rename_i g3' esz' ety' rows3 hR;split at h
      ·rename_i hc3;obtain ⟨h1,h⟩:=Tr.ask_yes h;refine ⟨d,n,g,m,_,_,rfl,?_,hrow,h⟩;simp only [mI,hB,hY];rw [if_pos ⟨hc.1,hc.2.1,hc.2.2.1,hc.2.2.2.1,hc.2.2.2.2.1,hc.2.2.2.2.2.1,hc.2.2.2.2.2.2.1,hc.2.2.2.2.2.2.2,h1.1,h1.2.1⟩,hq];simp only [zw,hR];rw [if_pos ⟨hc3.1,hc3.2.1,hc3.2.2,h1.2.2⟩]
      ·cases h
     ·cases h
    ·cases h
   ·cases h
  ·cases h
 ·cases h
def kG (CT:fB) (st:St) (kn:Kn) (dst:Nat):KOp->Tr OpR
 | .mv x=> .done (st.eval x,st,kn,knX kn x)
 | .pick c a b=>AN st kn c λv st kn=>match v with
  |true=> .done (st.eval a,st,kn,knX kn a)
  |false=> .done (st.eval b,st,kn,knX kn b)
 | .un op x=>match op,st.eval x with
  | .not,.c (.p (.b v))=> .done (.c (.p (.b (!v))),st,kn,(knX kn x).map (!·))
  |_,_=>mK st kn dst (.un op x)
 | .bin op x y=>match st.eval x,st.eval y with
  | .c (.p (.i k a)),.c (.p (.i k' b))=>if k=k' then Bb op k (CS y) a b (λr=> .done (.c (.p r),st,kn,none)) else .fail
  | .c (.p (.s a)),.c (.p (.s b))=>match op with
   | .add=> .ask (decide (a.size+b.size<=9223372036854775807)) (.done (.c (.p (.s (a++b))),st,kn,none)) .fail
   |op=>match wT op a b with
    |some r=> .done (.c (.p r),st,kn,none)
    |none=> .fail
  |_,_=> .fail
 | .load g n ks a=>match st.eval a with
  | .c (.rp e o)=>if ks.length=n/\0<n then (iS e o ks).bind λcs=>match dZ g cs with
    |some v=> .done (v,st,kn,none)
    |none=> .fail
   else .fail
  | .c (.ptr d m gg j o)=>match st.get d m with
   |some ⟨g',_,_,.row rows⟩=>if gg=g'/\ks.length=n/\0<n/\o≠KO then .opt (rows[j]?) λe=>(iS e o ks).bind λcs=>match dZ g cs with
     |some v=> .done (v,st,kn,none)
     |none=> .fail
    else .fail
   |some ⟨g',_,_,.deep cols rows⟩=>if gg=g'/\ks.length=n/\0<n/\o≠KO then .opt (rows[j]?) λe=>(rC d m gg j cols e o ks).bind λcs=>match dZ g cs with
     |some v=> .done (v,st,kn,none)
     |none=> .fail
    else .fail
   |_=>mK st kn dst (.load g n ks a)
  | .c (.rf _ _)=>mK st kn dst (.load g n ks a)
  |_=> .fail
 | .store n a x=>match st.eval a,st.eval x with
  | .c (.ptr d m gg j o),v=>match st.get d m,v with
   |some ⟨_,_,_,.row _⟩,.tup _=> .fail
   |some ⟨_,_,_,.row _⟩,v=>if v.cvs.length=n/\v.cvs.all (·.known)=true then
     (dL st v.cvs).bind λ(ys,st)=>match st.get d m with
      |some ⟨g',sz,ty,.row rows⟩=>if gg=g'/\o≠KO then .opt (rows[j]?) λe=> .ask (decide (o+ys.length<=e.length)) (.done (.c .u,st.set d m ⟨g',sz,ty,.row (rows.set j (zQ e o ys))⟩,kn,none)) .fail else .fail
      |_=> .fail
    else .fail
   |some ⟨_,_,_,.deep _ _⟩,.tup _=> .fail
   |some ⟨g',sz,ty,.deep cols rows⟩,v=>if v.cvs.length=n/\v.cvs.all (·.known)=true/\gg=g'/\o≠KO then
     (oW st d m g' sz ty j o cols rows v.cvs).bind λs=> .done (.c .u,s,kn,none) else .fail
   |_,_=>mK st kn dst (.store n a x)
  |_,_=> .fail
 | .index x i=>match st.eval x,st.eval i with
  | .c (.p (.s s)),.c (.p (.i .i64 i))=> .ask (decide (0<=i)) (.opt (s.toList[i.toNat]?) λc=> .done (.c (.p (.i .u8 c.toNat)),st,kn,none)) .fail
  |_,_=> .fail
 | .iaddr sz x i=>match st.eval x,st.eval i with
  | .c (.p (.ls rows)),.c (.p (.i .i64 z))=> .ask (decide (0<=z/\z<rows.length)) (.opt (rows[z.toNat]?) λe=> .ask (decide (e.length=sz)) (.done (.c (.rp e 0),st,kn,none)) .fail) .fail
  | .c (.own d n g m),.c (.p (.i .i64 z))=>match st.get d n with
   |some ⟨g',sz',_,.row rows⟩=>if g=g'/\sz'=sz then .ask (decide (m=rows.length/\0<=z/\z<m)) (.done (.c (.ptr d n g z.toNat 0),st,kn,none)) .fail else .fail
   |some ⟨g',sz',_,.deep _ rows⟩=>if g=g'/\sz'=sz then .ask (decide (m=rows.length/\0<=z/\z<m)) (.done (.c (.ptr d n g z.toNat 0),st,kn,none)) .fail else .fail
   |_=>mK st kn dst (.iaddr sz x i)
  |_,_=> .fail
 | .slcS x lo hi=>match st.eval x,st.bound 0 lo with
  | .c (.p (.s s)),some l=>match st.bound s.size hi with
   |some h=> .ask (decide (0<=l/\l<=h/\h<=s.size)) (.done (.c (.p (.s (s.extract l.toNat h.toNat))),st,kn,none)) .fail
   |none=> .fail
  |_,_=> .fail
 | .slc sz x lo hi=>match st.eval x,st.bound 0 lo with
  | .c (.p (.ls rows)),some l=>match st.bound rows.length hi with
   |some h=> .ask (decide (0<=l/\l<=h/\h<=rows.length/\rows.all (λe=>e.length==sz)=true)) (.done (.c (.p (.ls ((rows.take h.toNat).drop l.toNat))),st,kn,none)) .fail
   |none=> .fail
  |_,_=> .fail
 | .toStr x=>(uX st (st.eval x)).bind λrows=> .opt (bytesOf rows) λl=> .done (.c (.p (.s ⟨l.toArray⟩)),st,kn,none)
 | .app ty sz bytes x y=>if CW st (st.eval x)=true then AR st kn (st.eval x) ty sz bytes (st.eval y) else (uX st (st.eval y)).bind λys=>match st.eval x with
  | .c (.p .nl)=> .ask (decide (0<sz/\0<bytes/\ys.length*bytes<=140737488355328/\ys.all (λe=>e.length==sz)=true))
    (.done (.c (.own st.up.length (dst*64) (st.fresh (dst*64)) ys.length),(st.new (dst*64) sz ty (.row ys)).2,kn,none)) .fail
  | .c (.own d n g m)=>match st.get d n with
   |some ⟨g',sz',ty',.row rows⟩=>if g=g'/\sz'=sz/\ty'=ty then .ask (decide (m=rows.length/\0<sz/\0<bytes/\(m+ys.length)*bytes<=140737488355328/\ys.all (λe=>e.length==sz)=true))
     (.done (.c (.own d n (g+1) (m+ys.length)),st.set d n ⟨g+1,sz,ty,.row (rows++ys)⟩,kn,none)) .fail else .fail
   |_=> .fail
  |_=> .fail
 | .mksl ty sz bytes cols zero l c=>match st.eval l,st.eval c with
  | .c (.p (.i .i64 l)),.c (.p (.i .i64 c))=>if zero.length=sz/\wV cols zero=true then .ask (decide (0<=l/\l=c/\bytes*l<=140737488355328/\l<=9223372036854775807))
    (.done (.c (.own st.up.length (dst*64) (st.fresh (dst*64)) l.toNat),(st.new (dst*64) sz ty (kK cols (pE zero l.toNat))).2,kn,none)) .fail else .fail
  |_,_=> .fail
 | .call true f args=>match st.eval f with
  | .c (.fn f caps)=>(oU st (args.map st.eval++caps.map Cap.av)).bind λ(as,lent)=>(CT f as []).bind λr=>if iC r=true then
    (if lent=false then .done (r.v.map (aG st.up.length dst st.fr),{st with fr:=z8 dst r.rows 0 st.fr},kn,none) else .ask (aN r) (.done (r.v.map (aG st.up.length dst st.fr),{st with fr:=z8 dst r.rows 0 st.fr},kn,none)) .fail) else .fail
  |_=> .fail
 | .call false f args=>match st.eval f with
  | .c (.fn f caps)=>(oV st (args.map st.eval++caps.map Cap.av)).bind λ(as,d,n,q,B)=>(CT f as [[(0,B)]]).bind λr=>(tD st dst d n q B r).bind λ(v,s)=> .done (v,s,kn,none)
  |_=> .fail
 | .callN f args=>match st.eval f with
  | .c (.fn f caps)=>match args.map st.eval++caps.map Cap.av with
   |a::r=>(iV st r).bind λ(r,st)=>match gH st a with
    |some (a,q,q2)=>(CT f (a::r) [[(0,q.2.2),(1,q2.2.2)]]).bind λres=>match iX st q q2 res with
     |some (v,s)=> .done (v,s,kn,none)
     |none=> .fail
    |none=> .fail
   | []=> .fail
  |_=> .fail
 | .bslice ty sz len cols zero parts=>match bD ((List.replicate len zero).map (·.map .p)) sz (parts.map λ(j,x)=>(j,st.eval x)) with
  |some rows=>if (cols.isEmpty=true\/len=0)/\rows.any (·.any CU)=true then (eM st rows).bind λ(rs,st)=> .done (.c (.own st.up.length (dst*64) (st.fresh (dst*64)) len),(st.new (dst*64) sz ty (bsK cols len rs)).2,kn,none) else mK st kn dst (.bslice ty sz len cols zero parts)
  |none=> .fail
 |k=>mK st kn dst k
def eX (CT:fB) (st:St) (kn:Kn) (o:KOper):Tr (St×Kn):=
 let go:St->Kn->Tr (St×Kn):=λst kn=>(kG CT st kn (o.dst.getD 0) o.op).bind λ(v,s,kn,kb)=> .done ({s with t:=cS s.t o.dst v},nS kn o.dst kb)
 match o.guard with
 |none=>go st kn
 |some (j,want)=>match zC j st.t with
  |some (.tup [])=> .done ({st with t:=cS st.t o.dst (.tup [])},nS kn o.dst none)
  |_=>AN st kn (.t j) λv st kn=>if v=want then go st kn else .done ({st with t:=cS st.t o.dst (.tup [])},nS kn o.dst none)
def mE (CT:fB):List KOper->St->Kn->Tr (St×Kn)
 | [],st,kn=> .done (st,kn)
 |o::r,st,kn=>(eX CT st kn o).bind λ(st,kn)=>mE CT r st kn
def oX (CT:fB):List (KOper×List Bool)->List Tch->St->Kn->Tr (St×Kn)
 | [],_,st,kn=> .done (st,kn)
 |(o,bs)::r,ts,st,kn=>if wW bs ts (tch st o)=true then (eX CT st kn o).bind λp=>oX CT r (tch st o::ts) p.1 p.2 else .fail
def cP (CT:fB) (LT:jU):KCode->St->Kn->Tr (Ex×St×Kn)
 | .skip,st,kn=> .done (.normal,st,kn)
 | .ops l,st,kn=>(mE CT l st kn).bind λ(st,kn)=> .done (.normal,st,kn)
 | .draw l,st,kn=>(oX CT l [] st kn).bind λ(st,kn)=> .done (.normal,st,kn)
 | .seq a b,st,kn=>(cP CT LT a st kn).bind λ(e,st,kn)=>match e with
  | .normal=>cP CT LT b st kn
  |e=> .done (e,st,kn)
 | .cond c a b,st,kn=>AN st kn c λv st kn=>match v with
  |true=>cP CT LT a st kn
  |false=>cP CT LT b st kn
 | .block id c,st,kn=>(cP CT LT c st kn).bind λ(e,st,kn)=> .done (if e= .exit id then .normal else e,st,kn)
 | .loop mk keep aO c,st,kn=>(LT mk (st.norm keep)).bind λ(e,s)=> .done (e,s,[])
 | .exit id,st,kn=> .done (.exit id,st,kn)
 | .ret,st,kn=> .done (.ret,st,kn)
def AT (st:St):List (Bool×List CV)->Tr (List (Bool×List CV)×St)
 | []=> .done ([],st)
 |(g,cs)::r=>(dL st cs).bind λ(ps,st)=>(AT st r).bind λ(l,st')=> .done ((g,ps.map CV.p)::l,st')
def oY (kf:KFun) (e:Ex) (st:St):Tr Res:=
 if (e= .normal\/e= .ret)/\kf.frozen=true then match dX st kf.results with
  |some l=>(AT st l).bind λ(l,st)=> .done ⟨aR l,st.up,[]⟩
  |none=> .fail
 else if e= .normal\/e= .ret then match (dX st kf.results).bind (rV st) with
  |some r=> .done r
  |none=> .fail
 else .fail
def B7 (kf:KFun) (args:List AV) (up:List Frame) (r:Res):Tr Res:=
 if kf.nil1=true then match args,up with
  | [.c (.p (.ls rows))],[]=> .ask (!rows.isEmpty||fM r) (.done r) .fail
  |_,_=> .fail
 else .done r
def BL (CT:fB) (LT:jU) (kf:KFun) (args:List AV) (up:List Frame):Tr Res:=
 if args.length=kf.params.length then (cP CT LT kf.body ⟨kN args 0,[],up⟩ []).bind λ(e,st,_)=>(oY kf e st.low).bind (B7 kf args up) else .fail
def jV (CT:fB) (run:zk):Prop:=∀f args up r,(CT f args up).run=some r->run f args up=some r
def aK:KCode->List (Nat×List Nat×List (Ex×List Nat)×KCode)
 | .seq a b| .cond _ a b=>aK a++aK b
 | .block _ c=>aK c
 | .loop mk keep aO c=> [(mk,keep,aO,c)]
 |_=> []
def fJ (body:St->Option (Ex×St)) (keep:List Nat):Nat->St->Option (Ex×St)
 |0,_=>none
 |m+1,st=>(body st).bind λ(e,s)=>match e with
  | .normal=>fJ body keep m (s.norm keep)
  |e=>some (e,s)
theorem uY (body:St->Option (Ex×St)) (keep:List Nat):∀(m:Nat) (st:St),rU body keep m st=fJ body keep m (st.norm keep)
 |0,st=>rfl
 |m+1,st=>by
  simp only [rU,fJ]
  congr 1
  funext p
  obtain ⟨e,s⟩:=p;cases e with
  |normal=>exact uY body keep m s
  |_=>rfl
def rI (LT:jU) (run:zk) (N:Nat) (c:KCode):Prop:=
 ∀mk keep aO b,(mk,keep,aO,b)∈aK c->∀st e s,(LT mk st).run=some (e,s)->∃s0,fJ (zq run N b) keep N st=some (e,s0)/\s=s0.norm (fD e aO)
section
variable {CT:fB} {LT:jU} {run:zk} {N:Nat} {st:St} {kn:Kn}
theorem BM {dst:Nat} {k:KOp} {v:AV} {s:St} {kn':Kn} {kb:Option Bool} (hk:KnOK kn st) (h:(mK st kn dst k).run=some (v,s,kn',kb)) (hst:∀{v s},zB Ba st dst k=some (v,s)->s.t=st.t):
  zB run st dst k=some (v,s)/\s.t=st.t/\KnOK kn' s/\∀b,kb=some b->v= .c (.p (.b b)):=by
 unfold mK at h;split at h
 ·rename_i v' s' he;cases h;have ht:=hst he;exact ⟨rB (λf a u r h=>by cases h) he,ht,hk.frame ht,λb hb=>by cases hb⟩
 ·cases h
theorem nV {c:CV} {st:St} {y:PV×St} (h:aX st c=some y):y.2.t=st.t:=by
 unfold aX at h;split at h
 ·cases h;rfl
 ·split at h
  ·split at h
   ·cases h;exact aD _ _ _ _
   ·cases h
  ·cases h
 ·cases h
theorem eY:∀{l:List CV} {st:St} {y:List PV×St},zx st l=some y->y.2.t=st.t
 | [],st,y,h=>by cases h;rfl
 |x::r,st,y,h=>by
  simp only [zx,zH,zO] at h;obtain ⟨⟨a,s1⟩,h1,⟨b,s2⟩,h2,rfl⟩:=h;exact (eY h2).trans (nV h1)
theorem hX:∀{l:List (List CV)} {st:St} {y:List (List PV)×St},zd st l=some y->y.2.t=st.t
 | [],st,y,h=>by cases h;rfl
 |x::r,st,y,h=>by
  simp only [zd,zH,zO] at h;obtain ⟨⟨a,s1⟩,h1,⟨b,s2⟩,h2,rfl⟩:=h;exact (hX h2).trans (eY h1)
theorem mF:∀{l:List AV} {st:St} {y:List AV×St},z9 st l=some y->y.2.t=st.t
 | [],st,y,h=>by cases h;rfl
 |x::r,st,y,h=>by
  simp only [z9,zH,zD] at h;obtain ⟨⟨a,s1⟩,h1,⟨b,s2⟩,h2,rfl⟩:=h;refine (mF h2).trans ?_;cases x with
  |c x=>
   simp only [aH,zD,zamL,Prod.exists] at h1;obtain ⟨p,s,h3,_,rfl⟩:=h1;exact nV h3
  |agg cs=>
   simp only [aH,zD,zamL,Prod.exists] at h1;obtain ⟨p,s,h3,_,rfl⟩:=h1;exact eY h3
  |tup vs=>cases h1
theorem BN {st:St} {dst d n:Nat} {q:Option (Nat×Nat)} {B:Blk} {r:Res} {v:AV} {s:St} (h:eB st dst d n q B r=some (v,s)):s.t=st.t:=by
 unfold eB at h;split at h
 ·split at h
  ·split at h
   ·split at h
    ·split at h
     ·cases h;exact aD _ _ _ _
     ·cases h
    ·cases h
   ·cases h
  ·cases h
 ·split at h
  ·split at h
   ·split at h
    ·cases h;exact aD _ _ _ _
    ·cases h
   ·cases h
  ·cases h
theorem oZ {a:AV} {xs:List CV} {s:St} (h:st.write a xs=some s):s.t=st.t:=by
 unfold St.write at h;split at h
 ·split at h
  ·split at h
   ·cases h;exact aD _ _ _ _
   ·cases h
  ·simp only [zH] at h;obtain ⟨⟨ys,s1⟩,h1,h⟩:=h;have ht:=eY h1;simp only at h ht;split at h
   ·split at h
    ·split at h
     ·split at h
      ·cases h;exact (aD _ _ _ _).trans ht
      ·cases h
     ·cases h
    ·cases h
   ·cases h
  ·obtain ⟨⟨ys,q⟩,_,h⟩:=zH.1 h;simp only at h;split at h
   ·split at h
    ·split at h
     ·split at h
      ·cases h;exact aD _ _ _ _
      ·split at h
       ·split at h
        ·cases h;rw [aD,aD]
        ·cases h
       ·cases h
     ·cases h
    ·cases h
   ·cases h
  ·cases h
 ·cases h
theorem eZ {base:Nat}:∀(l:List (Nat×TypeId×Nat)) (i:Nat) (cs:List CV) (st:St),(zU base l i cs st).2.t=st.t
 | [],_,_,_=>rfl
 |(col,ty,sz)::r,i,cs,st=>by
  unfold zU;split
  ·exact eZ r (i+1) _ _
  ·exact eZ r (i+1) cs st
theorem rJ {dst:Nat} {k:KOp} {v:AV} {s:St} (h:zB run st dst k=some (v,s)):s.t=st.t:=by
 cases k<;>simp only [zB] at h
 case nil=>cases h;rfl
 case mv=>cases h;rfl
 case mvR=>
  split at h
  ·split at h
   ·split at h
    ·split at h
     ·cases h;exact aD _ _ _ _
     ·cases h
    ·cases h
   ·cases h;rfl
  ·cases h;rfl
 case rel=>
  split at h
  ·split at h<;>cases h;rfl
  ·cases h
 case pick=>split at h<;>cases h;rfl
 case box=>
  split at h
  ·cases h
  ·split at h
   ·cases h;rfl
   ·cases h
 case build=>
  obtain ⟨cs,_,h⟩:=zD.1 h;cases h;rfl
 case bslice=>
  obtain ⟨rows,_,h⟩:=zH.1 h;split at h
  ·rename_i rs s1 hf;cases h;unfold frz at hf;split at hf
   ·exact hX hf
   ·cases hf
  ·split at h
   ·cases h;rfl
   ·cases h
 case load=>
  obtain ⟨cs,_,h⟩:=zH.1 h;obtain ⟨v',_,h⟩:=zD.1 h;cases h;rfl
 case store=>
  split at h
  ·cases h
  ·split at h
   ·obtain ⟨s',h1,h⟩:=zD.1 h;cases h;exact oZ h1
   ·cases h
 case storeN=>
  split at h
  ·cases h
  ·split at h
   ·obtain ⟨s',h1,h⟩:=zD.1 h;cases h;exact (oZ h1).trans (eZ _ _ _ _)
   ·cases h
 case chk=>
  split at h
  ·split at h<;>cases h;rfl
  ·cases h;rfl
  ·cases h;rfl
  ·cases h
 case bin=>
  split at h
  ·obtain ⟨_,_,h⟩:=zD.1 h;cases h;rfl
  ·cases h
 case eqs=>
  split at h
  ·obtain ⟨_,_,h⟩:=zD.1 h;cases h;rfl
  ·cases h
 case beq=>split at h<;>cases h;rfl
 case inil=>split at h<;>cases h<;>rfl
 case un=>
  split at h
  ·obtain ⟨_,_,h⟩:=zD.1 h;cases h;rfl
  ·cases h
 case conv=>split at h<;>cases h;rfl
 case str=>split at h<;>cases h;rfl
 case toStr=>
  obtain ⟨_,_,h⟩:=zH.1 h;obtain ⟨_,_,h⟩:=zD.1 h;cases h;rfl
 case mkfn=>obtain ⟨_,_,h⟩:=zD.1 h;cases h;rfl
 case mksl=>
  obtain ⟨_,_,h⟩:=zH.1 h;obtain ⟨_,_,h⟩:=zH.1 h;split at h<;>cases h;rfl
 case slcS=>
  split at h
  ·obtain ⟨_,_,h⟩:=zH.1 h;obtain ⟨_,_,h⟩:=zH.1 h;split at h<;>cases h;rfl
  ·cases h
 case slc=>
  split at h
  ·obtain ⟨_,_,h⟩:=zH.1 h;obtain ⟨_,_,h⟩:=zH.1 h;split at h<;>cases h;rfl
  ·cases h
 case faddr=>
  split at h
  ·split at h<;>cases h;rfl
  ·cases h;rfl
  ·cases h
 case field=>
  split at h
  ·split at h
   ·obtain ⟨_,_,h⟩:=zD.1 h;cases h;rfl
   ·cases h
  ·cases h
 case iaddr=>
  obtain ⟨i,_,h⟩:=zH.1 h;split at h
  ·split at h
   ·split at h
    ·split at h<;>cases h;rfl
    ·cases h
   ·cases h
  ·split at h
   ·split at h<;>cases h;rfl
   ·split at h<;>cases h;rfl
   ·split at h<;>cases h;rfl
   ·cases h
  ·cases h
 case index=>
  obtain ⟨i,_,h⟩:=zH.1 h;split at h
  ·split at h
   ·split at h<;>cases h;rfl
   ·cases h
  ·cases h
 case ext=>
  split at h
  ·split at h
   ·obtain ⟨_,_,h⟩:=zD.1 h;cases h;rfl
   ·cases h
  ·cases h
 case app=>
  split at h
  ·split at h<;>cases h;rfl
  ·split at h
   ·split at h
    ·cases h;exact aD _ _ _ _
    ·cases h
   ·cases h
  ·unfold mI at h;split at h
   ·split at h
    ·split at h
     ·obtain ⟨⟨ys,q⟩,_,h⟩:=zH.1 h;cases q with
      |none=>simp only at h;cases h;exact aD _ _ _ _
      |some t=>
       obtain ⟨k,esz,ety,d3,n3,g3,m3⟩:=t;simp only at h;split at h
       ·split at h
        ·cases h;rw [aD,aD]
        ·cases h
       ·cases h
     ·cases h
    ·cases h
   ·cases h
  ·cases h
 case boxN=>
  split at h
  ·cases h
  ·split at h
   ·cases h;rfl
   ·cases h
 case storeB=>
  split at h
  ·obtain ⟨s',h1,h⟩:=zD.1 h;cases h;exact (oZ h1).trans (eZ _ _ _ _)
  ·cases h
 case callN f args=>
  split at h
  ·cases hq:args.map st.eval++(List.map Cap.av ‹_›) with
   |nil=>rw [hq] at h;cases h
   |cons a0 r=>
    rw [hq] at h;simp only [callN] at h;obtain ⟨⟨r',s1⟩,h1,h⟩:=zH.1 h;obtain ⟨⟨a',q,q2⟩,h2,h⟩:=zH.1 h;obtain ⟨res,h3,h⟩:=zH.1 h;exact (BJ h).trans (mF h1)
  ·cases h
 case len s x=>
  cases s
  ·simp only [zB] at h;split at h
   ·cases h;rfl
   ·cases h;rfl
   ·split at h<;>cases h;rfl
   ·split at h<;>cases h;rfl
   ·cases h
  ·simp only [zB] at h;split at h<;>cases h;rfl
 case mm=>obtain ⟨_,_,h⟩:=zD.1 h;cases h;rfl
 case call bo f args=>
  split at h
  ·unfold cI at h;split at h
   ·obtain ⟨⟨as,l⟩,_,h⟩:=zH.1 h;obtain ⟨r,_,h⟩:=zH.1 h;split at h<;>cases h;rfl
   ·obtain ⟨⟨ar,d,n,q,B⟩,_,h⟩:=zH.1 h;obtain ⟨r,_,h⟩:=zH.1 h;exact BN h
  ·cases h
def AU (run:zk) (st:St) (dst:Nat) (k:KOp) (x:OpR):Prop:=zB run st dst k=some (x.1,x.2.1)/\KnOK x.2.2.1 x.2.1/\∀b,x.2.2.2=some b->x.1= .c (.p (.b b))
theorem cQ {dst:Nat} {k:KOp} {x:OpR} (hk:KnOK kn st) (h:(mK st kn dst k).run=some x):AU run st dst k x:=by
 obtain ⟨v,s,kn',kb⟩:=x;obtain ⟨h1,h2,h3,h4⟩:=BM (run:=run) hk h (λh=>rJ h);exact ⟨h1,h3,h4⟩
theorem fA {dst:Nat} {k:KOp} {v:AV} {kn':Kn} {kb:Option Bool} {x:OpR} (he:zB run st dst k=some (v,st)) (hk:KnOK kn' st) (hb:∀b,kb=some b->v= .c (.p (.b b))) (h:(Tr.done (v,st,kn',kb)).run=some x):AU run st dst k x:=by
 cases h;exact ⟨he,hk,hb⟩
theorem zj {dst:Nat} {k:KOp} {v:AV} {s:St} {x:OpR} (he:zB run st dst k=some (v,s)) (hk:KnOK kn st) (h:(Tr.done (v,s,kn,none)).run=some x):AU run st dst k x:=by
 cases h;exact ⟨he,hk.frame (rJ he),λb hb=>by cases hb⟩
theorem wP {a:AV} {y:AV×Nat×Nat×Option (Nat×Nat)×Blk} (h:(tC st a).run=some y):dE st a=some y:=by
 unfold tC at h;unfold dE;split at h
 ·split at h
  ·rename_i g' sz ty rows hB;split at h
   ·rename_i hg;obtain ⟨hm,h⟩:=Tr.ask_yes h;cases h;simp only [hB];rw [if_pos ⟨hg,hm⟩]
   ·cases h
  ·rename_i g' sz ty cols rows hB;split at h
   ·rename_i hg;obtain ⟨hm,h⟩:=Tr.ask_yes h;cases h;simp only [hB];rw [if_pos ⟨hg,hm⟩]
   ·cases h
  ·cases h
 ·obtain ⟨q,h1,h2⟩:=Tr.bind_some h;cases h2;simp only [uW h1,zamW]
 ·split at h
  ·rename_i g' sz ty cells hB;split at h
   ·rename_i hc;cases h;simp only [hB];rw [if_pos hc]
   ·cases h
  ·cases h
 ·cases h
theorem tE {a:AV} (h:¬AP a=true):dE st a=none:=by
 unfold AP at h;unfold dE;split
 ·simp at h
 ·simp at h
 ·simp at h
 ·rfl
theorem nW:∀{l:List AV} {y:List AV×Nat×Nat×Option (Nat×Nat)×Blk},(oV st l).run=some y->cH st l=some y
 | [],y,h=>by cases h
 |a::r,y,h=>by
  simp only [oV] at h;simp only [cH];split at h
  ·obtain ⟨⟨a',q⟩,h1,h⟩:=Tr.bind_some h;rw [wP h1];simp only at h⊢;split at h
   ·rename_i r' hr;cases h;rw [hr];rfl
   ·cases h
  ·rename_i hn;rw [tE hn];simp only;split at h
   ·rename_i a' ha;obtain ⟨⟨r',q⟩,h1,h⟩:=Tr.bind_some h;cases h;rw [ha,nW h1];rfl
   ·cases h
theorem rK {n dst:Nat} {a x:KX} (h:∀vs,st.eval x= .tup vs->False):zB run st dst (.store n a x)=if (st.eval x).cvs.length=n/\(st.eval x).cvs.all (·.known)=true then (st.write (st.eval a) (st.eval x).cvs).map λst=>(.c .u,st) else none:=by
 simp only [zB]
theorem tG {st:St} {d m g sz ty j o gg:Nat} {cols:List (Nat×Nat×TypeId)} {rows:List (List PV)} {xs:List CV} {s:St} (h:(oW st d m g sz ty j o cols rows xs).run=some s) (hB:st.get d m=some ⟨g,sz,ty,.deep cols rows⟩) (hg:gg=g/\o≠KO):
  st.write (.c (.ptr d m gg j o)) xs=some s:=by
 simp only [St.write,hB];unfold oW at h;split at h
 ·rename_i ys hp;obtain ⟨e,he,h⟩:=Tr.opt_some h;obtain ⟨h1,h⟩:=Tr.ask_yes h;cases h;rw [hp];simp only [zw];rw [if_pos hg,he];simp only;rw [if_pos h1]
 ·rename_i ys k esz ety d2 n2 g2 m2 hp;split at h
  ·rename_i g2' esz' ety' rows2 hR;split at h
   ·rename_i hc;obtain ⟨e,he,h⟩:=Tr.opt_some h;obtain ⟨h1,h⟩:=Tr.ask_yes h;cases h;rw [hp];simp only [zw];rw [if_pos hg,he];simp only;rw [if_pos h1.1,hR,AQ h1.2.2];simp only;rw [if_pos ⟨hc.1,hc.2.1,hc.2.2,h1.2.1⟩]
   ·cases h
  ·cases h
 ·cases h
theorem tH (hC:jV CT run) (hk:KnOK kn st) {dst:Nat} {k:KOp} {x:OpR} (h:(kG CT st kn dst k).run=some x):AU run st dst k x:=by
 unfold kG at h;split at h
 ·--mv
  exact fA rfl hk (λb hb=>oR hk hb) h
 ·--pick
  obtain ⟨v,kn',h1,h2,h3⟩:=oS hk h;cases v
  ·exact fA (by simp only [zB,h1];rfl) h2 (λb hb=>oR h2 hb) h3
  ·exact fA (by simp only [zB,h1];rfl) h2 (λb hb=>oR h2 hb) h3
 ·--un
  split at h
  ·rename_i v hx;refine fA (by simp only [zB,hx,unP];rfl) hk (λb hb=>?_) h;obtain ⟨c,hc,rfl⟩:=zD.1 hb;have:=oR hk hc;rw [hx] at this;cases this;rfl
  ·exact cQ hk h
 ·--bin
  rename_i op x y;split at h
  ·rename_i k a k' b hx hy;split at h
   ·rename_i e;subst e;have key:∀{r:PV} {z:OpR},nZ op k a b=some r->(Tr.done ((.c (.p r),st,kn,none):OpR)).run=some z->AU run st dst (.bin op x y) z:=fun {r z} hr h'=>
     zj (by simp only [zB,hx,hy,rR,if_true,hr,zamW]) hk h'
    unfold Bb at h;split at h
    ·split at h
     ·split at h
      ·rename_i r hr;exact key hr h
      ·cases h
     ·rcases Tr.ask_some h with ⟨_,h2⟩|⟨h1,h2⟩
      ·cases h2
      ·have h1:¬b=0:=by simpa using h1
       exact key (by simp only [nZ];rw [if_neg h1]) h2
    ·split at h
     ·split at h
      ·rename_i r hr;exact key hr h
      ·cases h
     ·rcases Tr.ask_some h with ⟨_,h2⟩|⟨h1,h2⟩
      ·cases h2
      ·have h1:¬b=0:=by simpa using h1
       exact key (by simp only [nZ];rw [if_neg h1]) h2
    ·split at h
     ·split at h
      ·rename_i r hr;exact key hr h
      ·cases h
     ·cases h
    ·split at h
     ·split at h
      ·rename_i r hr;exact key hr h
      ·cases h
     ·cases h
    ·split at h
     ·rename_i r hr;exact key hr h
     ·cases h
   ·cases h
  ·rename_i a b hx hy;split at h
   ·obtain ⟨h1,h2⟩:=Tr.ask_yes h;exact zj (by simp only [zB,hx,hy,rR,wT];rw [if_pos h1];rfl) hk h2
   ·split at h
    ·rename_i r hr;exact zj (by simp only [zB,hx,hy,rR,hr,zamW]) hk h
    ·cases h
  ·cases h
 ·--load
  rename_i g n ks a;split at h
  ·rename_i e o ha;split at h
   ·rename_i hc;obtain ⟨cs,h1,h2⟩:=Tr.bind_some h;obtain ⟨ps,rfl,h3,h4⟩:=iT h1;obtain ⟨h5,h6⟩:=fZ (by omega) h4;split at h2
    ·rename_i v hv;rw [h3,hc.1] at h5 h6;exact zj (by simp only [zB,ha,St.read];rw [if_pos h5,h6];simp only [zw,hv,zamW]) hk h2
    ·cases h2
   ·cases h
  ·rename_i d m gg j o ha;split at h
   ·rename_i g' sz ty rows hB;split at h
    ·rename_i hc;obtain ⟨e,he,h⟩:=Tr.opt_some h;obtain ⟨cs,h1,h2⟩:=Tr.bind_some h;obtain ⟨ps,rfl,h3,h4⟩:=iT h1;obtain ⟨h5,h6⟩:=fZ (by omega) h4;split at h2
     ·rename_i v hv;rw [h3,hc.2.1] at h5 h6;exact zj (by simp only [zB,ha,St.read,hB];rw [if_pos ⟨hc.1,hc.2.2.2⟩,he];simp only;rw [if_pos h5,h6];simp only [zw,hv,zamW]) hk h2
     ·cases h2
    ·cases h
   ·rename_i g' sz ty cols rows hB;split at h
    ·rename_i hc;obtain ⟨e,he,h⟩:=Tr.opt_some h;obtain ⟨cs,h1,h2⟩:=Tr.bind_some h;obtain ⟨ps,rfl,h3,h4⟩:=rD h1;obtain ⟨h5,h6⟩:=fZ (by omega) h4;split at h2
     ·rename_i v hv;rw [h3,hc.2.1] at h5 h6;exact zj (by simp only [zB,ha,St.read,hB];rw [if_pos ⟨hc.1,hc.2.2.2⟩,he];simp only;rw [if_pos h5,h6];simp only [zw,hv,zamW]) hk h2
     ·cases h2
    ·cases h
   ·exact cQ hk h
  ·exact cQ hk h
  ·cases h
 ·--store
  rename_i n a x;split at h
  ·rename_i d m gg j o v ha;split at h
   ·cases h
   ·rename_i B1 B2 B3 B4 hB hnt;split at h
    ·rename_i hc;obtain ⟨⟨ys,s1⟩,h1,h2⟩:=Tr.bind_some h;obtain ⟨h3,h4⟩:=cA h1;simp only at h2;split at h2
     ·rename_i g' sz ty rows hB';split at h2
      ·rename_i hg;obtain ⟨e,he,h2⟩:=Tr.opt_some h2;obtain ⟨h5,h2⟩:=Tr.ask_yes h2;refine zj ?_ hk h2;rw [rK hnt,if_pos hc,ha];simp only [St.write,hB,h3,zw,hB'];rw [if_pos hg,he];simp only;rw [if_pos h5];rfl
      ·cases h2
     ·cases h2
    ·cases h
   ·cases h
   ·rename_i g' sz ty cols rows hB hnt;split at h
    ·rename_i hc;obtain ⟨s2,h1,h2⟩:=Tr.bind_some h;refine zj ?_ hk h2;rw [rK hnt,if_pos ⟨hc.1,hc.2.1⟩,ha];rw [tG h1 hB hc.2.2];rfl
    ·cases h
   ·exact cQ hk h
  ·cases h
 ·--index
  split at h
  ·rename_i s i hx hi;obtain ⟨h1,h⟩:=Tr.ask_yes h;obtain ⟨c,h2,h⟩:=Tr.opt_some h;exact zj (by simp only [zB,hi,bP,zw,hx];rw [if_pos h1,h2]) hk h
  ·cases h
 ·--iaddr
  rename_i sz x i;split at h
  ·rename_i rows z hx hi;obtain ⟨h1,h⟩:=Tr.ask_yes h;obtain ⟨e,h2,h⟩:=Tr.opt_some h;obtain ⟨h3,h⟩:=Tr.ask_yes h;exact zj (by simp only [zB,hi,bP,zw,hx];rw [if_pos h1,h2];simp only;rw [if_pos h3]) hk h
  ·rename_i d n g m z hx hi;split at h
   ·rename_i g' sz' ty rows hB;split at h
    ·rename_i hc;obtain ⟨h1,h⟩:=Tr.ask_yes h;exact zj (by simp only [zB,hi,bP,zw,hx,hB];rw [if_pos ⟨hc.1,hc.2,h1⟩]) hk h
    ·cases h
   ·rename_i g' sz' ty cols rows hB;split at h
    ·rename_i hc;obtain ⟨h1,h⟩:=Tr.ask_yes h;exact zj (by simp only [zB,hi,bP,zw,hx,hB];rw [if_pos ⟨hc.1,hc.2,h1⟩]) hk h
    ·cases h
   ·exact cQ hk h
  ·cases h
 ·--slcS
  rename_i x lo hi;split at h
  ·rename_i s l hx hl;split at h
   ·rename_i u hu;obtain ⟨h1,h⟩:=Tr.ask_yes h;exact zj (by simp only [zB,hx,hl,hu,zw];rw [if_pos h1]) hk h
   ·cases h
  ·cases h
 ·--slc
  rename_i sz x lo hi;split at h
  ·rename_i rows l hx hl;split at h
   ·rename_i u hu;obtain ⟨h1,h⟩:=Tr.ask_yes h;exact zj (by simp only [zB,hx,hl,hu,zw];rw [if_pos h1]) hk h
   ·cases h
  ·cases h
 ·--toStr
  obtain ⟨rows,h1,h⟩:=Tr.bind_some h;obtain ⟨l,h2,h⟩:=Tr.opt_some h;exact zj (by simp only [zB,rF h1,zw,h2,zamW]) hk h
 ·--app
  rename_i ty sz bytes x y;split at h
  ·obtain ⟨d,n,g,m,v,s,hx,h1,h2,h3⟩:=AS h;exact zj (by simp only [zB,hx,h2,h1]) hk h3
  obtain ⟨ys,h1,h⟩:=Tr.bind_some h;have h1:=rF h1;split at h
  ·rename_i hx;obtain ⟨h2,h⟩:=Tr.ask_yes h;exact zj (by simp only [zB,hx,h1];rw [if_pos h2]) hk h
  ·rename_i d n g m hx;split at h
   ·rename_i g' sz' ty' rows hB;split at h
    ·rename_i hc;obtain ⟨h2,h⟩:=Tr.ask_yes h;exact zj (by simp only [zB,hx,h1,hB];rw [if_pos ⟨hc.1,hc.2.1,hc.2.2,h2⟩]) hk h
    ·cases h
   ·cases h
  ·cases h
 ·--mksl
  split at h
  ·rename_i l c hl hc;split at h
   ·rename_i hz;obtain ⟨h2,h⟩:=Tr.ask_yes h;exact zj (by simp only [zB,hl,hc,bP,zw];rw [if_pos ⟨h2.1,h2.2.1,h2.2.2.1,h2.2.2.2,hz.1,hz.2⟩]) hk h
   ·cases h
  ·cases h
 ·--call
  rename_i f args;split at h
  ·rename_i g caps hf;obtain ⟨⟨as,lent⟩,h1,h⟩:=Tr.bind_some h;obtain ⟨r,h2,h⟩:=Tr.bind_some h;have h1:=mD h1;have h2:=hC _ _ _ _ h2;split at h
   ·rename_i hs;split at h
    ·rename_i hc;refine zj ?_ hk h;simp only [zB,hf,cI,if_true,h1,zw,h2];rw [if_pos ⟨.inl hc,hs⟩]
    ·rcases Tr.ask_some h with ⟨hc,h⟩|⟨_,h⟩
     ·refine zj ?_ hk h;simp only [zB,hf,cI,if_true,h1,zw,h2];rw [if_pos ⟨.inr hc,hs⟩]
     ·cases h
   ·cases h
  ·cases h
 ·--a call that is lent a block
  rename_i f args;split at h
  ·rename_i g caps hf;obtain ⟨⟨as,d,n,q,B⟩,h1,h⟩:=Tr.bind_some h;obtain ⟨r,h2,h⟩:=Tr.bind_some h;obtain ⟨⟨v,s⟩,hb,h⟩:=Tr.bind_some h;have h1:=nW h1;have h2:=hC _ _ _ _ h2;have hb:=wO hb;refine zj ?_ hk h;simp only [zB,hf,cI,dD,if_false,h1,zw,h2,hb]
  ·cases h
 ·--a call that is lent a box with an own row
  rename_i f args;split at h
  ·rename_i g caps hf;split at h
   ·rename_i a r hq;obtain ⟨⟨r',s1⟩,h1,h⟩:=Tr.bind_some h;have h1:=(hU h1).1;simp only at h;split at h
    ·rename_i a' q q2 hl;obtain ⟨res,h2,h⟩:=Tr.bind_some h;have h2:=hC _ _ _ _ h2;split at h
     ·rename_i v s hb;refine zj ?_ hk h;simp only [zB,hf,hq,callN,h1,zw,hl,h2,hb]
     ·cases h
    ·cases h
   ·cases h
  ·cases h
 ·--a literal slice
  split at h
  ·rename_i rows hrows;split at h
   ·rename_i hcl;obtain ⟨⟨rs,s1⟩,h1,h⟩:=Tr.bind_some h;obtain ⟨h1,ht⟩:=eN h1;cases h;exact ⟨by simp only [zB,hrows,zw,frz,if_pos hcl.1,h1],hk.frame ht,λb hb=>by cases hb⟩
   ·exact cQ hk h
  ·cases h
 ·exact cQ hk h
theorem hZ (hC:jV CT run) (hk:KnOK kn st) {o:KOper} {s:St} {kn':Kn} (h:(eX CT st kn o).run=some (s,kn')):zS run st o=some s/\KnOK kn' s:=by
 have go:∀{kn:Kn},KnOK kn st->((kG CT st kn (o.dst.getD 0) o.op).bind λ(v,s,kn,kb)=>Tr.done (({s with t:=cS s.t o.dst v}:St),nS kn o.dst kb)).run=some (s,kn')->
   (zB run st (o.dst.getD 0) o.op).map (λ(a,st)=>({st with t:=cS st.t o.dst a}:St))=some s/\KnOK kn' s:=fun {kn} hk h=>by
  obtain ⟨⟨v,s1,kn1,kb⟩,h1,h2⟩:=Tr.bind_some h;obtain ⟨e1,e2,e3⟩:=tH hC hk h1;cases h2;exact ⟨by rw [e1];rfl,lX e2 e3⟩
 unfold eX at h;cases hg:o.guard with
 |none=>
  simp only [hg] at h;simp only [zS,hg];exact go hk h
 |some jw=>
  obtain ⟨j,want⟩:=jw;simp only [hg] at h;split at h
  ·rename_i hu;simp only [zS,hg,hu];cases h;exact ⟨rfl,lX hk (λb hb=>by cases hb)⟩
  obtain ⟨v,kn1,h1,h2,h3⟩:=oS hk h;have h1':zC j st.t=some (.c (.p (.b v))):=by
   simp only [St.eval] at h1;cases hq:zC j st.t with
   |none=>rw [hq] at h1;cases h1
   |some a=>rw [hq] at h1;simp only at h1;rw [h1]
  simp only [zS,hg,h1'];split at h3
  ·rename_i e;rw [if_pos e];exact go h2 h3
  ·rename_i e;rw [if_neg e];cases h3;exact ⟨rfl,lX h2 (λb hb=>by cases hb)⟩
theorem jP (hC:jV CT run):∀{l:List KOper} {st:St} {kn:Kn} {s:St} {kn':Kn},KnOK kn st->(mE CT l st kn).run=some (s,kn')->cU run l st=some s/\KnOK kn' s
 | [],st,kn,s,kn',hk,h=>by cases h;exact ⟨rfl,hk⟩
 |o::r,st,kn,s,kn',hk,h=>by
  obtain ⟨⟨s1,kn1⟩,h1,h2⟩:=Tr.bind_some h;obtain ⟨e1,e2⟩:=hZ hC hk h1;obtain ⟨e3,e4⟩:=jP hC e2 h2;exact ⟨by simp only [cU,e1,zw,e3],e4⟩
theorem nX (hC:jV CT run):∀{l:List (KOper×List Bool)} {ts:List Tch} {st:St} {kn:Kn} {s:St} {kn':Kn},KnOK kn st->(oX CT l ts st kn).run=some (s,kn')->kL run l ts st=some s/\KnOK kn' s
 | [],ts,st,kn,s,kn',hk,h=>by cases h;exact ⟨rfl,hk⟩
 |(o,bs)::r,ts,st,kn,s,kn',hk,h=>by
  simp only [oX] at h;split at h
  ·rename_i hc;obtain ⟨⟨s1,kn1⟩,h1,h2⟩:=Tr.bind_some h;obtain ⟨e1,e2⟩:=hZ hC hk h1;obtain ⟨e3,e4⟩:=nX hC e2 h2;exact ⟨by simp only [kL,hc,if_true,e1,zw];exact e3,e4⟩
  ·cases h
theorem iW (hC:jV CT run):∀(c:KCode),rI LT run N c->∀{st:St} {kn:Kn} {e:Ex} {s:St} {kn':Kn},KnOK kn st->(cP CT LT c st kn).run=some (e,s,kn')->zq run N c st=some (e,s)/\KnOK kn' s:=by
 intro c
 induction c with
 |skip=>intro hL st kn e s kn' hk h;cases h;exact ⟨rfl,hk⟩
 |ops l=>
  intro hL st kn e s kn' hk h;obtain ⟨⟨s1,kn1⟩,h1,h2⟩:=Tr.bind_some h;cases h2;obtain ⟨e1,e2⟩:=jP hC hk h1;exact ⟨by simp only [zq,e1,zamW],e2⟩
 |draw l=>
  intro hL st kn e s kn' hk h;obtain ⟨⟨s1,kn1⟩,h1,h2⟩:=Tr.bind_some h;cases h2;obtain ⟨e1,e2⟩:=nX hC hk h1;exact ⟨by simp only [zq,e1,zamW],e2⟩
 |seq a b iha ihb=>
  intro hL st kn e s kn' hk h;obtain ⟨⟨e1,s1,kn1⟩,h1,h2⟩:=Tr.bind_some h;obtain ⟨g1,g2⟩:=iha (λmk keep aO b hm=>hL mk keep aO b (by simp only [aK];exact zamU _ hm)) hk h1;simp only [zq,g1,zw];cases e1 with
  |normal=>exact ihb (λmk keep aO b hm=>hL mk keep aO b (by simp only [aK];exact zamZ _ hm)) g2 h2
  |exit id=>cases h2;exact ⟨rfl,g2⟩
  |ret=>cases h2;exact ⟨rfl,g2⟩
 |cond c a b iha ihb=>
  intro hL st kn e s kn' hk h;obtain ⟨v,kn1,h1,h2,h3⟩:=oS hk h;simp only [zq,h1];cases v
  ·exact ihb (λmk keep aO b hm=>hL mk keep aO b (by simp only [aK];exact zamZ _ hm)) h2 h3
  ·exact iha (λmk keep aO b hm=>hL mk keep aO b (by simp only [aK];exact zamU _ hm)) h2 h3
 |block id c ih=>
  intro hL st kn e s kn' hk h;obtain ⟨⟨e1,s1,kn1⟩,h1,h2⟩:=Tr.bind_some h;cases h2;obtain ⟨g1,g2⟩:=ih (λmk keep aO b hm=>hL mk keep aO b (by simpa only [aK] using hm)) hk h1;exact ⟨by simp only [zq,g1,zamW],g2⟩
 |loop mk keep aO c ih=>
  intro hL st kn e s kn' hk h;obtain ⟨⟨e1,s1⟩,h1,h2⟩:=Tr.bind_some h;cases h2;obtain ⟨s0,g1,rfl⟩:=hL mk keep aO c (by simp [aK]) _ _ _ h1;exact ⟨by simp only [zq,uY,g1,zamW],λn b hn=>by cases hn⟩
 |exit id=>intro hL st kn e s kn' hk h;cases h;exact ⟨rfl,hk⟩
 |ret=>intro hL st kn e s kn' hk h;cases h;exact ⟨rfl,hk⟩
theorem rL:∀{l:List (Bool×List CV)} {st:St} {y:List (Bool×List CV)×St},(AT st l).run=some y->aO st l=some y
 | [],st,y,h=>by cases h;rfl
 |(g,cs)::r,st,y,h=>by
  obtain ⟨⟨ps,s1⟩,h1,h2⟩:=Tr.bind_some h;obtain ⟨⟨l,s2⟩,h3,h4⟩:=Tr.bind_some h2;cases h4;simp only [aO,(cA h1).1,zw,rL h3,zamW]
theorem tI {kf:KFun} {e:Ex} {st:St} {r:Res} (h:(oY kf e st).run=some r):iD kf e st=some r:=by
 unfold oY at h;unfold iD;split at h
 ·rename_i hc;rw [if_pos hc];split at h
  ·rename_i l hl;obtain ⟨⟨l',s⟩,h1,h2⟩:=Tr.bind_some h;cases h2;simp only [hl,zw,rL h1,zamW]
  ·cases h
 ·rename_i hc;rw [if_neg hc];split at h
  ·rename_i hc2;rw [if_pos hc2];split at h
   ·rename_i r' hr;cases h;exact hr
   ·cases h
  ·cases h
theorem BO {kf:KFun} {args:List AV} {up:List Frame} {q r:Res} (h:(B7 kf args up q).run=some r):rW kf args up q=some r:=by
 unfold B7 at h;unfold rW;split at h
 ·rename_i hn;rw [if_pos hn];split at h
  ·rcases Tr.ask_some h with ⟨hc,h⟩|⟨_,h⟩
   ·cases h;simp only;rw [if_pos hc]
   ·cases h
  ·cases h
 ·rename_i hn;rw [if_neg hn];exact h
theorem BP (hC:jV CT run) {kf:KFun} (hL:rI LT run N kf.body) {args:List AV} {up:List Frame} {r:Res} (h:(BL CT LT kf args up).run=some r):
  args.length=kf.params.length/\((zq run N kf.body ⟨kN args 0,[],up⟩).bind λ(e,st)=>(iD kf e st.low).bind (rW kf args up))=some r:=by
 unfold BL at h;split at h
 ·rename_i hl;obtain ⟨⟨e,s,kn⟩,h1,h2⟩:=Tr.bind_some h;obtain ⟨g1,_⟩:=iW (N:=N) hC kf.body hL (λn b hn=>by cases hn) h1;obtain ⟨q,h3,h4⟩:=Tr.bind_some h2;exact ⟨hl,by rw [g1];simp only [zw,tI h3];exact BO h4⟩
 ·cases h
end
theorem wQ {KP:FuncId->Option KFun} {lib:zk} {n:Nat} {CT:fB} {LT:jU} {f:FuncId} {kf:KFun} (hf:KP f=some kf) (hC:jV CT (fN KP lib n)) (hL:rI LT (fN KP lib n) n kf.body) {args:List AV} {up:List Frame} {r:Res}
  (h:(BL CT LT kf args up).run=some r):fN KP lib (n+1) f args up=some r:=by
 obtain ⟨h1,h2⟩:=BP hC hL h;simp only [fN,hf];rw [if_pos h1];exact h2
universe u
inductive Hv where
 |b (x:Bool)
 |i (x:Int)
 |s (x:ByteArray)
 |r (x:List (List PV))
 |n (x:Nat)
inductive LK where
 |b|i|s|r|n
abbrev LK.T:LK->Type
 | .b=>Bool
 | .i=>Int
 | .s=>ByteArray
 | .r=>List (List PV)
 | .n=>Nat
abbrev Tup:List LK->Type
 | []=>Unit
 | [k]=>k.T
 |k::l::r=>k.T×Tup (l::r)
def LK.hv:(k:LK)->k.T->Hv
 | .b,x=> .b x
 | .i,x=> .i x
 | .s,x=> .s x
 | .r,x=> .r x
 | .n,x=> .n x
def LK.un:(k:LK)->Hv->Option k.T
 | .b,.b x=>some x
 | .i,.i x=>some x
 | .s,.s x=>some x
 | .r,.r x=>some x
 | .n,.n x=>some x
 |_,_=>none
def hvs:(ks:List LK)->Tup ks->List Hv
 | [],_=> []
 | [k],x=> [k.hv x]
 |k::l::r,x=>k.hv x.1::hvs (l::r) x.2
def unH:(ks:List LK)->List Hv->Option (Tup ks)
 | [],[]=>some ()
 | [k],[h]=>k.un h
 |k::l::r,h::t=>match k.un h,unH (l::r) t with
  |some x,some y=>some (x,y)
  |_,_=>none
 |_,_=>none
theorem LK.un_hv {k:LK} {h:Hv} {x:k.T} (e:k.un h=some x):k.hv x=h:=by
 cases k<;>cases h<;>simp only [LK.un,reduceCtorEq] at e<;>(cases e;rfl)
theorem pA:∀{ks:List LK} {h:List Hv} {x:Tup ks},unH ks h=some x->hvs ks x=h
 | [],[],x,e=>rfl
 | [],_::_,x,e=>by simp [unH] at e
 | [k],[],x,e=>by simp [unH] at e
 | [k],[h],x,e=>by
  have e:k.un h=some x:=e;show [k.hv x]= [h];rw [LK.un_hv e]
 | [k],_::_::_,x,e=>by simp [unH] at e
 |k::l::r,[],x,e=>by simp [unH] at e
 |k::l::r,h::t,x,e=>by
  simp only [unH] at e;split at e
  ·rename_i y z hy hz;cases e;show k.hv y::hvs (l::r) z=h::t;rw [LK.un_hv hy,pA hz]
  ·cases e
abbrev Cur (R:Type u):List LK->Type u
 | []=>R
 |k::r=>k.T->Cur R r
def unc {R:Type u}:(ks:List LK)->Cur R ks->Tup ks->R
 | [],f,_=>f
 | [_],f,x=>f x
 |_::l::r,f,x=>unc (l::r) (f x.1) x.2
section
variable {α:Type}
def lkL (q:α->List LK):List α->List LK
 | []=> []
 |a::l=>q a++lkL q l
def flL (q:α->List Hv->α×List Hv):List α->List Hv->List α×List Hv
 | [],h=>([],h)
 |a::l,h=>((q a h).1::(flL q l (q a h).2).1,(flL q l (q a h).2).2)
def mtL (q:α->α->Option (List Hv)):List α->List α->Option (List Hv)
 | [],[]=>some []
 |a::r,b::l=>match q a b,mtL q r l with
  |some x,some y=>some (x++y)
  |_,_=>none
 |_,_=>none
def Fyts (m:α->α->Option (List Hv)) (f:α->List Hv->α×List Hv):Prop:=∀a b h r,m a b=some h->f a (h++r)=(b,r)
theorem Fyts.go {m:α->α->Option (List Hv)} {f:α->List Hv->α×List Hv} (q:Fyts m f) {a b:α} {h:List Hv} (r:List Hv) (e:m a b=some h):f a (h++r)=(b,r):=q a b h r e
theorem bL {m:α->α->Option (List Hv)} {f:α->List Hv->α×List Hv} (hq:Fyts m f):Fyts (mtL m) (flL f)
 | [],[],h,r,e=>by cases e;rfl
 |a::l,b::k,h,r,e=>by
  simp only [mtL] at e;split at e
  ·rename_i x y hx hy;cases e;simp only [flL];rw [List.append_assoc,hq.go _ hx,bL hq l k y r hy]
  ·cases e
 | [],_::_,h,r,e=>by simp [mtL] at e
 |_::_,[],h,r,e=>by simp [mtL] at e
end
def PV.lk:PV->List LK
 | .b _=> [.b]
 | .i _ _=> [.i]
 | .s _=> [.s]
 | .ls _=> [.r]
 |_=> []
def PV.fl:PV->List Hv->PV×List Hv
 | .b _,.b x::r=>(.b x,r)
 | .i k _,.i x::r=>(.i k x,r)
 | .s _,.s x::r=>(.s x,r)
 | .ls _,.r x::r=>(.ls x,r)
 |p,r=>(p,r)
def mtP:PV->PV->Option (List Hv)
 | .b _,.b x=>some [.b x]
 | .i k _,.i k' x=>if k=k' then some [.i x] else none
 | .s _,.s x=>some [.s x]
 | .nif,.nif=>some []
 | .ifc,.ifc=>some []
 | .nl,.nl=>some []
 | .op,.op=>some []
 | .np,.np=>some []
 | .ls _,.ls x=>some [.r x]
 |_,_=>none
theorem mG:Fyts mtP PV.fl:=by
 intro a b h r e;cases a<;>cases b<;>simp only [mtP,reduceCtorEq] at e
 case i.i=>
  split at e
  ·rename_i q;cases e;rw [q];rfl
  ·cases e
 all_goals (cases e;rfl)
def Bc (l:List PV):List LK:=lkL PV.lk l
def rM (l:List PV) (h:List Hv):List PV×List Hv:=flL PV.fl l h
theorem rN:Fyts (mtL mtP) rM:=bL mG
def Cap.lk:Cap->List LK
 | .p x=>x.lk
 | .rp l=>lkL PV.lk l
 | .rf _ rs=>lkL Bc rs
 |_=> []
def Cap.fl:Cap->List Hv->Cap×List Hv
 | .p x,h=>(.p (x.fl h).1,(x.fl h).2)
 | .rp l,h=>(.rp (flL PV.fl l h).1,(flL PV.fl l h).2)
 | .rf f rs,h=>(.rf f (flL rM rs h).1,(flL rM rs h).2)
 |c,h=>(c,h)
def AW:Cap->Cap->Option (List Hv)
 | .p a,.p b=>mtP a b
 | .ptr d t g,.ptr d' t' g'=>if d=d'/\t=t'/\g=g' then some [] else none
 | .rp a,.rp b=>mtL mtP a b
 | .rf f a,.rf f' b=>if f=f' then mtL (mtL mtP) a b else none
 |_,_=>none
theorem AX:Fyts AW Cap.fl:=by
 intro a b h r e;cases a<;>cases b<;>simp only [AW,reduceCtorEq] at e
 ·simp only [Cap.fl];rw [mG.go r e]
 ·split at e
  ·rename_i q;obtain ⟨rfl,rfl,rfl⟩:=q;cases e;rfl
  ·cases e
 ·simp only [Cap.fl];rw [(bL mG).go r e]
 ·split at e
  ·rename_i q;subst q;simp only [Cap.fl];rw [(bL rN).go r e]
  ·cases e
def CV.lk:CV->List LK
 | .p x=>x.lk
 | .rp l _=>lkL PV.lk l
 | .rf _ rs=>lkL Bc rs
 | .own ..=> [.n]
 | .fn _ cs=>lkL Cap.lk cs
 |_=> []
def CV.fl:CV->List Hv->CV×List Hv
 | .p x,h=>(.p (x.fl h).1,(x.fl h).2)
 | .rp l o,h=>(.rp (flL PV.fl l h).1 o,(flL PV.fl l h).2)
 | .rf f rs,h=>(.rf f (flL rM rs h).1,(flL rM rs h).2)
 | .own d t g _,.n x::r=>(.own d t g x,r)
 | .fn f cs,h=>(.fn f (flL Cap.fl cs h).1,(flL Cap.fl cs h).2)
 |c,h=>(c,h)
def mtC:CV->CV->Option (List Hv)
 | .p a,.p b=>mtP a b
 | .own d t g _,.own d' t' g' n=>if d=d'/\t=t'/\g=g' then some [.n n] else none
 | .ptr d t g j o,.ptr d' t' g' j' o'=>if d=d'/\t=t'/\g=g'/\j=j'/\o=o' then some [] else none
 | .fn f cs,.fn f' cs'=>if f=f' then mtL AW cs cs' else none
 | .rp l o,.rp l' o'=>if o=o' then mtL mtP l l' else none
 | .rf f a,.rf f' b=>if f=f' then mtL (mtL mtP) a b else none
 | .nfn,.nfn=>some []
 | .u,.u=>some []
 |_,_=>none
theorem tJ:Fyts mtC CV.fl:=by
 intro a b h r e;cases a<;>cases b<;>simp only [mtC,reduceCtorEq] at e
 case p.p=>simp only [CV.fl];rw [mG.go r e]
 case rp.rp=>
  split at e
  ·rename_i q;subst q;simp only [CV.fl];rw [(bL mG).go r e]
  ·cases e
 case rf.rf=>
  split at e
  ·rename_i q;subst q;simp only [CV.fl];rw [(bL rN).go r e]
  ·cases e
 case own.own=>
  split at e
  ·rename_i q;obtain ⟨rfl,rfl,rfl⟩:=q;cases e;rfl
  ·cases e
 case ptr.ptr=>
  split at e
  ·rename_i q;obtain ⟨rfl,rfl,rfl,rfl,rfl⟩:=q;cases e;rfl
  ·cases e
 case fn.fn=>
  split at e
  ·rename_i q;subst q;simp only [CV.fl];rw [(bL AX).go r e]
  ·cases e
 all_goals (cases e;rfl)
def B8 (x:Bool×List CV):List LK:=lkL CV.lk x.2
def AY (x:Bool×List CV) (h:List Hv):(Bool×List CV)×List Hv:=((x.1,(flL CV.fl x.2 h).1),(flL CV.fl x.2 h).2)
def AV.lk:AV->List LK
 | .c x=>x.lk
 | .agg l=>lkL CV.lk l
 | .tup l=>lkL B8 l
def AV.fl:AV->List Hv->AV×List Hv
 | .c x,h=>(.c (x.fl h).1,(x.fl h).2)
 | .agg l,h=>(.agg (flL CV.fl l h).1,(flL CV.fl l h).2)
 | .tup l,h=>(.tup (flL AY l h).1,(flL AY l h).2)
def mtA:AV->AV->Option (List Hv)
 | .c a,.c b=>mtC a b
 | .agg a,.agg b=>mtL mtC a b
 |_,_=>none
theorem AZ:Fyts mtA AV.fl:=by
 intro a b h r e;cases a<;>cases b<;>simp only [mtA,reduceCtorEq] at e
 ·simp only [AV.fl];rw [tJ.go r e]
 ·simp only [AV.fl];rw [(bL tJ).go r e]
def Ce (x:Nat×AV):List LK:=x.2.lk
def Aa (x:Nat×AV) (h:List Hv):(Nat×AV)×List Hv:=((x.1,(x.2.fl h).1),(x.2.fl h).2)
def CB (a b:Nat×AV):Option (List Hv):=if a.1=b.1 then mtA a.2 b.2 else none
theorem BQ:Fyts CB Aa:=by
 intro a b h r e;obtain ⟨n,a⟩:=a;obtain ⟨m,b⟩:=b;unfold CB at e;split at e
 ·rename_i q;simp only at q e;subst q;simp only [Aa];rw [AZ.go r e]
 ·cases e
def BK.lk:BK->List LK
 | .box l=>lkL CV.lk l
 | .row _=> [.r]
 | .deep _ _=> [.r]
 | .dead=> []
def BK.fl:BK->List Hv->BK×List Hv
 | .box l,h=>(.box (flL CV.fl l h).1,(flL CV.fl l h).2)
 | .row _,.r x::r=>(.row x,r)
 | .deep c _,.r x::r=>(.deep c x,r)
 |k,h=>(k,h)
def mtK:BK->BK->Option (List Hv)
 | .box a,.box b=>mtL mtC a b
 | .row _,.row x=>some [.r x]
 | .deep c _,.deep c' x=>if c=c' then some [.r x] else none
 | .dead,.dead=>some []
 |_,_=>none
theorem CC:Fyts mtK BK.fl:=by
 intro a b h r e;cases a<;>cases b<;>simp only [mtK,reduceCtorEq] at e
 case box.box=>simp only [BK.fl];rw [(bL tJ).go r e]
 case deep.deep=>
  split at e
  ·rename_i q;subst q;cases e;rfl
  ·cases e
 all_goals (cases e;rfl)
def Blk.fl (x:Blk) (h:List Hv):Blk×List Hv:=(⟨x.g,x.sz,x.ty,(x.k.fl h).1⟩,(x.k.fl h).2)
def CX (x:Nat×Blk):List LK:=x.2.k.lk
def Ab (x:Nat×Blk) (h:List Hv):(Nat×Blk)×List Hv:=((x.1,(x.2.fl h).1),(x.2.fl h).2)
def BS (a b:Nat×Blk):Option (List Hv):=if a.1=b.1/\a.2.g=b.2.g/\a.2.sz=b.2.sz/\a.2.ty=b.2.ty then mtK a.2.k b.2.k else none
theorem uZ:Fyts BS Ab:=by
 intro a b h r e;obtain ⟨n,⟨g,sz,ty,k⟩⟩:=a;obtain ⟨n',⟨g',sz',ty',k'⟩⟩:=b;unfold BS at e;split at e
 ·rename_i q;simp only at q e;obtain ⟨rfl,rfl,rfl,rfl⟩:=q;simp only [Ab,Blk.fl];rw [CC.go r e]
 ·cases e
def CE:Frame->List LK:=lkL CX
def Ac:Frame->List Hv->Frame×List Hv:=flL Ab
def mtF:Frame->Frame->Option (List Hv):=mtL BS
theorem Ad:Fyts mtF Ac:=bL uZ
def St.lk (s:St):List LK:=lkL Ce s.t++(lkL CX s.fr++lkL CE s.up)
def St.fl (s:St) (h:List Hv):St:=⟨(flL Aa s.t h).1,(flL Ab s.fr (flL Aa s.t h).2).1,(flL Ac s.up (flL Ab s.fr (flL Aa s.t h).2).2).1⟩
def mtS (a b:St):Option (List Hv):=match mtL CB a.t b.t,mtL BS a.fr b.fr,mtL mtF a.up b.up with
 |some x,some y,some z=>some (x++(y++z))
 |_,_,_=>none
theorem CF {a b:St} {h:List Hv} (e:mtS a b=some h):a.fl h=b:=by
 unfold mtS at e;split at e
 ·rename_i x y z hx hy hz;cases e;have h3:=(bL Ad).go [] hz;rw [List.append_nil] at h3;simp only [St.fl];rw [(bL BQ).go _ hx,(bL uZ).go _ hy,h3]
 ·cases e
def Res.lk (r:Res):List LK:=r.v.lk++(lkL CE r.up++lkL (λB=>B.k.lk) r.rows)
def Res.fl (r:Res) (h:List Hv):Res:=⟨(r.v.fl h).1,(flL Ac r.up (r.v.fl h).2).1,(flL Blk.fl r.rows (flL Ac r.up (r.v.fl h).2).2).1⟩
abbrev vI:PV:= .i .i64 0
abbrev vB:PV:= .b false
abbrev vS:PV:= .s ⟨#[]⟩
abbrev vL:PV:= .ls []
abbrev qI:CV:= .p vI
abbrev qB:CV:= .p vB
abbrev qS:CV:= .p vS
abbrev qL:CV:= .p vL
abbrev aI:AV:= .c qI
abbrev aB:AV:= .c qB
abbrev aS:AV:= .c qS
abbrev aL:AV:= .c qL
structure Sg where
 f:FuncId
 A:List AV
 U:List Frame
 O:Res
def Sg.ks (s:Sg):List LK:=lkL AV.lk s.A++lkL CE s.U
def Sg.rs (s:Sg):List LK:=s.O.lk
def Sg.Af (s:Sg) (a:Tup s.ks):List AV:=(flL AV.fl s.A (hvs s.ks a)).1
def Sg.Uf (s:Sg) (a:Tup s.ks):List Frame:=(flL Ac s.U (flL AV.fl s.A (hvs s.ks a)).2).1
def Sg.Of (s:Sg) (r:Tup s.rs):Res:=s.O.fl (hvs s.rs r)
def Sg.mt (s:Sg) (ar:List AV) (up:List Frame):Option (Tup s.ks):=match mtL mtA s.A ar,mtL mtF s.U up with
 |some h,some u=>unH s.ks (h++u)
 |_,_=>none
theorem Sg.mt_ok {s:Sg} {ar:List AV} {up:List Frame} {a:Tup s.ks} (e:s.mt ar up=some a):s.Af a=ar/\s.Uf a=up:=by
 unfold Sg.mt at e;split at e
 ·rename_i h u hh hu;have h1:=pA e;have h2:=(bL Ad).go [] hu;rw [List.append_nil] at h2;simp only [Sg.Af,Sg.Uf,h1];rw [(bL AZ).go _ hh,h2];exact ⟨rfl,rfl⟩
 ·cases e
def Ok (run:zk) (s:Sg) (F:Cur (Option (Tup s.rs)) s.ks):Prop:=∀a r,unc s.ks F a=some r->run s.f (s.Af a) (s.Uf a)=some (s.Of r)
abbrev ED:=List AV->List Frame->Tr Res
structure Ent (run:zk) where
 f:FuncId
 c:ED->ED
 ok:∀d:ED,(∀ar up r,(d ar up).run=some r->run f ar up=some r)->∀ar up r,(c d ar up).run=some r->run f ar up=some r
def en {run:zk} {s:Sg} {F:Cur (Option (Tup s.rs)) s.ks} (h:Ok run s F):Ent run:=⟨s.f,λd ar up=>match s.mt ar up with
 |some a=> .opt (unc s.ks F a) λr=> .done (s.Of r)
 |none=>d ar up,λd hd ar up r hr=>by
  split at hr
  ·rename_i a ha;obtain ⟨x,h1,h2⟩:=Tr.opt_some hr;cases h2;have h3:=h a x h1;rw [(Sg.mt_ok ha).1,(Sg.mt_ok ha).2] at h3;exact h3
  ·exact hd ar up r hr⟩
def tK {run:zk}:List (Ent run)->fB
 | [],_,_,_=> .fail
 |e::l,f,ar,up=>if e.f=f then e.c (tK l f) ar up else tK l f ar up
theorem iA {run:zk}:∀l:List (Ent run),jV (tK l) run
 | [],f,ar,up,r,h=>by cases h
 |e::l,f,ar,up,r,h=>by
  simp only [tK] at h;split at h
  ·rename_i q;subst q;exact e.ok _ (λar up r h=>iA l e.f ar up r h) ar up r h
  ·exact iA l f ar up r h
structure Sg2 where
 f:FuncId
 A:List AV
 O1:AV
 O2:AV
def Sg2.Of (s:Sg2):Tup s.O1.lk⊕Tup s.O2.lk->Res
 | .inl r=>⟨(s.O1.fl (hvs _ r)).1,[],[]⟩
 | .inr r=>⟨(s.O2.fl (hvs _ r)).1,[],[]⟩
def zL {V R:Type} (B:V->Tr (V⊕R)):Nat->V->Option R
 |0,_=>none
 |m+1,v=>match (B v).run with
  |some (.inl v')=>zL B m v'
  |some (.inr r)=>some r
  |none=>none
def Ae {V R:Type} (sk:V->St) (D:R->Ex×St):V⊕R->Tr (Ex×St)
 | .inl v=> .done (.normal,sk v)
 | .inr r=> .done (D r)
def Ag (keep:List Nat) (aO:List (Ex×List Nat)) (p:Ex×St×Kn):Tr (Ex×St):= .done (p.1,p.2.1.norm (if p.1= .normal then keep else fD p.1 aO))
abbrev LD:=Nat×List Nat×List (Ex×List Nat)×KCode
def jQ (mk:Nat) (c:KCode):LD:=match (aK c).filter (λx=>x.1==mk) with
 |x::_=>x
 | []=>(mk,[],[],.skip)
abbrev lb (mk:Nat) (c:KCode):KCode:=(jQ mk c).2.2.2
theorem nY:∀{l:List LD} {x:LD},eF (l.map (·.1))=true->x∈l->l.filter (λy=>y.1==x.1)= [x]
 | [],x,_,h=>by cases h
 |y::l,x,hn,h=>by
  simp only [zanE,eF,zY,Bool.not_eq_true'] at hn;have hne:∀z∈l,z.1≠y.1:=λz hz e=>by
   have:(l.map (·.1)).contains y.1=true:=List.contains_iff_mem.2 (List.mem_map.2 ⟨z,hz,e⟩);rw [hn.1] at this;cases this
  rcases zamT.1 h with rfl|h
  ·rw [List.filter_cons_of_pos (by simp),List.filter_eq_nil_iff.2 λz hz=>by simpa using hne z hz]
  ·rw [List.filter_cons_of_neg (by simpa using (hne x h).symm)];exact nY hn.2 h
section
variable {CT:fB} {LT:jU} {run:zk} {N:Nat}
theorem rO {V R:Type} {body:KCode} {keep:List Nat} {aO:List (Ex×List Nat)} {sk:V->St} {B:V->Tr (V⊕R)} {D:R->Ex×St} (hC:jV CT run) (hL:rI LT run N body)
  (hT:∀v,(cP CT LT body (sk v) []).bind (Ag keep aO)=(B v).bind (Ae sk D)):
  ∀(m:Nat) (v:V) (r:R),(D r).1≠ .normal->zL B m v=some r->∃s0,fJ (zq run N body) keep m (sk v)=some ((D r).1,s0)/\(D r).2=s0.norm (fD (D r).1 aO)
 |0,v,r,hD,h=>by simp [zL] at h
 |m+1,v,r,hD,h=>by
  have key:∀{x:V⊕R} {y:Ex×St},(B v).run=some x->(Ae sk D x).run=some y->∃s kn,zq run N body (sk v)=some (y.1,s)/\y.2=s.norm (if y.1= .normal then keep else fD y.1 aO):=fun {x y} hx hy=>by
   have h1:((B v).bind (Ae sk D)).run=some y:=by rw [Tr.run_bind,hx];exact hy
   rw [<-hT v] at h1;obtain ⟨⟨e,s,kn⟩,h2,h3⟩:=Tr.bind_some h1;cases h3;exact ⟨s,kn,(iW hC body hL (λn b hn=>by cases hn) h2).1,rfl⟩
  simp only [zL] at h;split at h
  ·rename_i v' hv;obtain ⟨s,kn,h1,h2⟩:=key (y:=(.normal,sk v')) hv rfl;obtain ⟨s0,h3,h4⟩:=rO hC hL hT m v' r hD h;simp only [if_true] at h2;refine ⟨s0,?_,h4⟩;simp only [fJ,h1,zw];rw [<-h2];exact h3
  ·rename_i r' hr;cases h;obtain ⟨s,kn,h1,h2⟩:=key (y:=D r) hr rfl;rw [if_neg hD] at h2;refine ⟨s,?_,h2⟩;simp only [fJ,h1,zw]
  ·cases h
def CG (run:zk) (N:Nat) (x:LD) (q:St->Tr (Ex×St)):Prop:=
 ∀st e s,(q st).run=some (e,s)->∃s0,fJ (zq run N x.2.2.2) x.2.1 N st=some (e,s0)/\s=s0.norm (fD e x.2.2.1)
end
structure LEnt (c:KCode) (run:zk) (N:Nat) where
 key:Nat
 q:St->Tr (Ex×St)
 ok:CG run N (jQ key c) q
def wR {c:KCode} {run:zk} {N:Nat}:List (LEnt c run N)->jU
 | [],_,_=> .fail
 |e::l,f,st=>if e.key=f then e.q st else wR l f st
def mH:Nat->KCode->Bool
 |0,c=>(aK c).isEmpty
 |n+1,c=>eF ((aK c).map (·.1))&&(aK c).all λx=>mH n x.2.2.2
abbrev Uniq (c:KCode):Prop:=∃n,mH n c=true
theorem Uniq.nodup {c:KCode} (h:Uniq c):eF ((aK c).map (·.1))=true:=by
 obtain ⟨n,h⟩:=h;cases n with
 |zero=>simp only [mH,List.isEmpty_iff] at h;rw [h];rfl
 |succ n=>simp only [mH,zY] at h;exact h.1
theorem Uniq.pick {c:KCode} (h:Uniq c) (mk:Nat):Uniq (lb mk c):=by
 obtain ⟨n,h⟩:=h;unfold lb jQ;split
 ·rename_i x r hx;have hm:x∈aK c:=(List.mem_filter.1 (by rw [hx];exact zamN ..)).1;cases n with
  |zero=>simp only [mH,List.isEmpty_iff] at h;rw [h] at hm;cases hm
  |succ n=>simp only [mH,zY] at h;exact ⟨n,zamK.1 h.2 x hm⟩
 ·exact ⟨0,rfl⟩
theorem kH {c:KCode} {run:zk} {N:Nat} (hu:Uniq c):∀l:List (LEnt c run N),rI (wR l) run N c
 | [],mk,keep,aO,b,hm,st,e,s,h=>by cases h
 |x::l,mk,keep,aO,b,hm,st,e,s,h=>by
  simp only [wR] at h;split at h
  ·rename_i q;have h1:jQ x.key c=(mk,keep,aO,b):=by
    unfold jQ;rw [q,nY hu.nodup hm]
   have h2:=x.ok st e s h;rw [h1] at h2;exact h2
  ·exact kH hu l mk keep aO b hm st e s h
structure Lsk where
 S:St
 X:List (Ex×St)
abbrev RT:List (Ex×St)->Type
 | []=>Empty
 | [x]=>Tup x.2.lk
 |x::y::l=>Tup x.2.lk⊕RT (y::l)
def stf (s:St) (v:Tup s.lk):St:=s.fl (hvs s.lk v)
def Dx:(X:List (Ex×St))->RT X->Ex×St
 | [],r=>nomatch r
 | [x],r=>(x.1,stf x.2 r)
 |x::_::_,.inl r=>(x.1,stf x.2 r)
 |_::y::l,.inr r=>Dx (y::l) r
def dnx (x:Ex×St) (r:Tup x.2.lk):Tr (Ex×St):=match x.1 with
 | .normal=> .fail
 |e=> .done (e,stf x.2 r)
def DTx:(X:List (Ex×St))->RT X->Tr (Ex×St)
 | [],_=> .fail
 | [x],r=>dnx x r
 |x::y::l,r=> .alt r (λa=>dnx x a) (λb=>DTx (y::l) b)
theorem Ah {x:Ex×St} {r:Tup x.2.lk} {y:Ex×St} (h:(dnx x r).run=some y):y=(x.1,stf x.2 r)/\x.1≠ .normal:=by
 unfold dnx at h;split at h
 ·cases h
 ·rename_i e he;cases h;exact ⟨rfl,λhn=>he hn⟩
theorem Ai:∀{X:List (Ex×St)} {r:RT X} {y:Ex×St},(DTx X r).run=some y->y=Dx X r/\(Dx X r).1≠ .normal
 | [],r,y,h=>nomatch r
 | [x],r,y,h=>Ah h
 |x::z::l,.inl r,y,h=>Ah (x:=x) h
 |x::z::l,.inr r,y,h=>Ai (X:=z::l) h
def lq (L:Lsk) (B:Tup L.S.lk->Tr (Tup L.S.lk⊕RT L.X)) (N:Nat) (st:St):Tr (Ex×St):=match mtS L.S st with
 |some hs=>match unH L.S.lk hs with
  |some v=> .opt (zL B N v) (DTx L.X)
  |none=> .fail
 |none=> .fail
theorem CY {run:zk} {N:Nat} {CT:fB} {LT:jU} {x:LD} {L:Lsk} {B:Tup L.S.lk->Tr (Tup L.S.lk⊕RT L.X)} (hC:jV CT run) (hL:rI LT run N x.2.2.2)
  (hT:∀v,(cP CT LT x.2.2.2 (stf L.S v) []).bind (Ag x.2.1 x.2.2.1)=(B v).bind (Ae (stf L.S) (Dx L.X))):CG run N x (lq L B N):=by
 intro st e s h;unfold lq at h;split at h
 ·rename_i hs hm;split at h
  ·rename_i v hv;obtain ⟨r,h1,h2⟩:=Tr.opt_some h;obtain ⟨h3,hD⟩:=Ai h2;obtain ⟨s0,h4,h5⟩:=rO hC hL hT N v r hD h1;rw [<-h3] at h4 h5;have e:stf L.S v=st:=by
    unfold stf;rw [pA hv,CF hm]
   rw [e] at h4;exact ⟨s0,h4,h5⟩
  ·cases h
 ·cases h
def lu (CT:fB) (LT:jU) (x:LD):Nat->St->Tr (Ex×St)
 |0,_=> .fail
 |m+1,st=>(cP CT LT x.2.2.2 st []).bind λp=>match p.1 with
  | .normal=>lu CT LT x m (p.2.1.norm x.2.1)
  |e=> .done (e,p.2.1.norm (fD e x.2.2.1))
theorem Bd {run:zk} {N:Nat} {CT:fB} {LT:jU} {x:LD} (hC:jV CT run) (hL:rI LT run N x.2.2.2):∀(m:Nat) (st:St) (e:Ex) (s:St),(lu CT LT x m st).run=some (e,s)->
  ∀M,m<=M->∃s0,fJ (zq run N x.2.2.2) x.2.1 M st=some (e,s0)/\s=s0.norm (fD e x.2.2.1)
 |0,st,e,s,h,M,hM=>by cases h
 |m+1,st,e,s,h,M,hM=>by
  obtain ⟨M,rfl⟩:∃q,M=q+1:=⟨M-1,by omega⟩;simp only [lu] at h;obtain ⟨⟨e1,s1,kn⟩,h1,h2⟩:=Tr.bind_some h;have h3:=(iW hC x.2.2.2 hL (λn b hn=>by cases hn) h1).1;simp only [fJ,h3,zw];cases e1 with
  |normal=>exact Bd hC hL m _ e s h2 M (by omega)
  |exit id=>cases h2;exact ⟨s1,rfl,rfl⟩
  |ret=>cases h2;exact ⟨s1,rfl,rfl⟩
def luq (CT:fB) (LT:jU) (x:LD) (k N:Nat) (st:St):Tr (Ex×St):= .ask (decide (k<=N)) (lu CT LT x k st) .fail
theorem CH {run:zk} {N k:Nat} {CT:fB} {LT:jU} {x:LD} (hC:jV CT run) (hL:rI LT run N x.2.2.2):CG run N x (luq CT LT x k N):=by
 intro st e s h;obtain ⟨h1,h2⟩:=Tr.ask_yes h;exact Bd hC hL k st e s h2 N h1
def kp (P:Program) (h:Hints) (but:List FuncId) (f:FuncId):Option KFun:=if but.contains f then none else match P.funcs[f]? with
 |none=>none
 | some fn => if fn.name == "runtime.NumGoroutine" then none else match jZ P h f fn with
  |none=>none
  |some kf=>if bnd (max fn.ntmps kf.params.length) kf.body&&mH 9 kf.body then some kf else none
abbrev kg (P:Program) (h:Hints) (but:List FuncId) (f:FuncId):KFun:=(kp P h but f).getD default
section
variable {P:Program} {h:Hints} {but:List FuncId} {f:FuncId} {kf:KFun}
theorem Be (e:kp P h but f=some kf):dF P h f kf/\Uniq kf.body:=by
 unfold kp at e;split at e
 ·cases e
 ·split at e
  ·cases e
  ·rename_i fn hf;split at e
   ·cases e
   ·rename_i hn;split at e
    ·cases e
    ·rename_i k hk;split at e
     ·rename_i hb;cases e;simp only [zY] at hb;exact ⟨⟨fn,hf,by simpa using hn,hk,hb.1⟩,9,hb.2⟩
     ·cases e
theorem CI (e:(kp P h but f).isSome=true):kp P h but f=some (kg P h but f):=by
 obtain ⟨k,hk⟩:=Option.isSome_iff_exists.1 e;rw [kg,hk];rfl
variable {lib:zk} {n N:Nat}
abbrev kb (P:Program) (h:Hints) (but:List FuncId) (f:FuncId):KCode:=(kg P h but f).body
def lok {c:KCode} {run:zk} (hu:Uniq c) (mk:Nat) (L:Lsk) (B:Tup L.S.lk->Tr (Tup L.S.lk⊕RT L.X)) (l:List (Ent run)) (ls:List (LEnt (lb mk c) run N))
  (ht:∀v,(cP (tK l) (wR ls) (lb mk c) (stf L.S v) []).bind (Ag (jQ mk c).2.1 (jQ mk c).2.2.1)=(B v).bind (Ae (stf L.S) (Dx L.X))):LEnt c run N:=
 ⟨mk,lq L B N,CY (iA l) (kH (hu.pick mk) ls) ht⟩
def lun {c:KCode} {run:zk} (hu:Uniq c) (mk k:Nat) (l:List (Ent run)) (ls:List (LEnt (lb mk c) run N)):LEnt c run N:=
 ⟨mk,luq (tK l) (wR ls) (jQ mk c) k N,CH (iA l) (kH (hu.pick mk) ls)⟩
theorem aE (f:FuncId):Uniq (kb P h but f):=by
 cases e:kp P h but f with
 |none=>rw [kb,kg,e];exact ⟨0,rfl⟩
 |some kf=>rw [kb,kg,e];exact (Be e).2
theorem ok0 {run:zk} {s:Sg} {F:Cur (Option (Tup s.rs)) s.ks} (h:∀a,unc s.ks F a=none):Ok run s F:=λa r e=>by rw [h a] at e;cases e
theorem stO {s:Sg} {F:Cur (Option (Tup s.rs)) s.ks} {T:Cur (Tr (Tup s.rs)) s.ks} (hk:(kp P h but s.f).isSome=true) (l:List (Ent (fN (kp P h but) lib n))) (ls:List (LEnt (kb P h but s.f) (fN (kp P h but) lib n) n))
  (ht:∀a,BL (tK l) (wR ls) (kg P h but s.f) (s.Af a) (s.Uf a)=(unc s.ks T a).bind λr=> .done (s.Of r)) (h1:∀a,unc s.ks F a=(unc s.ks T a).run):Ok (fN (kp P h but) lib (n+1)) s F:=λa r e=>by
 rw [h1 a] at e;exact wQ (CI hk) (iA l) (kH (aE s.f) ls) (by rw [ht a,Tr.run_bind,e];rfl)
end
end Go.Eng
namespace Go.Eng
open Go.RowKit Go.WideShapes
theorem tL {h:Bool×List Sh} {l:List (Bool×List Sh)} {xss:List (List PV)} (o:nR (h::l) xss):∃x r,xss=x::r/\okR h.2 x/\nR l r:=by
 cases xss with
 |nil=>exact o.elim
 |cons x r=>exact ⟨x,r,rfl,o⟩
theorem wS {xss:List (List PV)} (o:nR [] xss):xss= []:=by
 cases xss with
 |nil=>rfl
 |cons x r=>exact o.elim
theorem rP {h:Sh} {l:List Sh} {xs:List PV} (o:okR (h::l) xs):∃x r,xs=x::r/\okP h x/\okR l r:=by
 cases xs with
 |nil=>simp [okR] at o
 |cons x r=>simp only [okR] at o;exact ⟨x,r,rfl,o⟩
theorem vA {xs:List PV} (o:okR [] xs):xs= []:=by
 cases xs with
 |nil=>rfl
 |cons x r=>simp [okR] at o
theorem CZ {k:IntKind} {x:PV} (o:okP (.i k) x):∃n,x= .i k n/\(Lit.int k n).wf=true:=by
 cases x<;>simp [okP] at o;exact ⟨_,by rw [o.1],o.2⟩
theorem CJ {n:Nat} {e:List Sh} {x:PV} (o:okP (.sl n e) x):∃rows,x= .ls rows/\rows.length*n<=140737488351232/\∀r∈rows,okR e r:=by
 cases x<;>simp only [okP] at o;exact ⟨_,rfl,o⟩
theorem lib_none {P:Program} {lib:zk} (h:∀f xs up,lib f xs up=none):uU (λ_=>none) P lib:=λf args up r hv=>by rw [h] at hv;cases hv
section
variable {P:Program} {H:Type} {enc:TypeId×Value->H} {w:World} {sp:Nat->Bool} {base:Nat} {ps:List MemPlace}
theorem fK {w':World}:∀{ts:List TypeId} {vs:List Value} {ds:List (DataW H)} {ps:List MemPlace},
  DataW.TrodAll enc P w base sp true ts vs ds ps->(∀p∈ps,w.sameAt w' p)->DataW.TrodAll enc P w' base sp true ts vs ds ps
 | [],[],[],_,h,_=>h
 |_::_,_::_,_::_,_,⟨p,q,⟨n,h1⟩,h2,e⟩,hs=>
  ⟨p,q,⟨n,DataW.trod_carry n _ _ _ h1 (λx hx=>hs x (by rw [e];exact zamU _ hx))⟩,fK h2 (λx hx=>hs x (by rw [e];exact zamZ _ hx)),e⟩
theorem args_again {w':World} {ts:List TypeId} {vs:List Value} {ds:List (DataW H)} (hl:laidOutB P=true) (hm:mapsRowed P=true)
  (hz:((List.range P.types.size).all λt=>match P.underlying t with|some (.slice e)=>decide (0<P.cellsOf e)|_=>true)=true) (hts:∀t∈ts,t<P.types.size)
  (h:DataW.TrodAll enc P w 0 (λ_=>true) true ts vs ds ps) (hb:Below w.heap.size w w'):DataW.TrodAll enc P w' 0 (λb=>decide (b<w.heap.size)) true ts vs ds ps:=
 fK (h.respare (kids_rows hl hm) (λt e h1 h2=>slices_full_of P hz t e h1 h2) hts (λp hp=>zJ (h.lt p hp))) (λp hp=>hb.same (h.lt p hp))
end
end Go.Eng
