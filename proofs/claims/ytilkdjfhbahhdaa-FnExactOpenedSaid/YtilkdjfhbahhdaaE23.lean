import Derived.Test.YtilkdjfhbahhdaaE22
set_option linter.unusedVariables false
set_option linter.unusedSimpArgs false
namespace Go.Eng
section
variable {run:zh} {s s1 s' s1' s2 s2' t:St} {W:List (Nat×Nat)} {o k j:KOper}
theorem zGE {U:List Nat} (ht:∀n∈U,look n s'.t=look n s.t) (x:KX) (h:∀n∈x.uses,n∈U):s'.eval x=s.eval x:=by
 cases x with
 |t n=>simp only [St.eval];rw [ht n (h n (List.mem_singleton.2 rfl))]
 |k a=>rfl
structure LoT (d:Option Nat) (W:List (Nat×Nat)) (s s1 s' s1':St):Prop where
 u:s1.up.length=s.up.length
 u':s1'.up.length=s'.up.length
 i:∀p∈W,s1'.get p.1 p.2=s1.get p.1 p.2
 o:∀p,p∉W→s1.get p.1 p.2=s.get p.1 p.2∧s1'.get p.1 p.2=s'.get p.1 p.2
 ti:∀n,d=some n→look n s1'.t=look n s1.t
 to:∀n,d≠some n→look n s1.t=look n s.t∧look n s1'.t=look n s'.t
theorem Lo.put (h:Lo W s s1 s' s1') (d:Option Nat) (v:AV):LoT d W s {s1 with t:=zAy s1.t d v} s' {s1' with t:=zAy s1'.t d v}:=
 ⟨h.u,h.u',h.i,h.o,fun n e=>by simp only [zC0,e,if_true],fun n e=>by simp only [zC0,e,if_false,h.t,h.t'];exact ⟨trivial,trivial⟩⟩
theorem zCh (h:zQ run s o=some s1) (ht:∀n∈o.rd,look n s'.t=look n s.t) (ha:Agr ((tch s o).1++(tch s o).2) s s'):
  ∃z,zQ run s' o=some z∧LoT o.dst (tch s o).2 s s1 s' z:=by
 have hop:∀{v:AV} {y:St},zC run s (o.dst.getD 0) o.op=some (v,y)→∃z,zC run s' (o.dst.getD 0) o.op=some (v,z)∧Lo (tch s o).2 s y s' z:=fun {v y} he=>
  zK3 he (fun x hx=>zGE ht x fun n hn=>List.mem_append_right _ (hx n hn)) ha
 have hw:Agr (tch s o).2 s s':=ha.sub fun p hp=>List.mem_append_right _ hp
 unfold zQ at h⊢
 cases hg:o.guard with
 |none=>
  simp only [hg] at h⊢
  obtain ⟨⟨v,y⟩,h1,rfl⟩:=Option.map_eq_some_iff.1 h
  obtain ⟨z,e,l⟩:=hop h1
  exact ⟨_,by rw [e];rfl,l.put _ _⟩
 |some q=>
  obtain ⟨n,want⟩:=q
  simp only [hg] at h⊢
  rw [ht n (by simp [KOper.rd,hg])]
  split at h
  ·split at h
   ·rename_i hx
    obtain ⟨⟨v,y⟩,h1,rfl⟩:=Option.map_eq_some_iff.1 h
    obtain ⟨z,e,l⟩:=hop h1
    exact ⟨_,by rw [if_pos hx,e];rfl,l.put _ _⟩
   ·rename_i hx
    cases h
    exact ⟨_,by rw [if_neg hx],(Lo.refl hw).put _ _⟩
  ·cases h
   exact ⟨_,rfl,(Lo.refl hw).put _ _⟩
  ·cases h
theorem zBr {α β:Type} {f g:α→List β}:∀{l:List α},(∀x∈l,f x=g x)→l.flatMap f=l.flatMap g
 | [],_=>rfl
 |x::r,h=>by simp only [List.flatMap_cons,h x (List.mem_cons_self ..),zBr fun y hy=>h y (List.mem_cons_of_mem _ hy)]
theorem zGw (ht:∀n∈o.rd,look n s'.t=look n s.t) (ha:Agr ((tch s o).1++(tch s o).2) s s'):tch s' o=tch s o:=by
 have hr:∀x:KX,(∀n∈x.uses,n∈o.op.uses)→s'.refs x=s.refs x:=fun x hx=>by
  unfold St.refs
  rw [zGE ht x fun n hn=>List.mem_append_right _ (hx n hn)]
 have hl:∀l:List KX,(∀n∈l.flatMap KX.uses,n∈o.op.uses)→l.flatMap s'.refs=l.flatMap s.refs:=fun l h=>zBr fun x hx=>hr x fun n hn=>h n (List.mem_flatMap.2 ⟨x,hx,hn⟩)
 have hu:=ha.u
 unfold tch
 unfold tch at ha
 generalize o.dst.getD 0=d at ha⊢
 generalize o.op=k at ha hr hl⊢
 have lft:∀{A B:List Nat},∀n∈A,n∈A++B:=fun n h=>List.mem_append_left _ h
 have rgt:∀{A B:List Nat},∀n∈B,n∈A++B:=fun n h=>List.mem_append_right _ h
 cases k
 case mvR a=>simp only [rtO,wtO,hr a fun n h=>h,hu]
 case load g n ks a=>simp only [rtO,wtO,hr a fun n h=>h]
 case chk a=>simp only [rtO,wtO,hr a fun n h=>h]
 case faddr n a=>simp only [rtO,wtO,hr a fun n h=>h]
 case iaddr n a i=>simp only [rtO,wtO,hr a lft]
 case len b a=>simp only [rtO,wtO,hr a fun n h=>h]
 case toStr a=>simp only [rtO,wtO,hr a fun n h=>h]
 case rel b x y=>simp only [rtO,wtO,hr x lft,hr y rgt]
 case app ty sz by' x y=>
  simp only [rtO,wtO,hr x lft,hr y rgt,hu,Prod.mk.injEq,true_and,List.cons.injEq,List.append_cancel_left_eq]
  exact zBr fun p hp=>zC2 ha (List.mem_append_left _ hp)
 case store n a x=>simp only [rtO,wtO,hr a lft,hr x rgt]
 case storeB b e a x=>simp only [rtO,wtO,hr a lft,hr x rgt,hu]
 case storeN n b c a x=>simp only [rtO,wtO,hr a lft,hr x rgt,hu]
 case bslice ty sz len cols z ps=>simp only [rtO,wtO,hu,zBr fun p hp=>hr p.2 fun n hn=>List.mem_flatMap.2 ⟨p,hp,hn⟩]
 case call b f args=>
  cases b
  ·simp only [rtO,wtO,hl (f::args) fun n h=>by simpa [KOp.uses] using h]
  ·have e:=hl (f::args) fun n h=>by simpa [KOp.uses] using h
   simp only [rtO,wtO,hu,e]
   congr 2
   exact zBr fun p hp=>zC2 ha (List.mem_append_left _ (List.mem_append_left _ hp))
 case callN f args=>
  have e:=hl (f::args) fun n h=>by simpa [KOp.uses] using h
  simp only [rtO,wtO,e,Prod.mk.injEq,true_and,List.append_cancel_left_eq]
  exact zBr fun p hp=>zC2 ha (List.mem_append_right _ (List.mem_append_left _ hp))
 all_goals simp only [rtO,wtO,hu]
theorem zBf {p:Nat×Nat}:∀{l:List (Nat×Nat)},zFi p l=false→p∉l
 | [],_,h=>(by cases h)
 |q::r,hb,h=>by
  simp only [zFi,Bool.or_eq_false_iff,Bool.and_eq_false_iff,beq_eq_false_iff_ne] at hb
  rcases List.mem_cons.1 h with rfl|h
  ·rcases hb.1 with e|e<;>exact e rfl
  ·exact zBf hb.2 h
theorem zJM {a b:Tch} (h:apM a b=true):(∀p∈a.2,p∉b.1∧p∉b.2)∧∀p∈b.2,p∉a.1∧p∉a.2:=by
 simp only [apM,Bool.and_eq_true,List.all_eq_true,Bool.not_eq_true'] at h
 exact ⟨fun p hp=>⟨zBf (h.1 p hp).1,zBf (h.1 p hp).2⟩,fun p hp=>⟨zBf (h.2 p hp),fun hq=>zBf (h.1 p hq).2 hp⟩⟩
theorem zGx {a b:KOper} (h:zCC a b=true):(∀d,a.dst=some d→d∉b.rd∧b.dst≠some d)∧∀d,b.dst=some d→d∉a.rd:=by
 simp only [zCC,Bool.and_eq_true] at h
 refine ⟨fun d hd=>?_,fun d hd=>?_⟩
 ·have:=h.1
  simp only [hd,Bool.and_eq_true,Bool.not_eq_true',bne_iff_ne,ne_eq] at this
  refine ⟨fun hm=>?_,this.2⟩
  have e:=List.contains_iff_mem.2 hm
  rw [this.1] at e
  cases e
 ·have:=h.2
  simp only [hd,Bool.not_eq_true'] at this
  intro hm
  have e:=List.contains_iff_mem.2 hm
  rw [this] at e
  cases e
structure Eqv (s s':St):Prop where
 t:∀n,look n s'.t=look n s.t
 u:s'.up.length=s.up.length
 m:∀p:Nat×Nat,s'.get p.1 p.2=s.get p.1 p.2
theorem Eqv.refl (s:St):Eqv s s:=⟨fun _=>rfl,rfl,fun _=>rfl⟩
theorem Eqv.trans (h:Eqv s s1) (h':Eqv s1 s2):Eqv s s2:=⟨fun n=>(h'.t n).trans (h.t n),h'.u.trans h.u,fun p=>(h'.m p).trans (h.m p)⟩
theorem zJN (h:zQ run s o=some s1) (e:Eqv s s'):∃z,zQ run s' o=some z∧Eqv s1 z∧tch s' o=tch s o:=by
 have ha:Agr ((tch s o).1++(tch s o).2) s s':=⟨e.u,fun p _=>e.m p⟩
 obtain ⟨z,h1,l⟩:=zCh h (fun n _=>e.t n) ha
 refine ⟨z,h1,⟨fun n=>?_,?_,fun p=>?_⟩,zGw (fun n _=>e.t n) ha⟩
 ·by_cases hn:o.dst=some n
  ·exact l.ti n hn
  ·rw [(l.to n hn).1,(l.to n hn).2,e.t]
 ·rw [l.u',l.u,e.u]
 ·by_cases hp:p∈(tch s o).2
  ·exact l.i p hp
  ·rw [(l.o p hp).1,(l.o p hp).2,e.m]
theorem zLX (h1:zQ run s k=some s1) (h2:zQ run s1 j=some s2) (hs:zCC k j=true) (hm:apM (tch s k) (tch s1 j)=true):
  ∃t1 t2,zQ run s j=some t1∧zQ run t1 k=some t2∧Eqv s2 t2∧tch s j=tch s1 j∧tch t1 k=tch s k:=by
 obtain ⟨a1,a2⟩:=zGx hs
 obtain ⟨m1,m2⟩:=zJM hm
 obtain ⟨_,_,l0⟩:=zCh h1 (fun _ _=>rfl) (⟨rfl,fun _ _=>rfl⟩:Agr _ s s)
 have ht1:∀n∈j.rd,look n s.t=look n s1.t:=fun n hn=>((l0.to n fun e=>(a1 n e).1 hn).1).symm
 have ha1:Agr ((tch s1 j).1++(tch s1 j).2) s1 s:=⟨l0.u.symm,fun p hp=>((l0.o p fun hk=>by
  rcases List.mem_append.1 hp with hp|hp
  ·exact (m1 p hk).1 hp
  ·exact (m1 p hk).2 hp).1).symm⟩
 obtain ⟨t1,e1,l1⟩:=zCh h2 ht1 ha1
 have ht2:∀n∈k.rd,look n t1.t=look n s.t:=fun n hn=>(l1.to n fun e=>a2 n e hn).2
 have ha2:Agr ((tch s k).1++(tch s k).2) s t1:=⟨l1.u',fun p hp=>(l1.o p fun hj=>by
  rcases List.mem_append.1 hp with hp|hp
  ·exact (m2 p hj).1 hp
  ·exact (m2 p hj).2 hp).2⟩
 obtain ⟨t2,e2,l2⟩:=zCh h1 ht2 ha2
 refine ⟨t1,t2,e1,e2,⟨fun n=>?_,?_,fun p=>?_⟩,zGw ht1 ha1,zGw ht2 ha2⟩
 ·by_cases hj:j.dst=some n
  ·have hk:k.dst≠some n:=fun e=>(a1 n e).2 hj
   rw [(l2.to n hk).2,l1.ti n hj]
  ·by_cases hk:k.dst=some n
   ·rw [l2.ti n hk,(l1.to n hj).1]
   ·rw [(l2.to n hk).2,(l1.to n hj).2,(l1.to n hj).1,(l2.to n hk).1]
 ·rw [l2.u',l1.u',l1.u,l0.u]
 ·by_cases hj:p∈(tch s1 j).2
  ·have hk:p∉(tch s k).2:=(m2 p hj).2
   rw [(l2.o p hk).2,l1.i p hj]
  ·by_cases hk:p∈(tch s k).2
   ·rw [l2.i p hk,(l1.o p hj).1]
   ·rw [(l2.o p hk).2,(l1.o p hj).2,(l1.o p hj).1,(l2.o p hk).1]
def evS (run:zh) (ks:List KOper):List Nat→St→Option (St×List (Nat×Tch))
 | [],s=>some (s,[])
 |i::r,s=>(zQ run s (kOf ks i)).bind fun s1=>(evS run ks r s1).map fun q=>(q.1,(i,tch s (kOf ks i))::q.2)
variable {ks:List KOper}
def Apt (ks:List KOper) (x y:Nat×Tch):Prop:=zCC (kOf ks x.1) (kOf ks y.1)=true∧apM x.2 y.2=true
theorem zCi {i:Nat} {r:List Nat} {tr:List (Nat×Tch)} (h:evS run ks (i::r) s=some (s',tr)):∃s1 tr',zQ run s (kOf ks i)=some s1∧evS run ks r s1=some (s',tr')∧tr=(i,tch s (kOf ks i))::tr':=by
 simp only [evS,zN,zL] at h
 obtain ⟨s1,h1,⟨s2,tr'⟩,h2,h3⟩:=h
 cases h3
 exact ⟨s1,tr',h1,h2,rfl⟩
theorem zGy {i:Nat} {r:List Nat} {tr:List (Nat×Tch)} (h1:zQ run s (kOf ks i)=some s1) (h2:evS run ks r s1=some (s',tr)):evS run ks (i::r) s=some (s',(i,tch s (kOf ks i))::tr):=by
 simp only [evS,h1,zG,h2,Option.map_some]
theorem zHg:∀{L:List Nat} {s s' t:St} {tr:List (Nat×Tch)},evS run ks L s=some (s',tr)→Eqv s t→∃t',evS run ks L t=some (t',tr)∧Eqv s' t'
 | [],s,s',t,tr,h,e=>by cases h;exact ⟨t,rfl,e⟩
 |i::r,s,s',t,tr,h,e=>by
  obtain ⟨s1,tr',h1,h2,rfl⟩:=zCi h
  obtain ⟨t1,g1,e1,q⟩:=zJN h1 e
  obtain ⟨t',g2,e2⟩:=zHg h2 e1
  exact ⟨t',by rw [zGy g1 g2,q],e2⟩
theorem zHh:∀{L:List Nat} {s s':St} {tr:List (Nat×Tch)},evS run ks L s=some (s',tr)→tr.map (·.1)=L
 | [],s,s',tr,h=>by cases h;rfl
 |i::r,s,s',tr,h=>by
  obtain ⟨s1,tr',h1,h2,rfl⟩:=zCi h
  simp [zHh h2]
theorem zJO {j:Nat} {q:List Nat}:∀{p:List Nat} {s s':St} {tr:List (Nat×Tch)},evS run ks (p++j::q) s=some (s',tr)→∃tp tj tq,tr=tp++(j,tj)::tq∧tp.map (·.1)=p∧
  ((∀a∈tp,Apt ks a (j,tj))→∃s1 s'',zQ run s (kOf ks j)=some s1∧evS run ks (p++q) s1=some (s'',tp++tq)∧Eqv s' s''∧tch s (kOf ks j)=tj)
 | [],s,s',tr,h=>by
  obtain ⟨s1,tr',h1,h2,rfl⟩:=zCi h
  exact ⟨[],_,tr',rfl,rfl,fun _=>⟨s1,s',h1,h2,Eqv.refl _,rfl⟩⟩
 |k::p,s,s',tr,h=>by
  obtain ⟨s1,tr',h1,h2,rfl⟩:=zCi h
  obtain ⟨tp,tj,tq,rfl,e1,h3⟩:=zJO h2
  refine ⟨(k,tch s (kOf ks k))::tp,tj,tq,rfl,by simp [e1],fun ha=>?_⟩
  obtain ⟨s2,s'',g1,g2,g3,rfl⟩:=h3 fun a h=>ha a (List.mem_cons_of_mem _ h)
  obtain ⟨b1,b2⟩:=ha _ (List.mem_cons_self ..)
  obtain ⟨t1,t2,c1,c2,c3,c4,c5⟩:=zLX h1 g1 b1 b2
  obtain ⟨t',d1,d2⟩:=zHg g2 c3
  exact ⟨t1,t',c1,by rw [←c5];exact zGy c2 d1,g3.trans d2,c4⟩
theorem zGF (h:zHH o.op=true):tch s o=([],[]):=by
 unfold tch
 generalize o.op=k at h⊢
 cases k<;>first|rfl|cases h
theorem zJP (h:roK o.op=true):(tch s o).2= []:=by
 unfold tch
 generalize o.op=k at h⊢
 cases k<;>first|rfl|cases h
def zJQ (ks:List KOper) (x:Nat×Tch):Prop:=∃s,x.2=tch s (kOf ks x.1)
theorem zJR {dt:DT} {x y:Nat×Tch} (hx:zJQ ks x) (hy:zJQ ks y) (hd:zFH dt y.1 x.1=false) (hf:zDF ks dt y.1 x.1=false):apM x.2 y.2=true:=by
 obtain ⟨s,hx⟩:=hx
 obtain ⟨s',hy⟩:=hy
 simp only [zDF,hd,Bool.not_false,Bool.true_and,Bool.not_eq_false'] at hf
 simp only [Bool.or_eq_true,Bool.and_eq_true] at hf
 rw [hx,hy]
 rcases hf with (h|h)|⟨h1,h2⟩
 ·rw [zGF h];simp [apM,zFi]
 ·rw [zGF h];simp [apM,zFi]
 ·simp [apM,zJP h1,zJP h2]
theorem zE0 {dt:DT} {jt:Nat} {x:Tch}:∀{p:List Nat} {ts:List Tch},zIW (p.map (zDF ks dt jt)) ts x=true→∀a∈p.zip ts,zDF ks dt jt a.1=true→apM a.2 x=true
 | [],ts,h,a,ha,hf=>by cases ha
 |i::p,[],h,a,ha,hf=>by cases ha
 |i::p,t::ts,h,a,ha,hf=>by
  simp only [List.map_cons,zIW,Bool.and_eq_true] at h
  rcases List.mem_cons.1 ha with rfl|ha
  ·have h1:=h.1
   simp only at hf
   rw [hf] at h1
   simpa using h1
  ·exact zE0 h.2 a ha hf
theorem zD8 {dt:DT}:∀{L p:List Nat} {ts:List Tch} {s s':St},zDl run (zDp ks dt p L) ts s=some s'→∃tr,evS run ks L s=some (s',tr)∧(∀x∈tr,zJQ ks x)∧
  (∀a∈p.zip ts,∀y∈tr,zDF ks dt y.1 a.1=true→apM a.2 y.2=true)∧tr.Pairwise fun x y=>zDF ks dt y.1 x.1=true→apM x.2 y.2=true
 | [],p,ts,s,s',h=>by cases h;exact ⟨[],rfl,fun x hx=>(by cases hx),fun a _ y hy=>(by cases hy),.nil⟩
 |j::r,p,ts,s,s',h=>by
  simp only [zDp,zDl] at h
  split at h
  ·rename_i hc
   obtain ⟨s1,h1,h2⟩:=Option.bind_eq_some_iff.1 h
   obtain ⟨tr,g1,g2,g3,g4⟩:=zD8 h2
   have hz:(j::p).zip (tch s (kOf ks j)::ts)=(j,tch s (kOf ks j))::p.zip ts:=rfl
   rw [hz] at g3
   refine ⟨_,zGy h1 g1,fun x hx=>?_,fun a ha y hy hf=>?_,.cons (fun y hy hf=>g3 _ (List.mem_cons_self ..) y hy hf) g4⟩
   ·rcases List.mem_cons.1 hx with rfl|hx
    ·exact ⟨s,rfl⟩
    ·exact g2 x hx
   ·rcases List.mem_cons.1 hy with rfl|hy
    ·exact zE0 hc a ha hf
    ·exact g3 a (List.mem_cons_of_mem _ ha) y hy hf
  ·cases h
end
end Go.Eng

