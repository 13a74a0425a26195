import Derived.Test.YthhngmnbcmkhpaaGreatDoorE23
set_option linter.unusedVariables false
set_option linter.unusedSimpArgs false
namespace Go.Eng
open Go.RowKit
structure Fits (P:Program) (h:Hints) (me:FuncId) (ops:Array Oper) (o:Oper) (ko:KOper):Prop where
 dst:ko.dst=o.dst
 op:zK P h me o=some ko.op
 gd:(o.guard=none∧ko.guard=none)∨∃j want t,o.guard=some (j,want)∧(ops[j]?).bind (·.dst)=some t∧ko.guard=some (t,want)
section
variable {P:Program} {F:Nat→Prop} {G:Nat→Option Obj} {N0:Base G} {T:Nat} {pl pl0:Pl} {st st1 st':St} {a:Act} {w w0:World} {up0:List Frame} {h:Hints} {self:FuncId} {ops:Array Oper} {o:Oper} {ko:KOper} {run:zj}
theorem zGP {ks:List KOper} (hc:zAB P h self ops=some ks):ks.length=ops.size∧∀(i:Nat) o ko,ops[i]?=some o→ks[i]?=some ko→Fits P h self ops o ko:=by
 unfold zAB at hc
 obtain ⟨h1,h2⟩:=zz hc
 refine ⟨by simpa using h1,fun i o ko ho hk=>?_⟩
 have h3:=h2 i o ko (by simpa using ho) hk
 obtain ⟨k,hk',hg⟩:=Option.bind_eq_some_iff.1 h3
 cases hgd:o.guard with
 |none=>
  rw [hgd] at hg
  cases hg
  exact ⟨rfl,hk',.inl ⟨hgd,rfl⟩⟩
 |some jw=>
  obtain ⟨j,want⟩:=jw
  rw [hgd] at hg
  obtain ⟨t,ht,rfl⟩:=Option.map_eq_some_iff.1 hg
  exact ⟨rfl,hk',.inr ⟨j,want,t,hgd,ht,rfl⟩⟩
theorem zFN (hf:Fits P h self ops o ko) (hr:Rel F N0 T pl st a w) (he:zZ run st ko=some st1):
  (Region.wanted o (yielded ops a.tmps)=true∧∃v st2,zA run st (ko.dst.getD 0) ko.op=some (v,st2)∧st1={st2 with t:=zA8 st2.t ko.dst v})∨
  (Region.wanted o (yielded ops a.tmps)=false∧st1={st with t:=zA8 st.t ko.dst (.tup [])}):=by
 rcases hf.gd with ⟨hgd,hg⟩|⟨j,want,t,hgd,ht,hg⟩
 ·simp only [zZ,hg,Option.map_eq_some_iff] at he
  obtain ⟨⟨v,st2⟩,h1,rfl⟩:=he
  exact .inl ⟨by simp [Region.wanted,hgd],v,st2,h1,rfl⟩
 ·simp only [zZ,hg] at he
  split at he
  ·rename_i x hx
   have hval:=zDG (hr.tmps t _ hx)
   have hy:yielded ops a.tmps j=some x:=by
    unfold yielded
    rw [ht]
    have:a.tmps[t]?=some (.bool x):=by
     rw [Array.getD_eq_getD_getElem?] at hval
     cases hq:a.tmps[t]? with
     |none=>rw [hq] at hval;simp [undef] at hval
     |some q=>rw [hq] at hval;simpa using hval
    simp [this]
   split at he
   ·rename_i hxw
    subst hxw
    obtain ⟨⟨v,st2⟩,h1,rfl⟩:=Option.map_eq_some_iff.1 he
    exact .inl ⟨by simp [Region.wanted,hgd,hy],v,st2,h1,rfl⟩
   ·rename_i hxw
    cases he
    exact .inr ⟨by simp [Region.wanted,hgd,hy];exact hxw,rfl⟩
  ·rename_i hx
   have hy:yielded ops a.tmps j≠some want:=by
    obtain ⟨us,hu,hl,_⟩:=hr.tmps t _ hx
    have hus:us= []:=List.eq_nil_of_length_eq_zero hl
    subst hus
    unfold yielded
    rw [ht]
    rw [Array.getD_eq_getD_getElem?] at hu
    cases hq:a.tmps[t]? with
    |none=>simp [hq]
    |some q=>rw [hq] at hu;simp at hu;subst hu;simp [hq]
   cases he
   exact .inr ⟨by simp [Region.wanted,hgd];exact hy,rfl⟩
  ·cases he
theorem zEK (hf:Fits P h self ops o ko) (hcalm:zg ko.op=true) (hr:Rel F N0 T pl st a w) (hT:∀d,ko.dst=some d→d<T) (he:zZ run st ko=some st1):
  ∃u,YieldsW P ops (zEJ a ko.op) o u a w∧(∃pl1,Rel F N0 T pl1 st1 (a.put o.dst u) w∧Keep F (st.fr::st.up) (st1.fr::st1.up) pl pl1 w w)∧∀n,o.dst≠some n→zG n st1.t=zG n st.t:=by
 rcases zFN hf hr he with ⟨hw,v,st2,hev,rfl⟩|⟨hw,rfl⟩
 ·obtain ⟨u,hp,hrun⟩:=zIN hcalm hf.op hr hev
  obtain ⟨pl1,h1,h2⟩:=zBO hr hp hT
  rw [hf.dst] at h1
  refine ⟨u,.inl ⟨hw,hrun⟩,⟨pl1,by rw [hf.dst];exact h1,h2⟩,fun n hn=>?_⟩
  simp only [zAL,hf.dst,hn,if_false,hp.t]
 ·obtain ⟨pl1,h1,h2⟩:=zBO (v:= .tup []) (u:=undef) hr ⟨⟨pl,⟨[],rfl,rfl,fun i u c hu=>by simp at hu⟩,hr.mem,Keep.refl⟩,rfl⟩ hT
  rw [hf.dst] at h1
  refine ⟨undef,.inr ⟨hw,rfl⟩,⟨pl1,by rw [hf.dst];exact h1,h2⟩,fun n hn=>?_⟩
  simp only [zAL,hf.dst,hn,if_false]
theorem zHY (hS:zAz G P run) {i:Nat} (hi:ops[i]?=some o) (hf:Fits P h self ops o ko) (hr:Rel F N0 T pl st a w) (hT:∀d,ko.dst=some d→d<T) (he:zZ run st ko=some st1) {K:Act→World→Prop}
  (hK:∀u w' pl1,KeepB (fun b=>zAb ko.op=true∨zEr a ko.op b) w w'→Rel F N0 T pl1 st1 (a.put o.dst u) w'→Keep F (st.fr::st.up) (st1.fr::st1.up) pl pl1 w w'→(∀n,o.dst≠some n→zG n st1.t=zG n st.t)→K (a.put o.dst u) w'):
  stepF P ops i K a w:=by
 unfold stepF
 simp only [hi]
 rcases zFN hf hr he with ⟨hw,v,st2,hev,rfl⟩|⟨hw,rfl⟩
 ·rw [if_pos hw]
  have fin:∀u w',KeepB (fun b=>zAb ko.op=true∨zEr a ko.op b) w w'→Post F N0 pl st w v st2 u w'→K (a.put o.dst u) w':=fun u w' hg hp=>by
   obtain ⟨pl1,h1,h2⟩:=zBO hr hp hT
   rw [hf.dst] at h1
   exact hK u w' pl1 hg (by rw [hf.dst];exact h1) h2 fun n hn=>by simp only [zAL,hf.dst,hn,if_false,hp.t]
  by_cases hg:zAb ko.op=true
  ·exact zIO hS hg hf.op hr hev _ fun u w' hp=>fin u w' (hp.2.keepB _) hp.1
  ·by_cases hs:∃m,zB8 ko.op=some m
   ·exact zHX hS hs hf.op hr hev _ fun u w' hp=>fin u w' (hp.2.sub fun b hb=>hb.elim (fun e=>absurd e hg) id) hp.1
   ·exact zIj hS hf.op hr hev _ fun u w' hp=>fin u w' ⟨by obtain ⟨⟨_,_,_,h⟩,_⟩:=hp;exact h.step.size,fun k hk e=>e.elim (fun e=>absurd e hg) fun ⟨m,_,e,_⟩=>absurd ⟨m,e⟩ hs⟩ hp
 ·rw [if_neg (by simp [hw])]
  obtain ⟨pl1,h1,h2⟩:=zBO (v:= .tup []) (u:=undef) hr ⟨⟨pl,⟨[],rfl,rfl,fun i u c hu=>by simp at hu⟩,hr.mem,Keep.refl⟩,rfl⟩ hT
  rw [hf.dst] at h1
  exact hK undef w pl1 (KeepB.refl _ w) (by rw [hf.dst];exact h1) h2 fun n hn=>by simp only [zAL,hf.dst,hn,if_false]
def zIv (P:Program) (o:Oper) (cells:Array Value) (ty:TypeId) (val:Nat→Value):Prop:=∀(a:Act) (w:World),(execOp a.eval o).run P w= .ok (.value (val w.heap.size)) {w with heap:=w.heap.push (.cells cells ty)}
def zHZ (k:KOp) (cells:Array Value) (ty:TypeId) (val:Nat→Value):Prop:=∀{F:Nat→Prop} {G:Nat→Option Obj} {N0:Base G} {T:Nat} {run:zj} {pl:Pl} {st st2:St} {a:Act} {w:World} {b dst:Nat} {v:AV},
 Rel (fun k=>F k∨k=b) N0 T pl st a w→¬F b→N0.n≤b→w.heap[b]?=some (.cells cells ty (0,0))→zA run st dst k=some (v,st2)→
  ∃pl',Rel F N0 T pl' st2 a w∧zR F (st2.fr::st2.up) pl' w (val b) v∧st2.up=st.up∧st2.t=st.t∧(∀d n,d<st.up.length→pl' d n=pl d n)∧(∀d n k s,pl' d n=some (k,s)→k=b∨∃d0 n0,pl d0 n0=some (k,s))
theorem zDa {o:Oper} {k:KOp} (hal:zm o=true) (hc:zK P h self o=some k):zg k=false∧o.guard=none:=by
 unfold zm at hal
 split at hal
 ·rename_i e heq
  unfold zK at hc
  rw [heq] at hc
  simp only [Option.bind_eq_some_iff,Option.map_eq_some_iff] at hc
  obtain ⟨_,_,_,_,_,_,hc⟩:=hc
  rw [←hc]
  exact ⟨rfl,by simpa using hal⟩
 ·rename_i t len parts heq
  simp only [Bool.and_eq_true] at hal
  unfold zK at hc
  rw [heq] at hc
  simp only at hc
  split at hc
  ·split at hc
   ·cases hc
   ·split at hc
    ·cases hc
    ·simp only [Option.bind_eq_some_iff,Option.map_eq_some_iff] at hc
     obtain ⟨_,_,_,_,hc⟩:=hc
     rw [←hc]
     exact ⟨rfl,by simpa using hal.1⟩
  ·cases hc
 ·cases hal
theorem zHa (w0:World) {o:Oper} {k:KOp} (hal:zm o=true) (hc:zK P h self o=some k):
  ∃cells ty val,zIv P o cells ty val∧∀h' self' k',zK P h' self' o=some k'→zHZ k' cells ty val:=by
 unfold zm at hal
 split at hal
 ·rename_i e heq
  unfold zK at hc
  rw [heq] at hc
  simp only [Option.bind_eq_some_iff,Option.map_eq_some_iff] at hc
  obtain ⟨ti,hti,z,hz,x,hx,hk⟩:=hc
  refine ⟨z.cells,e,fun b=> .pointer (some ⟨b,0,none⟩),fun a w=>by simp only [execOp,heq,Sem.run_bind,zCC hti hz,Result.andThen_ok];rfl,fun h' self' k' hc'=>?_⟩
  unfold zK at hc'
  rw [heq] at hc'
  simp only [Option.bind_eq_some_iff,Option.map_eq_some_iff] at hc'
  obtain ⟨ti',hti',z',hz',x',hx',rfl⟩:=hc'
  rw [hti] at hti'
  cases hti'
  rw [hz] at hz'
  cases hz'
  rw [hx] at hx'
  cases hx'
  intro F G N0 T run pl st st2 a w b dst v hr hF hN hg hev
  simp only [zA,St.eval] at hev
  split at hev
  ·cases hev
  ·rename_i hnt
   split at hev
   ·rename_i hcond
    simp only [Option.some.injEq,Prod.mk.injEq] at hev
    obtain ⟨rfl,rfl⟩:=hev
    obtain ⟨pl',h1,h2,h3,h4⟩:=zGn (n:=dst*64) (sz:=P.cellsOf e) hr hF hN hg (cs:=x.cvs) (fun {fs pl}=>zAw (zEf hx) hnt (zBL hcond.2)) (fun c hc=>List.all_eq_true.1 hcond.2 c hc)
    exact ⟨pl',h1,h2,rfl,rfl,h3,h4⟩
   ·cases hev
 ·rename_i t len parts heq
  simp only [Bool.and_eq_true,bne_iff_ne,ne_eq] at hal
  obtain ⟨hgd,h0,hcst⟩:=hal
  unfold zK at hc
  rw [heq] at hc
  simp only at hc
  split at hc
  ·rename_i e hu
   split at hc
   ·cases hc
   ·rename_i hcond
    simp only [not_or] at hcond
    split at hc
    ·cases hc
    ·rename_i hbad
     simp only [Option.bind_eq_some_iff,Option.map_eq_some_iff] at hc
     obtain ⟨z,hz,ks,hks,hk⟩:=hc
     obtain ⟨rows,cells,f1,f2,f3,f4,f5,f6,f7⟩:=zEl w0 heq hu (by simpa using hcond.1) hcond.2 (by simpa using hbad) h0 hcst hz hks
     refine ⟨cells,e,fun b=> .slice (some ⟨b,0,none⟩) len len,f7,fun h' self' k' hc'=>?_⟩
     unfold zK at hc'
     rw [heq] at hc'
     simp only [hu] at hc'
     rw [if_neg (by simpa using hcond),if_neg hbad] at hc'
     simp only [Option.bind_eq_some_iff,Option.map_eq_some_iff] at hc'
     obtain ⟨z',hz',ks',hks',rfl⟩:=hc'
     rw [hz] at hz'
     cases hz'
     rw [hks] at hks'
     cases hks'
     intro F G N0 T run pl st st2 a w b dst v hr hF hN hg hev
     simp only [zA,f1 st,Option.bind_some,zBE f2,Option.some.injEq,Prod.mk.injEq] at hev
     obtain ⟨rfl,rfl⟩:=hev
     obtain ⟨pl',h1,h2,h3,h4⟩:=zDx (n:=dst*64) (sz:=P.cellsOf e) (rs:=rows.map fun r=>r.map wkC) (m:=len) hr hF hN hg (by rw [List.length_map];exact f4) f5 (fun r hr=>by
      obtain ⟨q,hq,rfl⟩:=List.mem_map.1 hr
      rw [List.length_map];exact f3 q hq) (fun {pl}=>zGd (fs:= []) f2 f6)
     exact ⟨pl',h1,h2,rfl,rfl,h3,h4⟩
  ·cases hc
 ·cases hal
def zCE (F:Nat→Prop) (E:Nat→Option Nat) (k:Nat):Prop:=F k∨∃j,E j=some k
structure Pend (P:Program) (ops:Array Oper) (F:Nat→Prop) {G:Nat→Option Obj} (N0:Base G) (w0:World) (listed0 R:Array Bool) (E:Nat→Option Nat) (st:St) (a:Act) (w:World):Prop where
 sz0:listed0.size=ops.size
 szR:R.size=ops.size
 sub:∀j,listed0.getD j false=true→R.getD j false=true
 ext:∀j,R.getD j false=true→listed0.getD j false=true∨∃b,E j=some b
 mem:∀j b,E j=some b→listed0.getD j true=false∧R.getD j false=true∧N0.n≤b∧w0.heap.size≤b∧¬F b∧
  ∃o cells ty val,ops[j]?=some o∧zm o=true∧(∀h self k,zK P h self o=some k→zHZ k cells ty val)∧w.heap[b]?=some (.cells cells ty (0,0))∧∀d,o.dst=some d→a.tmps.getD d undef=val b
 inj:∀i j b,E i=some b→E j=some b→i=j
 closed:∀j o,ops[j]?=some o→R.getD j false=true→∀e∈o.after,Region.binds .any e=true→R.getD e.on false=true
 und:∀j o d,ops[j]?=some o→zm o=true→listed0.getD j true=false→o.dst=some d→zG d st.t=some (.c .u)
theorem zBG {l:Array Bool} {i:Nat} (hi:i<l.size) (d:Bool):(l.setIfInBounds i true).getD i d=true:=by
 simp [hi]
theorem zk {l:Array Bool} {i:Nat} (hi:i<l.size) (d d':Bool):l.getD i d=l.getD i d':=by simp [hi]
theorem zAR {l:Array Bool} {i:Nat} {d:Bool} (h:l.getD i d=!d):i<l.size:=by
 rcases Nat.lt_or_ge i l.size with h'|h'
 ·exact h'
 ·rw [Array.getD_eq_getD_getElem?,Array.getElem?_eq_none h'] at h
  cases d<;>simp at h
theorem zAx {l:Array Bool} {i j:Nat} {d:Bool} (h:(l.setIfInBounds i true).getD j d=true):j=i∨l.getD j d=true:=by
 by_cases hij:j=i
 ·exact .inl hij
 ·rw [getD_set_ne d (Ne.symm hij)] at h;exact .inr h
theorem zEL {l:Array Bool} {i j:Nat} (h:(l.setIfInBounds i true).getD j true=false):j≠i∧l.getD j true=false:=by
 have hlt:j<(l.setIfInBounds i true).size:=zAR h
 by_cases hij:j=i
 ·subst hij
  rw [zBG (by simpa using hlt)] at h
  cases h
 ·rw [getD_set_ne true (Ne.symm hij)] at h;exact ⟨hij,h⟩
theorem zEM:∀(l:List Bool) (i:Nat),l[i]?=some false→(l.set i true).count false+1=l.count false
 | [],i,h=>by simp at h
 |x::l,0,h=>by simp at h;subst h;simp
 |x::l,i+1,h=>by
  have:=zEM l i (by simpa using h)
  cases x<;>simp<;>omega
theorem zBr {l:Array Bool} {i:Nat} (h:l.getD i true=false):(l.setIfInBounds i true).toList.count false+1=l.toList.count false:=by
 have hlt:i<l.size:=zAR h
 rw [Array.toList_setIfInBounds]
 refine zEM _ _ ?_
 rw [Array.getElem?_toList]
 simpa [hlt] using h
variable {listed0 R:Array Bool} {E:Nat→Option Nat}
theorem Pend.step (hp:Pend P ops F N0 w0 listed0 R E st a w) {i:Nat} (hi:ops[i]?=some o) (hR:R.getD i true=false) (hall:∀e∈o.after,Region.binds .any e=true→R.getD e.on false=true) (hdist:∀(j:Nat) o' d,ops[j]?=some o'→o.dst=some d→o'.dst=some d→j=i)
  {u:Value} {w':World} {pl pl1:Pl} (hr:Rel (zCE F E) N0 T pl st a w) (hk:Keep (zCE F E) (st.fr::st.up) (st1.fr::st1.up) pl pl1 w w') (ht:∀n,o.dst≠some n→zG n st1.t=zG n st.t):
  Pend P ops F N0 w0 (listed0.setIfInBounds i true) (R.setIfInBounds i true) E st1 (a.put o.dst u) w':=by
 have hil:i<R.size:=zAR hR
 refine ⟨by simp [hp.sz0],by simp [hp.szR],fun j hj=>?_,fun j hj=>?_,fun j b hb=>?_,hp.inj,fun j oj hoj hj e he hbd=>?_,fun j oj d hoj hal hj hd=>?_⟩
 ·rcases zAx hj with rfl|hj
  ·exact zBG hil _
  ·exact getD_set_true (hp.sub j hj)
 ·rcases zAx hj with rfl|hj
  ·exact .inl (zBG (by rw [hp.sz0,←hp.szR];exact hil) _)
  ·exact (hp.ext j hj).imp getD_set_true id
 ·obtain ⟨h1,h2,h3,h4,h5,o',cs,ty,val,g1,g2,g3,g6,g7⟩:=hp.mem j b hb
  have hji:j≠i:=fun e=>by
   subst e
   rw [zk hil false true,hR] at h2
   cases h2
  refine ⟨by rw [getD_set_ne true (Ne.symm hji)];exact h1,getD_set_true h2,h3,h4,h5,o',cs,ty,val,g1,g2,g3,?_,fun d hd=>?_⟩
  ·rw [←g6]
   exact hk.step.block b (Array.getElem?_eq_some_iff.1 g6).1 fun d n s hh=>(hr.mem.live d n b s hh).2.2.1 (.inr ⟨j,hb⟩)
  ·have hne:o.dst≠some d:=fun e=>hji (hdist j o' d g1 e hd)
   rw [←g7 d hd]
   cases hod:o.dst with
   |none=>rfl
   |some d'=>
    have:d'≠d:=fun e=>hne (by rw [hod,e])
    simp [Act.put,Array.getElem?_setIfInBounds,this]
 ·rcases zAx hj with rfl|hj
  ·rw [hi] at hoj
   cases hoj
   exact getD_set_true (hall e he hbd)
  ·exact getD_set_true (hp.closed j oj hoj hj e he hbd)
 ·obtain ⟨hji,hj⟩:=zEL hj
  rw [ht d fun e=>hji (hdist j oj d hoj e hd)]
  exact hp.und j oj d hoj hal hj hd
theorem zIP {E:Nat→Option Nat} {i b:Nat} (hE:E i=none):(fun k=>zCE F E k∨k=b)=zCE F (fun j=>if j=i then some b else E j):=by
 funext k
 apply propext
 constructor
 ·rintro ((h|⟨j,h⟩)|rfl)
  ·exact .inl h
  ·exact .inr ⟨j,by dsimp only;rw [if_neg (fun e=>by subst e;rw [hE] at h;cases h)];exact h⟩
  ·exact .inr ⟨i,by simp⟩
 ·rintro (h|⟨j,h⟩)
  ·exact .inl (.inl h)
  ·dsimp only at h
   split at h
   ·exact .inr (Option.some.inj h).symm
   ·exact .inl (.inr ⟨j,h⟩)
theorem zHb {E:Nat→Option Nat} {i b:Nat} (hE:E i=some b) (hinj:∀i j b,E i=some b→E j=some b→i=j):
  zCE F E=(fun k=>zCE F (fun j=>if j=i then none else E j) k∨k=b)∧(¬F b→¬zCE F (fun j=>if j=i then none else E j) b):=by
 refine ⟨?_,?_⟩
 ·funext k
  apply propext
  constructor
  ·rintro (h|⟨j,h⟩)
   ·exact .inl (.inl h)
   ·by_cases e:j=i
    ·subst e;rw [hE] at h;cases h;exact .inr rfl
    ·exact .inl (.inr ⟨j,by dsimp only;rw [if_neg e];exact h⟩)
  ·rintro ((h|⟨j,h⟩)|rfl)
   ·exact .inl h
   ·dsimp only at h
    split at h
    ·cases h
    ·exact .inr ⟨j,h⟩
   ·exact .inr ⟨i,hE⟩
 ·rintro hF (h|⟨j,h⟩)
  ·exact hF h
  ·dsimp only at h
   split at h
   ·cases h
   ·rename_i hne
    exact hne (hinj j i b h hE)
theorem Pend.early (hp:Pend P ops F N0 w0 listed0 R E st a w) {j:Nat} (hi:ops[j]?=some o) (hal:zm o=true) (hk:Fits P h self ops o ko) (hR:R.getD j true=false) (hall:∀e∈o.after,Region.binds .any e=true→R.getD e.on false=true)
  (hdist:∀(i k:Nat) o' o'' d,ops[i]?=some o'→ops[k]?=some o''→o'.dst=some d→o''.dst=some d→i=k) (hT:∀d,o.dst=some d→d<T)
  (hw0:w0.heap.size≤w.heap.size) (hr:Rel (zCE F E) N0 T pl st a w) {K:Act→World→Prop}
  (hK:∀u w',Grow w w'→Step zAq w w'→Pend P ops F N0 w0 listed0 (R.setIfInBounds j true) (fun i=>if i=j then some w.heap.size else E i) st (a.put o.dst u) w'→
   Rel (zCE F (fun i=>if i=j then some w.heap.size else E i)) N0 T pl st (a.put o.dst u) w'→K (a.put o.dst u) w'):stepF P ops j K a w:=by
 ·have hgd:o.guard=none:=(zDa hal hk.op).2
  obtain ⟨cells,ty,val,hrn,had⟩:=zHa w hal hk.op
  have hjl:j<R.size:=zAR hR
  have hj0:listed0.getD j true=false:=by
   have hjl0:j<listed0.size:=by rw [hp.sz0,←hp.szR];exact hjl
   cases hq:listed0.getD j true with
   |false=>rfl
   |true=>
    rw [zk hjl0 true false] at hq
    have:=hp.sub j hq
    rw [zk hjl false true,hR] at this
    cases this
  have hE:E j=none:=by
   cases hq:E j with
   |none=>rfl
   |some b=>
    have:=(hp.mem j b hq).2.1
    rw [zk hjl false true,hR] at this
    cases this
  unfold stepF
  simp only [hi]
  rw [if_pos (by simp [Region.wanted,hgd])]
  have hrun:=hrn a w
  unfold Oper.wp
  rw [hrun]
  simp only [Oper.upon]
  let w':World:={w with heap:=w.heap.push (.cells cells ty)}
  have hst:Step zAq w w':=⟨rfl,rfl,rfl,by simp [w'],fun k hk _=>by simp [w',Array.getElem?_push,Nat.ne_of_lt hk]⟩
  have hFb:¬zCE F E w.heap.size:=fun h=>by have:=hr.mem.fsz _ h;omega
  have hrel:=zGm hr hst (b:=w.heap.size) (Nat.le_refl _) (by simp [w'])
  rw [zIP hE] at hrel
  refine hK _ w' (zAv _ _) hst ⟨hp.sz0,by simp [hp.szR],fun i h=>getD_set_true (hp.sub i h),fun i h=>?_,fun i b hb=>?_,fun i k b h1 h2=>?_,fun i oi hoi h e' he' hb'=>?_,hp.und⟩ ⟨hrel.mem,fun n v hv=>?_,?_,?_,hrel.low⟩
  ·rcases zAx h with rfl|h
   ·exact .inr ⟨w.heap.size,by simp⟩
   ·rcases hp.ext i h with h|⟨b,hEi⟩
    ·exact .inl h
    ·have hij:i≠j:=fun e=>by rw [e,hE] at hEi;cases hEi
     exact .inr ⟨b,by rw [if_neg hij];exact hEi⟩
  ·split at hb
   ·rename_i hij
    subst hij
    cases hb
    refine ⟨hj0,zBG hjl _,hr.low,hw0,fun h=>hFb (.inl h),o,cells,ty,val,hi,hal,had,by simp [w'],fun d hd=>?_⟩
    simp [hd,Act.put,hr.size,hT d hd]
   ·rename_i hij
    obtain ⟨h1,h2,h3,h4,h5,o',cs',ty',val',g1,g2,g3,g6,g7⟩:=hp.mem i b hb
    refine ⟨h1,getD_set_true h2,h3,h4,h5,o',cs',ty',val',g1,g2,g3,?_,fun d hd=>?_⟩
    ·rw [←g6]
     exact hst.block b (Array.getElem?_eq_some_iff.1 g6).1 fun _ _ _ h=>by cases h
    ·rw [←g7 d hd]
     cases hod:o.dst with
     |none=>rfl
     |some d'=>
      have:d'≠d:=fun e=>hij (hdist i j o' o d g1 hi hd (by rw [hod,e]))
      simp [Act.put,Array.getElem?_setIfInBounds,this]
  ·split at h1<;>split at h2
   ·exact ‹i=j›.trans ‹k=j›.symm
   ·cases h1
    exact absurd (.inr ⟨k,h2⟩) hFb
   ·cases h2
    exact absurd (.inr ⟨i,h1⟩) hFb
   ·exact hp.inj i k b h1 h2
  ·rcases zAx h with rfl|h
   ·rw [hi] at hoi
    cases hoi
    exact getD_set_true (hall e' he' hb')
   ·exact getD_set_true (hp.closed i oi hoi h e' he' hb')
  ·by_cases hn:o.dst=some n
   ·have hu:=hp.und j o n hi hal hj0 hn
    rw [hu] at hv
    cases hv
    trivial
   ·have:(a.put o.dst (val w.heap.size)).tmps.getD n undef=a.tmps.getD n undef:=by
     cases hod:o.dst with
     |none=>rfl
     |some d=>
      have hne:d≠n:=fun h=>hn (by rw [hod,h])
      simp [Act.put,Array.getElem?_setIfInBounds,hne]
    rw [this]
    exact hrel.tmps n v hv
  ·cases o.dst<;>simp [Act.put,hr.size]
  ·cases o.dst<;>simp [Act.put,hr.defers]
theorem Pend.adopt (hp:Pend P ops F N0 w0 listed0 R E st a w) {i b:Nat} (hi:ops[i]?=some o) (hf:Fits P h self ops o ko) (hE:E i=some b) (hT:∀d,o.dst=some d→d<T)
  (hdist:∀(j:Nat) o' d,ops[j]?=some o'→o.dst=some d→o'.dst=some d→j=i)
  (hr:Rel (zCE F E) N0 T pl st a w) (hk:KeepU up0 st.up pl0 pl w0 w) (he:zZ run st ko=some st1):
  ∃pl1,Pend P ops F N0 w0 (listed0.setIfInBounds i true) R (fun j=>if j=i then none else E j) st1 a w∧Rel (zCE F (fun j=>if j=i then none else E j)) N0 T pl1 st1 a w∧KeepU up0 st1.up pl0 pl1 w0 w:=by
 obtain ⟨h1,h2,h3,h4,h5,o',cells,ty,val,g1,g2,g3,g6,g7⟩:=hp.mem i b hE
 rw [hi] at g1
 cases g1
 have hg:ko.guard=none:=by
  rcases hf.gd with h|⟨j,want,t,h,_⟩
  ·exact h.2
  ·rw [(zDa g2 hf.op).2] at h;cases h
 simp only [zZ,hg,Option.map_eq_some_iff] at he
 obtain ⟨⟨v,st2⟩,hev,rfl⟩:=he
 obtain ⟨s1,s2⟩:=zHb (F:=F) hE hp.inj
 rw [s1] at hr
 obtain ⟨pl1,q1,q2,qu,qt,q3,q4⟩:=g3 h self ko.op hf.op hr (s2 h5) h3 g6 hev
 refine ⟨pl1,⟨by simp [hp.sz0],hp.szR,fun j hj=>?_,fun j hj=>?_,fun j b' hb'=>?_,fun j k b' hj hk=>?_,hp.closed,fun j oj d hoj hal hj hd=>?_⟩,⟨q1.mem,fun n v hv=>?_,q1.size,q1.defers,q1.low⟩,(show st2.up=st.up from qu)▸⟨hk.step,hk.later.len,fun d n B hB=>?_,fun d n k s hh=>?_⟩⟩
 ·rcases zAx hj with rfl|hj
  ·exact h2
  ·exact hp.sub j hj
 ·by_cases hji:j=i
  ·subst hji
   exact .inl (zBG (zAR h1) _)
  ·rcases hp.ext j hj with h|⟨b',h⟩
   ·exact .inl (getD_set_true h)
   ·exact .inr ⟨b',by rw [if_neg hji];exact h⟩
 ·split at hb'
  ·cases hb'
  ·rename_i hji
   obtain ⟨u1,u2⟩:=hp.mem j b' hb'
   exact ⟨by rw [getD_set_ne true (Ne.symm hji)];exact u1,u2⟩
 ·split at hj
  ·cases hj
  ·split at hk
   ·cases hk
   ·exact hp.inj j k b' hj hk
 ·obtain ⟨hji,hj⟩:=zEL hj
  show zG d (zA8 st2.t ko.dst v)=_
  rw [zAL,if_neg (fun e=>hji (hdist j oj d hoj (hf.dst▸e) hd)),qt]
  exact hp.und j oj d hoj hal hj hd
 ·simp only [zAL] at hv
  split at hv
  ·rename_i hd
   cases hv
   rw [g7 n (hf.dst▸hd)]
   exact q2
  ·exact q1.tmps n v hv
 ·obtain ⟨B',u1,u3⟩:=hk.later.blk d n B hB
  refine ⟨B',u1,fun e=>⟨(u3 e).1,?_,(u3 e).2.2⟩⟩
  rw [q3 d n (zH u1)]
  exact (u3 e).2.1
 ·rcases q4 d n k s hh with rfl|⟨d0,n0,u⟩
  ·exact .inr h4
  ·exact hk.later.new d0 n0 k s u
theorem zB1 {R:Array Bool} {i:Nat} (hcl:∀j o,ops[j]?=some o→R.getD j false=true→∀e∈o.after,Region.binds .any e=true→R.getD e.on false=true) (hi:R.getD i false=false):
  ∀n j,(zCI ops i n).getD j false=true→R.getD j false=false
 |0,j,h=>by
  simp only [zCI,List.getD_eq_getElem?_getD] at h
  rw [List.getElem?_replicate] at h
  split at h<;>simp at h
 |n+1,j,h=>by
  have hj:j<ops.size:=by
   rcases Nat.lt_or_ge j ops.size with h'|h'
   ·exact h'
   ·simp [zCI,List.getD_eq_getElem?_getD,h'] at h
  have h1:zBW ops i (zCI ops i n) j=true:=by
   simpa [zCI,List.getD_eq_getElem?_getD,hj] using h
  unfold zBW at h1
  split at h1
  ·rename_i o ho
   obtain ⟨e,he,hb⟩:=Array.any_eq_true'.1 h1
   simp only [Bool.and_eq_true,Bool.or_eq_true,beq_iff_eq] at hb
   cases hq:R.getD j false with
   |false=>rfl
   |true=>
    have h2:=hcl j o ho hq e he hb.1
    rcases hb.2 with h3|h3
    ·rw [h3,hi] at h2;cases h2
    ·rw [zB1 hcl hi n e.on h3] at h2;cases h2
  ·cases h1
theorem zEs {listed0:Array Bool} {but:Option Nat} {j:Nat} (hj:j<ops.size) (d:Bool):(zAC ops listed0 but).getD j d=(listed0.getD j true||(some j !=but&&((ops[j]?).map zm).getD false)):=by
 simp [zAC,hj]
theorem zIQ {listed0:Array Bool} {but:Option Nat} {j:Nat} {d:Bool} (hs:listed0.size=ops.size) (h:listed0.getD j d=true) (hd:d=false):(zAC ops listed0 but).getD j d=true:=by
 have hj:j<ops.size:=by subst hd;exact hs▸zAR h
 rw [zEs hj,zk (hs▸hj) true d,h]
 rfl
theorem zDy (h:zBB ops=true) (i k:Nat) (o o':Oper) (d:Nat) (hi:ops[i]?=some o) (hk:ops[k]?=some o') (h1:o.dst=some d) (h2:o'.dst=some d):i=k:=by
 have h3:=List.all_eq_true.1 (List.all_eq_true.1 h i (List.mem_range.2 (Array.getElem?_eq_some_iff.1 hi).1)) k (List.mem_range.2 (Array.getElem?_eq_some_iff.1 hk).1)
 simp only [hi,hk,Option.bind_some,h1,h2,Bool.or_eq_true,beq_iff_eq,bne_self_eq_false,Bool.false_eq_true,or_false] at h3
 exact h3
theorem zCf {l:Array Bool} {i:Nat} (h:l.getD i true=false) (h0:l.toList.count false≤0):False:=by
 have:=zBr h
 omega
theorem zJB {l:Array Bool} {i:Nat} (hi:i<l.size) (h:¬l.getD i false=true):l.getD i true=false:=by
 rw [zk hi true false]
 simpa using h
def zIw (st:St) (same:Bool) (x y:KX):Prop:=∃p q,st.blk (st.eval x)=some p∧st.blk (st.eval y)=some (some q)∧(p==some q)=same
theorem zEt:∀{l r:List KOper} {st:St},(∀o∈l,∃b x y,o=⟨none,.rel b x y,none⟩)→zS run (l++r) st=some st'→
  zS run r st=some st'∧∀b x y,(⟨none,.rel b x y,none⟩:KOper)∈l→zIw st b x y
 | [],r,st,_,h=>⟨h,fun _ _ _ h=>by cases h⟩
 |o::l,r,st,hl,h=>by
  obtain ⟨b,x,y,rfl⟩:=hl _ (List.mem_cons_self ..)
  simp only [List.cons_append,zS,zZ,zA,Option.bind_eq_some_iff,Option.map_eq_some_iff,Prod.exists] at h
  obtain ⟨s,⟨u,s',h1,rfl⟩,h2⟩:=h
  split at h1
  ·rename_i p q hp hq
   split at h1
   ·rename_i hpq
    cases h1
    obtain ⟨h3,h4⟩:=zEt (fun o ho=>hl o (List.mem_cons_of_mem _ ho)) h2
    refine ⟨h3,fun b' x' y' hm=>?_⟩
    rcases List.mem_cons.1 hm with e|hm
    ·cases e;exact ⟨p,q,hp,hq,hpq⟩
    ·exact h4 _ _ _ hm
   ·cases h1
  ·cases h1
theorem zCS {v:AV} {d n:Nat} {u:Value} (hr:Rel F N0 T pl st a w) (h:st.blk v=some (some (d,n))) (hu:zR F (st.fr::st.up) pl w u v):∃ad:Addr,u= .pointer (some ad)∧∃s,pl d n=some (ad.block,s):=by
 unfold St.blk at h
 split at h
 ·rename_i d' n' g j o
  split at h
  ·rename_i hg
   cases h
   obtain ⟨_,B,hB,_,hv⟩:=hu
   obtain ⟨B',h1,h2⟩:=Option.map_eq_some_iff.1 hg
   have h1':zB d n (st.fr::st.up)=some B':=h1
   rw [hB] at h1'
   cases h1'
   obtain ⟨b,s,hp,rfl⟩:=hv h2.symm
   exact ⟨_,rfl,s,hp⟩
  ·cases h
 ·cases h
 ·cases h
theorem zHc {v:AV} {u:Value} (h:st.blk v=some none) (hu:zR F (st.fr::st.up) pl w u v):∃ad:Addr,u= .pointer (some ad)∧¬Own F pl ad.block:=by
 unfold St.blk at h
 split at h
 ·split at h<;>cases h
 ·obtain ⟨ad,rfl,h1,_⟩:=hu
  exact ⟨_,rfl,by rw [zCc];exact (h1 (by simp)).1⟩
 ·cases h
theorem zIR (hr:Rel F N0 T pl st a w) {x y:Nat} (h:zIw st true (.t x) (.t y)):∃ad ad':Addr,a.tmps.getD x undef= .pointer (some ad)∧a.tmps.getD y undef= .pointer (some ad')∧ad.block=ad'.block:=by
 obtain ⟨p,⟨d,n⟩,h1,h2,h3⟩:=h
 have h3:p=some (d,n):=by simpa using h3
 subst h3
 obtain ⟨ad,e1,s1,p1⟩:=zCS hr h1 (zD (x:= .tmp x) hr rfl)
 obtain ⟨ad',e2,s2,p2⟩:=zCS hr h2 (zD (x:= .tmp y) hr rfl)
 rw [p1] at p2
 exact ⟨ad,ad',e1,e2,(Prod.mk.inj (Option.some.inj p2)).1⟩
theorem zGp (hr:Rel F N0 T pl st a w) {x y:Nat} (h:zIw st false (.t x) (.t y)):∃ad ad':Addr,a.tmps.getD x undef= .pointer (some ad)∧a.tmps.getD y undef= .pointer (some ad')∧ad.block≠ad'.block:=by
 obtain ⟨p,⟨d,n⟩,h1,h2,h3⟩:=h
 obtain ⟨ad',e2,s2,p2⟩:=zCS hr h2 (zD (x:= .tmp y) hr rfl)
 cases p with
 |none=>
  obtain ⟨ad,e1,hn⟩:=zHc h1 (zD (x:= .tmp x) hr rfl)
  exact ⟨ad,ad',e1,e2,fun e=>hn (.inr ⟨d,n,s2,by rw [p2,e]⟩)⟩
 |some q=>
  obtain ⟨d',n'⟩:=q
  obtain ⟨ad,e1,s1,p1⟩:=zCS hr h1 (zD (x:= .tmp x) hr rfl)
  refine ⟨ad,ad',e1,e2,fun e=>?_⟩
  rw [e] at p1
  obtain ⟨rfl,rfl⟩:=hr.mem.inj _ _ _ _ _ _ _ p1 p2
  simp at h3
theorem zCg {ks:List KOper}:∀{m t s:Nat},zDD ks m t=some s→∀k∈ks,k.dst≠some s
 |0,t,s,h=>by cases h
 |m+1,t,s,h=>by
  unfold zDD at h
  split at h
  ·rename_i hf
   cases h
   intro k hk e
   have:=List.find?_eq_none.1 hf k hk
   simp [e] at this
  ·split at h
   ·exact zCg h
   ·exact zCg h
   ·cases h
def Unch (ks:List KOper) (a0 a:Act):Prop:=∀s,(∀k∈ks,k.dst≠some s)→a.tmps.getD s undef=a0.tmps.getD s undef
theorem Unch.put {ks:List KOper} {a0:Act} (h:Unch ks a0 a) (hk:ko∈ks) (hd:ko.dst=o.dst) {u:Value}:Unch ks a0 (a.put o.dst u):=fun s hs=>by
 rw [←h s hs]
 have:=hs ko hk
 rw [hd] at this
 cases e:o.dst with
 |none=>rfl
 |some d=>
  rw [e] at this
  have hne:d≠s:=fun h=>this (by rw [h])
  simp [Act.put,Array.getElem?_setIfInBounds,hne]
def zGq (ex:Bool) (ks:List KOper) (a0:Act) (j b:Nat):Prop:=zAb (kAt ks j)=true∨(ex=true∧∃s ad,zCb ks j=some s∧a0.tmps.getD s undef= .pointer (some ad)∧b≠ad.block)
theorem zEN {ks:List KOper} {j s:Nat} (h:zCb ks j=some s):(∀k∈ks,k.dst≠some s)∧∃m,zB8 (kAt ks j)=some m:=by
 unfold zCb at h
 split at h
 ·cases h
 ·obtain ⟨n,h1,h2⟩:=Option.bind_eq_some_iff.1 h
  exact ⟨zCg h2,n,h1⟩
def zHd (P:Program) (F:Nat→Prop) {G:Nat→Option Obj} (N0:Base G) (T:Nat) (up0:List Frame) (pl0:Pl) (w0:World) (ops:Array Oper) (ks:List KOper) (ex:Bool) (a0:Act) (run:zj) (st':St) (fuel n:Nat):Prop:=
 ∀(listed0 R:Array Bool) (E:Nat→Option Nat) (l:List KOper) (pl:Pl) (st:St) (a:Act) (w:World),zCJ ops ks ex n listed0=some l→zS run l st=some st'→Unch ks a0 a→
  Pend P ops F N0 w0 listed0 R E st a w→Rel (zCE F E) N0 T pl st a w→KeepU up0 st.up pl0 pl w0 w→R.toList.count false≤fuel→(∀ko∈l,∀d,ko.dst=some d→d<T)→
  zFr P .any ops (zGq ex ks a0) (fun a' w'=>∃pl',Inv F N0 T up0 pl0 w0 pl' st' a' w') fuel R a w
theorem zHe (ops:Array Oper) (ks:List KOper) (ex:Bool) (listed:Array Bool) (i:Nat):∀o∈zID ops ks ex listed i,∃b x y,o=⟨none,.rel b x y,none⟩:=by
 intro o ho
 unfold zID at ho
 split at ho
 ·cases ho
 ·split at ho
  ·cases ho
  ·obtain ⟨j,_,h⟩:=List.mem_filterMap.1 ho
   obtain ⟨s,_,rfl⟩:=Option.map_eq_some_iff.1 h
   exact ⟨_,_,_,rfl⟩
theorem zHf (ks:List KOper) (ex:Bool) (i:Nat):∀o∈zIE ks ex i,∃b x y,o=⟨none,.rel b x y,none⟩:=by
 intro o ho
 unfold zIE at ho
 split at ho
 ·cases ho
 ·split at ho
  ·rw [List.mem_singleton] at ho
   exact ⟨_,_,_,ho⟩
  ·cases ho
theorem zFt {k:KOp} {q b:Nat} (h:zGB k=some q) (hS:zEJ a k b):∃ad:Addr,a.tmps.getD q undef= .pointer (some ad)∧ad.block=b:=by
 unfold zGB at h
 split at h
 ·cases h
  exact hS
 ·cases h
theorem zFO {ks l:List KOper} (h:zEd ops ks=some l):∃ex,zCJ ops ks ex ops.size (Array.replicate ops.size false)=some l:=by
 unfold zEd at h
 split at h
 ·cases h;exact ⟨_, ‹_›⟩
 ·exact ⟨_,h⟩
theorem zDb (hS:zAz G P run) {ks:List KOper} {ex:Bool} {a0:Act} (hks:zAB P h self ops=some ks) (hns:Region.noSelect ops=true) (hdd:zBB ops=true) (hal:∀(j:Nat) o d,ops[j]?=some o→zm o=true→o.dst=some d→d<T)
  (fuel:Nat) (ihf:∀f,fuel=f+1→∀n,zHd P F N0 T up0 pl0 w0 ops ks ex a0 run st' f n):∀n,zHd P F N0 T up0 pl0 w0 ops ks ex a0 run st' fuel n:=by
 obtain ⟨hlen,hfit⟩:=zGP hks
 have hdist:=zDy hdd
 have getk:∀{i:Nat} {o:Oper},ops[i]?=some o→∃ko,ks[i]?=some ko∧Fits P h self ops o ko∧kAt ks i=ko.op:=fun {i o} hi=>by
  have hl:i<ks.length:=by rw [hlen];exact (Array.getElem?_eq_some_iff.1 hi).1
  exact ⟨ks[i],by simp [hl],hfit i o _ hi (by simp [hl]),by simp [kAt,hl]⟩
 intro n
 induction n with
 |zero=>
  intro listed0 R E l pl st a w hs he hU hp hr hk hc hb
  simp only [zCJ] at hs
  split at hs
  ·rename_i hall
   cases hs
   simp only [zS,Option.some.injEq] at he
   subst he
   have h0:∀j,listed0.getD j true=true:=fun j=>by
    cases hq:listed0.getD j true with
    |true=>rfl
    |false=>
     have hj:j<listed0.size:=zAR hq
     have:=Array.all_eq_true_iff_forall_mem.1 hall listed0[j] (Array.getElem_mem hj)
     rw [Array.getD_eq_getD_getElem?,Array.getElem?_eq_getElem hj] at hq
     simp only [Option.getD_some] at hq
     rw [hq] at this
     cases this
   have hE:zCE F E=F:=by
    funext k
    apply propext
    constructor
    ·rintro (h|⟨j,h⟩)
     ·exact h
     ·have:=(hp.mem j k h).1
      rw [h0 j] at this
      cases this
    ·exact .inl
   rw [hE] at hr
   have hrd:Region.ready .any ops R= []:=by
    apply List.eq_nil_iff_forall_not_mem.2
    intro j hj
    obtain ⟨h1,o,h2,h3⟩:=mem_ready.1 hj
    have hjl:j<R.size:=zAR h1
    have h4:=h0 j
    rw [zk (by rw [hp.sz0,←hp.szR];exact hjl) true false] at h4
    have:=hp.sub j h4
    rw [zk hjl false true,h1] at this
    cases this
   cases fuel with
   |zero=>exact ⟨hrd,pl,⟨hr,hk⟩⟩
   |succ f=>exact ⟨fun _=>⟨pl,⟨hr,hk⟩⟩,fun j hj=>by rw [hrd] at hj;cases hj⟩
  ·cases hs
 |succ n ihn=>
  intro listed0 R E l pl st a w hs he hU hp hr hk hc hb
  have early:∀{f:Nat},fuel=f+1→∀{j:Nat} {o:Oper},ops[j]?=some o→zm o=true→R.getD j true=false→(∀e∈o.after,Region.binds .any e=true→R.getD e.on false=true)→
    stepF P ops j (fun a' w'=>KeepB (zGq ex ks a0 j) w w'∧zFr P .any ops (zGq ex ks a0) (fun a' w'=>∃pl',Inv F N0 T up0 pl0 w0 pl' st' a' w') f (R.setIfInBounds j true) a' w') a w:=by
   intro f hf j o ho hao hR hall
   obtain ⟨ko,hko,hfo,_⟩:=getk ho
   refine hp.early ho hao hfo hR hall (fun i k o' o'' d=>hdist i k o' o'' d) (fun d hd=>hal j o d ho hao hd) hk.step.size hr fun u w' hg hst hp' hr'=>⟨hg.keepB _,?_⟩
   refine ihf f hf (n+1) listed0 _ _ l pl st _ w' hs he (hU.put (List.mem_of_getElem? hko) hfo.dst) hp' hr' ?_ ?_ hb
   ·exact hk.trans ⟨⟨hst.os,hst.tape,hst.output,hst.size,fun k hk' _=>hst.block k hk' (fun _ _ _ h=>by cases h)⟩,rfl,fun d n b hb=>⟨b,hb,fun e=>⟨e,rfl,rfl⟩⟩,fun d n b s hh=> .inl ⟨d,n,s,hh⟩⟩
   ·have:=zBr hR
    omega
  have noE:∀{i:Nat} {o:Oper},ops[i]?=some o→zm o=false→E i=none:=fun {i o} ho hno=>by
   cases hq:E i with
   |none=>rfl
   |some b=>
    obtain ⟨_,_,_,_,_,o',_,_,_,g1,g2,_⟩:=hp.mem i b hq
    rw [ho] at g1
    cases g1
    rw [g2] at hno
    cases hno
  have unR:∀{i:Nat} {o:Oper},ops[i]?=some o→listed0.getD i true=false→E i=none→R.getD i true=false:=fun {i o} ho h0 hE=>by
   have hil:i<ops.size:=(Array.getElem?_eq_some_iff.1 ho).1
   refine zJB (by rw [hp.szR];exact hil) fun hR=>?_
   rcases hp.ext i hR with h1|⟨b,h1⟩
   ·rw [zk (by rw [hp.sz0];exact hil) false true,h0] at h1;cases h1
   ·rw [hE] at h1;cases h1
  have un0:∀{j:Nat},R.getD j true=false→listed0.getD j true=false:=fun {j} hj=>by
   have hjl:j<R.size:=zAR hj
   cases hq:listed0.getD j true with
   |false=>rfl
   |true=>
    rw [zk (by rw [hp.sz0,←hp.szR];exact hjl) true false] at hq
    have:=hp.sub j hq
    rw [zk hjl false true,hj] at this
    cases this
  have others:∀{but:Option Nat} {j:Nat} {o:Oper},ops[j]?=some o→zm o=false→R.getD j true=false→(∀e∈o.after,Region.binds .any e=true→R.getD e.on false=true)→(∀i,but=some i→E i=none)→
    j∈Region.ready .any ops (zAC ops listed0 but):=by
   intro but j o ho hno hR hall hbut
   have hjl:j<ops.size:=(Array.getElem?_eq_some_iff.1 ho).1
   refine mem_ready.2 ⟨?_,o,ho,fun e he' hbd=>?_⟩
   ·rw [zEs hjl,un0 hR,ho]
    simp [hno]
   ·rcases hp.ext _ (hall e he' hbd) with h1|⟨b,h1⟩
    ·exact zIQ hp.sz0 h1 rfl
    ·obtain ⟨q0,_,_,_,_,o',_,_,_,g1,g2,_⟩:=hp.mem _ b h1
     rw [zEs (Array.getElem?_eq_some_iff.1 g1).1,g1]
     have hne:some e.on≠but:=fun h=>by rw [hbut e.on h.symm] at h1;cases h1
     simp [g2,hne]
  simp only [zCJ] at hs
  split at hs
  ·--a calm one
   rename_i i hfi
   obtain ⟨l',hs',rfl⟩:=Option.map_eq_some_iff.1 hs
   have hcb:=List.find?_some hfi
   have hir:=List.mem_of_find?_eq_some hfi
   obtain ⟨hi0,o,ho,hall0⟩:=mem_ready.1 hir
   obtain ⟨ko,hko,hfo,hkat⟩:=getk ho
   simp only [zIg,Bool.and_eq_true,Bool.or_eq_true,Bool.not_eq_true',List.all_eq_true,List.mem_range,beq_iff_eq,hkat] at hcb
   obtain ⟨he,hask⟩:=zEt (zHe ops ks ex listed0 i) he
   obtain ⟨⟨⟨hcalm,hfree⟩,hlt⟩,hrd⟩:=hcb
   have hno:zm o=false:=by
    cases hq:zm o with
    |false=>rfl
    |true=>
     rw [(zDa hq hfo.op).1] at hcalm
     cases hcalm
   have hR:=unR ho hi0 (noE ho hno)
   have hRf:R.getD i false=false:=by rw [zk (zAR hR) false true];exact hR
   have hall:∀e∈o.after,Region.binds .any e=true→R.getD e.on false=true:=fun e he' hbd=>hp.sub _ (hall0 e he' hbd)
   cases fuel with
   |zero=>exact (zCf hR hc).elim
   |succ f=>
    have hev:=he
    simp only [kq,hko,List.cons_append,List.nil_append,zS,Option.bind_eq_some_iff] at hev
    obtain ⟨st1,he1,he2⟩:=hev
    obtain ⟨u,hy,⟨pl1,hr1,hk1⟩,hlk⟩:=zEK hfo hcalm hr (hb ko (by simp [kq,hko])) he1
    refine zDY (late:=fun j=>(zCI ops i ops.size).getD j false) ho (fun j o' cs b=>Region.noSelect_spec hns j o' cs b) (fun j oj hoj hj=>?_) f R a w (fun j oj hoj hne hun hnot=>Region.free_spec ho hfree j oj hoj hne (un0 hun) hnot)
     (fun j hj=>zB1 hp.closed hRf ops.size j hj) (fun j hne hun hj b hS=>?_) (mem_ready.2 ⟨hR,o,ho,hall⟩) hy ?_
    ·rcases hlt j (Array.getElem?_eq_some_iff.1 hoj).1 with h1|h1
     ·rw [h1] at hj;cases hj
     ·have h2:=h1.1
      unfold zBW at h2
      rw [hoj] at h2
      obtain ⟨e,he',hbd⟩:=Array.any_eq_true'.1 h2
      simp only [Bool.and_eq_true,Bool.or_eq_true,beq_iff_eq] at hbd
      exact ⟨e,he',hbd.1,hbd.2⟩
    ·rcases hrd with h1|h1
     ·have hn:zEJ a ko.op=noB:=by
       cases hk0:ko.op<;>rw [hk0] at h1<;>first|rfl|cases h1
      rw [hn] at hS
      exact hS.elim
     ·have hjl:j<ops.size:=by rw [←hp.szR];exact zAR hun
      rcases h1 j hjl with (((h2|h2)|h2)|h2)|h2
      ·exact absurd h2 hne
      ·rw [un0 hun] at h2;cases h2
      ·rw [hj] at h2;cases h2
      ·exact .inl h2
      ·by_cases hgk:zAb (kAt ks j)=true
       ·exact .inl hgk
       ·obtain ⟨⟨hex,hld⟩,hbs⟩:=h2
        obtain ⟨s,hbs⟩:=Option.isSome_iff_exists.1 hbs
        obtain ⟨q,hld⟩:=Option.isSome_iff_exists.1 hld
        obtain ⟨hfs,_⟩:=zEN hbs
        have hrel:=hask false (.t q) (.t s) (by
         subst hex
         simp only [zID,hkat,hld,Bool.true_eq_false,if_false]
         refine List.mem_filterMap.2 ⟨j,List.mem_filter.2 ⟨List.mem_range.2 hjl,?_⟩,by rw [hbs];rfl⟩
         simp [hne,un0 hun,hgk]
         simpa using hj)
        obtain ⟨ad,ad',e1,e2,hdiff⟩:=zGp hr hrel
        rw [hU s hfs] at e2
        refine .inr ⟨hex,s,ad',hbs,e2,?_⟩
        have hS':=zFt hld hS
        obtain ⟨ad2,e3,e4⟩:=hS'
        rw [e1] at e3
        cases e3
        rw [←e4]
        exact hdiff
    ·refine ihf f rfl n _ _ E l' pl1 st1 _ w hs' he2 (hU.put (List.mem_of_getElem? hko) hfo.dst) (hp.step ho hR hall (fun j o' d hoj h1 h2=>hdist j i o' o d hoj ho h2 h1) hr hk1 hlk) hr1 ?_ ?_ (fun i' hi'=>hb i' (by simp [hi']))
     ·have:=zAK hk1
      exact hk.trans this.u
     ·have:=zBr hR
      omega
  ·split at hs
   ·--the one that may come
    rename_i i hfi
    split at hs
    ·rename_i hone
     obtain ⟨l',hs',rfl⟩:=Option.map_eq_some_iff.1 hs
     have him:i∈(Region.ready .any ops (zAC ops listed0 none)).filter (Region.ready .any ops listed0).contains:=by rw [hfi];simp
     obtain ⟨hw1,hir⟩:=List.mem_filter.1 him
     have hir:i∈Region.ready .any ops listed0:=by simpa using hir
     obtain ⟨hi0,o,ho,hall0⟩:=mem_ready.1 hir
     obtain ⟨ko,hko,hfo,hkat⟩:=getk ho
     have hno:zm o=false:=by
      have h1:=(mem_ready.1 hw1).1
      rw [zEs (Array.getElem?_eq_some_iff.1 ho).1,ho] at h1
      simpa using (Bool.or_eq_false_iff.1 h1).2
     have hR:=unR ho hi0 (noE ho hno)
     have hall:∀e∈o.after,Region.binds .any e=true→R.getD e.on false=true:=fun e he' hbd=>hp.sub _ (hall0 e he' hbd)
     cases fuel with
     |zero=>exact (zCf hR hc).elim
     |succ f=>
      refine ⟨fun h0=>?_,fun j hj=>?_⟩
      ·have h1:i∈Region.ready .any ops R:=mem_ready.2 ⟨hR,o,ho,hall⟩
       rw [h0] at h1
       cases h1
      ·obtain ⟨hRj,oj,hoj,hallj⟩:=mem_ready.1 hj
       cases haj:zm oj with
       |true=>exact early rfl hoj haj hRj hallj
       |false=>
        have h1:=others (but:=none) hoj haj hRj hallj (fun _ h=>by cases h)
        have h2:=List.all_eq_true.1 hone j h1
        have h2:j=i:=by simpa using h2
        subst h2
        rw [ho] at hoj
        cases hoj
        obtain ⟨hev,hask⟩:=zEt (zHf ks ex j) he
        simp only [kq,hko,List.cons_append,List.nil_append,zS,Option.bind_eq_some_iff] at hev
        obtain ⟨st1,he1,he2⟩:=hev
        refine zHY hS ho hfo hr (hb ko (by simp [kq,hko])) he1 fun u w' pl1 hg hr1 hk1 hlk=>⟨hg.sub fun k hkp=>?_,?_⟩
        ·rcases hkp with hkp|⟨hex,s,ad,hbs,e2,hne⟩
         ·exact .inl (by rw [←hkat];exact hkp)
         ·obtain ⟨hfs,m1,hst⟩:=zEN hbs
          subst hex
          have hrel:=hask true (.t m1) (.t s) (by simp [zIE,hst,hbs])
          obtain ⟨ad1,ad2,e3,e4,e5⟩:=zIR hr hrel
          rw [hU s hfs,e2] at e4
          cases e4
          rw [hkat] at hst
          exact .inr ⟨m1,ad1,hst,e3,by rw [e5];exact hne⟩
        refine ihf f rfl n _ _ E l' pl1 st1 _ w' hs' he2 (hU.put (List.mem_of_getElem? hko) hfo.dst) (hp.step ho hR hall (fun j' o' d hoj h1 h2=>hdist j' j o' o d hoj ho h2 h1) hr hk1 hlk) hr1 ?_ ?_ (fun i' hi'=>hb i' (by simp [hi']))
        ·have:=zAK hk1
         exact hk.trans this.u
        ·have:=zBr hR
         omega
    ·cases hs
   ·--a block
    split at hs
    ·rename_i i hfi
     split at hs
     ·rename_i hone
      obtain ⟨l',hs',rfl⟩:=Option.map_eq_some_iff.1 hs
      have hai:=List.find?_some hfi
      have hir:=List.mem_of_find?_eq_some hfi
      obtain ⟨hi0,o,ho,hall0⟩:=mem_ready.1 hir
      obtain ⟨ko,hko,hfo,hkat⟩:=getk ho
      have hai2:zm o=true:=by simpa [ho] using hai
      have hall:∀e∈o.after,Region.binds .any e=true→R.getD e.on false=true:=fun e he' hbd=>hp.sub _ (hall0 e he' hbd)
      cases hE:E i with
      |some b=>
       have hev:=he
       simp only [kq,hko,List.cons_append,List.nil_append,zS,Option.bind_eq_some_iff] at hev
       obtain ⟨st1,he1,he2⟩:=hev
       obtain ⟨pl1,hp1,hr1,hk1⟩:=hp.adopt ho hfo hE (fun d hd=>hal i o d ho hai2 hd) (fun j o' d hoj h1 h2=>hdist j i o' o d hoj ho h2 h1) hr hk he1
       exact ihn _ R _ l' pl1 st1 a w hs' he2 hU hp1 hr1 hk1 hc (fun i' hi'=>hb i' (by simp [hi']))
      |none=>
       have hR:=unR ho hi0 hE
       cases fuel with
       |zero=>exact (zCf hR hc).elim
       |succ f=>
        refine ⟨fun h0=>?_,fun j hj=>?_⟩
        ·have h1:i∈Region.ready .any ops R:=mem_ready.2 ⟨hR,o,ho,hall⟩
         rw [h0] at h1
         cases h1
        ·obtain ⟨hRj,oj,hoj,hallj⟩:=mem_ready.1 hj
         cases haj:zm oj with
         |true=>exact early rfl hoj haj hRj hallj
         |false=>
          have h1:=others (but:=some i) hoj haj hRj hallj (fun i' h=>by cases h;exact hE)
          have h2:=List.all_eq_true.1 hone j h1
          have h2:j=i:=by simpa using h2
          subst h2
          rw [ho] at hoj
          cases hoj
          rw [hai2] at haj
          cases haj
     ·cases hs
    ·cases hs
theorem zFP (hS:zAz G P run) {ks:List KOper} {ex:Bool} {a0:Act} (hks:zAB P h self ops=some ks) (hns:Region.noSelect ops=true) (hdd:zBB ops=true) (hal:∀(j:Nat) o d,ops[j]?=some o→zm o=true→o.dst=some d→d<T):
  ∀fuel n,zHd P F N0 T up0 pl0 w0 ops ks ex a0 run st' fuel n
 |0=>zDb hS hks hns hdd hal 0 (fun f h=>by cases h)
 |fuel+1=>zDb hS hks hns hdd hal (fuel+1) (fun f h=>by cases h;exact zFP hS hks hns hdd hal fuel)
theorem zHg {run:zj}:∀(l:List Oper) {st st1:St},zS run (l.map fun o=>(⟨o.dst,.mv (.k (.c .u)),none⟩:KOper)) st=some st1→
  st1.fr=st.fr∧st1.up=st.up∧(∀n,zG n st1.t=zG n st.t∨zG n st1.t=some (.c .u))∧(∀n,(zG n st.t=some (.c .u)∨∃o∈l,o.dst=some n)→zG n st1.t=some (.c .u))
 | [],st,st1,h=>by
  cases h
  exact ⟨rfl,rfl,fun _=> .inl rfl,fun n h=>h.elim id (fun ⟨_,h,_⟩=>by cases h)⟩
 |o::l,st,st1,h=>by
  simp only [List.map_cons,zS,zZ,zA,St.eval,Option.map_some,Option.bind_some] at h
  obtain ⟨h1,h2,h3,h4⟩:=zHg l h
  refine ⟨h1,h2,fun n=>?_,fun n hn=>h4 n ?_⟩
  ·rcases h3 n with h5|h5
   ·rw [h5]
    simp only [zAL]
    split
    ·exact .inr rfl
    ·exact .inl rfl
   ·exact .inr h5
  ·simp only [zAL]
   rcases hn with hn|⟨o',ho',hd⟩
   ·left;split
    ·rfl
    ·exact hn
   ·rcases List.mem_cons.1 ho' with rfl|ho'
    ·left;rw [if_pos hd]
    ·exact .inr ⟨o',ho',hd⟩
theorem zBg {run:zj}:∀(l r:List KOper) (st:St),zS run (l++r) st=(zS run l st).bind (zS run r)
 | [],r,st=>rfl
 |o::l,r,st=>by
  simp only [List.cons_append,zS]
  cases zZ run st o with
  |none=>rfl
  |some s=>exact zBg l r s
theorem zEO {pl:Pl} (hr:Rel F N0 T pl st a w) (n:Nat):Rel F N0 T pl st a {w with drawn:=n}∧Keep F (st.fr::st.up) (st.fr::st.up) pl pl w {w with drawn:=n}:=by
 have hK:Keep F (st.fr::st.up) (st.fr::st.up) pl pl w {w with drawn:=n}:=⟨⟨rfl,rfl,rfl,Nat.le_refl _,fun _ _ _=>rfl⟩,Later.refl _ _ _⟩
 exact ⟨⟨⟨hr.mem.live,hr.mem.inj,fun d m B hB=>zAc hK rfl (fun _ _ _=>rfl) (hr.mem.blk d m B hB),hr.mem.fsz,hr.mem.fix⟩,fun m v hv=>hK.repA (hr.tmps m v hv),hr.size,hr.defers,hr.low⟩,hK⟩
theorem zDc (hS:zAz G P run) {id:Nat} {ks l:List KOper} {Q:Exit→Act→World→Prop} (hm:P.follows .mixedOrders=true) (hks:zAB P h self ops=some ks) (hns:Region.noSelect ops=true) (hdd:zBB ops=true)
  (hl:zEd ops ks=some l) (hb:∀o∈zDE ops++l,∀d,o.dst=some d→d<T) (he:zS run (zDE ops++l) st=some st')
  (hi:Inv F N0 T up0 pl0 w0 pl st a w) (hQ:∀pl' a' w',Inv F N0 T up0 pl0 w0 pl' st' a' w'→Q .normal a' w'):(Code.region id ops true).wp P Q a w:=by
 rw [zBg] at he
 obtain ⟨st1,he1,he2⟩:=Option.bind_eq_some_iff.1 he
 obtain ⟨h1,h2,h3,h4⟩:=zHg _ he1
 obtain ⟨hr,hk⟩:=zEO hi.rel (w.drawn+1)
 have hr1:Rel F N0 T pl st1 a {w with drawn:=w.drawn+1}:=by
  refine ⟨by rw [h1,h2];exact hr.mem,fun n v hv=>?_,hr.size,hr.defers,hr.low⟩
  rcases h3 n with h5|h5
  ·rw [h1,h2]
   exact hr.tmps n v (h5▸hv)
  ·rw [h5] at hv
   cases hv
   trivial
 have hE:zCE F (fun _=>none)=F:=by
  funext k
  exact propext ⟨fun h=>h.elim (fun h=>h) (fun ⟨_,h⟩=>by cases h),.inl⟩
 have rep:∀j,(Array.replicate ops.size false).getD j false=false:=fun j=>by
  simp only [Array.getD_eq_getD_getElem?,Array.getElem?_replicate]
  split<;>rfl
 obtain ⟨ex,hl⟩:=zFO hl
 refine wp_region_any hm (zBf (kp:=zGq ex ks a) (Q:=fun a' w'=>∃pl',Inv F N0 T up0 pl0 w0 pl' st' a' w') (fun a' w' ⟨pl',h⟩=>hQ pl' a' w' h) _ _ _ _ ?_)
 have hal:∀(j:Nat) o d,ops[j]?=some o→zm o=true→o.dst=some d→d<T:=fun j o d ho hao hd=>
  hb ⟨o.dst,.mv (.k (.c .u)),none⟩ (List.mem_append_left _ (List.mem_map.2 ⟨o,List.mem_filter.2 ⟨Array.mem_toList_iff.2 (Array.mem_of_getElem? ho),hao⟩,rfl⟩)) d hd
 refine zFP hS hks hns hdd hal ops.size ops.size _ _ (fun _=>none) l pl st1 a _ hl he2 (fun _ _=>rfl) ⟨by simp,by simp,fun j hj=>?_,fun j hj=>?_,fun j b hb=>(by cases hb),fun i j b hb=>(by cases hb),fun j o ho hj=>?_,fun j o d ho hao _ hd=>?_⟩ (by rw [hE];exact hr1) ?_ (by simp) (fun ko hi' d hd=>?_)
 ·rw [rep] at hj;cases hj
 ·rw [rep] at hj;cases hj
 ·rw [rep] at hj;cases hj
 ·exact h4 d (.inr ⟨o,List.mem_filter.2 ⟨Array.mem_toList_iff.2 (Array.mem_of_getElem? ho),hao⟩,hd⟩)
 ·rw [h2]
  have:=zAK hk
  exact hi.keep.trans this.u
 ·exact hb ko (List.mem_append_right _ hi') d hd
theorem zIS {ks:List KOper} {ex:Bool} {a0:Act} (hks:zAB P h self ops=some ks) (hns:Region.noSelect ops=true) (hc:ks.all (fun k=>zg k.op)=true) (ht:zIh ops=true) (ha:zHB ops=true):
  ∀(m i:Nat) (listed:Array Bool) {pl:Pl} {st:St} {a:Act} {w:World},i+m=ops.size→listed.size=ops.size→(∀j,j<ops.size→listed.getD j true=decide (j<i))→zS run (ks.drop i) st=some st'→
   (∀ko∈ks.drop i,∀d,ko.dst=some d→d<T)→Rel F N0 T pl st a w→KeepU up0 st.up pl0 pl w0 w→zFr P .any ops (zGq ex ks a0) (fun a' w'=>∃pl',Inv F N0 T up0 pl0 w0 pl' st' a' w') m listed a w:=by
 obtain ⟨hlen,hfit⟩:=zGP hks
 intro m
 induction m with
 |zero=>
  intro i listed pl st a w him hsz hl he hb hr hk
  have hi:i=ops.size:=by omega
  refine ⟨List.eq_nil_iff_forall_not_mem.2 fun j hj=>?_,?_⟩
  ·obtain ⟨h1,o,ho,_⟩:=mem_ready.1 hj
   have hjl:=(Array.getElem?_eq_some_iff.1 ho).1
   rw [hl j hjl] at h1
   simp at h1
   omega
  ·rw [List.drop_eq_nil_of_le (by omega)] at he
   simp only [zS,Option.some.injEq] at he
   subst he
   exact ⟨pl,hr,hk⟩
 |succ m ih=>
  intro i listed pl st a w him hsz hl he hb hr hk
  have hi:i<ops.size:=by omega
  have hik:i<ks.length:=by omega
  have ho:=Array.getElem?_eq_getElem hi
  have hko:=List.getElem?_eq_getElem hik
  have hfo:=hfit i _ _ ho hko
  rw [List.drop_eq_getElem_cons hik] at he hb
  simp only [zS,Option.bind_eq_some_iff] at he
  obtain ⟨st1,he1,he2⟩:=he
  have hcalm:zg (ks[i]).op=true:=List.all_eq_true.1 hc _ (List.getElem_mem hik)
  obtain ⟨u,hy,⟨pl1,hr1,hk1⟩,hlk⟩:=zEK hfo hcalm hr (hb _ (List.mem_cons_self ..)) he1
  refine zDY (late:=fun _=>false) ho (fun j o' cs b=>Region.noSelect_spec hns j o' cs b) (fun j oj hoj hj=>by cases hj) m listed a w (fun j oj hoj hne hun hnot=>?_)
   (fun j hj=>by cases hj) (fun j hne hun _ b hS=> .inl ?_) (mem_ready.2 ⟨by rw [hl i hi];simp,_,ho,fun e he' hbd=>?_⟩) hy ?_
  ·have hjl:=(Array.getElem?_eq_some_iff.1 hoj).1
   rw [hl j hjl] at hun
   have hij:i<j:=by simp at hun;omega
   have h1:=List.all_eq_true.1 ha j (List.mem_range.2 hjl)
   simp only [hoj] at h1
   have h2:=List.all_eq_true.1 h1 i (List.mem_range.2 hij)
   simp only [ho,Bool.or_eq_true] at h2
   rcases h2 with h2|h2
   ·obtain ⟨e,he',hbd⟩:=Array.any_eq_true'.1 h2
    simp only [Bool.and_eq_true,beq_iff_eq] at hbd
    exact absurd hbd.2 (hnot e he' hbd.1)
   ·exact h2
  ·have hjl:j<ops.size:=by rw [←hsz];exact zAR hun
   have hjk:j<ks.length:=by omega
   have:kAt ks j=(ks[j]).op:=by simp [kAt,List.getElem?_eq_getElem hjk]
   rw [this]
   have:=List.all_eq_true.1 hc _ (List.getElem_mem hjk)
   simp only [zAb,this,Bool.true_or]
  ·have h1:=List.all_eq_true.1 ht i (List.mem_range.2 hi)
   simp only [ho] at h1
   have h2:=Array.all_eq_true_iff_forall_mem.1 h1 e he'
   simp only [hbd,Bool.not_true,Bool.false_or,decide_eq_true_eq] at h2
   rw [zk (by omega) false true,hl e.on (by omega)]
   simpa using h2
  ·refine ih (i+1) (listed.setIfInBounds i true) (by omega) (by simp [hsz]) (fun j hj=>?_) he2 (fun ko hko'=>hb ko (List.mem_cons_of_mem _ hko')) hr1 (hk.trans (zAK hk1).u)
   by_cases e:j=i
   ·subst e
    rw [zBG (by omega)]
    simp
   ·rw [getD_set_ne true (Ne.symm e),hl j hj]
    simp only [decide_eq_decide]
    omega
theorem zDd {id:Nat} {ks:List KOper} {Q:Exit→Act→World→Prop} (hm:P.follows .mixedOrders=true) (hks:zAB P h self ops=some ks) (hns:Region.noSelect ops=true)
  (hc:zEe ops ks=true) (hb:∀o∈ks,∀d,o.dst=some d→d<T) (he:zS run ks st=some st')
  (hi:Inv F N0 T up0 pl0 w0 pl st a w) (hQ:∀pl' a' w',Inv F N0 T up0 pl0 w0 pl' st' a' w'→Q .normal a' w'):(Code.region id ops true).wp P Q a w:=by
 simp only [zEe,Bool.and_eq_true] at hc
 obtain ⟨hr,hk⟩:=zEO hi.rel (w.drawn+1)
 refine wp_region_any hm (zBf (kp:=zGq false ks a) (Q:=fun a' w'=>∃pl',Inv F N0 T up0 pl0 w0 pl' st' a' w') (fun a' w' ⟨pl',h⟩=>hQ pl' a' w' h) _ _ _ _ ?_)
 refine zIS (run:=run) hks hns hc.2.1 hc.2.2.1 hc.2.2.2 ops.size 0 _ (by omega) (by simp) (fun j hj=>?_) (by simpa using he) (by simpa using hb) hr (hi.keep.trans (zAK hk).u)
 simp [hj]
end
end Go.Eng

