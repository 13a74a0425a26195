import Derived.Test.YtilkdjfhbahhdaaE23
import Derived.Still
set_option linter.unusedVariables false
set_option linter.unusedSimpArgs false
namespace Go.Eng
open Go.RowKit
structure Fits (P:Program) (h:Hints) (me:FuncId) (ops:Array Oper) (o:Oper) (ko:KOper):Prop where
 dst:ko.dst=o.dst
 op:zAm P h me o=some ko.op
 gd:(o.guard=none∧ko.guard=none)∨∃j want t,o.guard=some (j,want)∧(ops[j]?).bind (·.dst)=some t∧ko.guard=some (t,want)
section
variable {P:Program} {F F':Nat→Prop} {G:Nat→Option Obj} {N0:Base G} {T:Nat} {pl pl0 pl':Pl} {st st1 st':St} {a:Act} {w w0:World} {up0:List Frame} {fs fs':List Frame} {h:Hints} {self:FuncId} {ops:Array Oper} {o:Oper} {ko:KOper} {run:zh}
def zD9 (P:Program) (ops:Array Oper) (i:Nat) (K:Act→World→Prop) (a:Act) (w:World):Prop:=
 match ops[i]? with
 |none=>K a w
 |some o=>if Region.wanted o (yielded ops a.tmps) then o.wp P a w K (fun _ _ _=>False) else K (a.put o.dst undef) w
theorem zEA {i:Nat} {K K':Act→World→Prop} (h:∀a w,K a w→K' a w) (hh:zD9 P ops i K a w):zD9 P ops i K' a w:=by
 unfold zD9 at*
 split
 ·exact h _ _ (by simpa [*] using hh)
 ·rename_i o ho
  simp only [ho] at hh
  split
  ·rename_i hw;simp only [hw,if_true] at hh;exact Oper.wp_mono h hh
  ·rename_i hw;simp only [hw] at hh;exact h _ _ hh
def zJS (P:Program) (ops:Array Oper) (Q:Act→World→Prop):Nat→Array Bool→Act→World→Prop
 |0,listed,a,w=>Region.ready .any ops listed= []∧Q a w
 |fuel+1,listed,a,w=>(Region.ready .any ops listed= []→Q a w)∧
  ∀i∈Region.ready .any ops listed,zD9 P ops i (fun a' w'=>zJS P ops Q fuel (listed.setIfInBounds i true) a' w') a w
theorem zE1 {Q Q':Act→World→Prop} (h:∀a w,Q a w→Q' a w):∀{fuel:Nat} {listed:Array Bool} {a:Act} {w:World},zJS P ops Q fuel listed a w→zJS P ops Q' fuel listed a w
 |0,_,_,_,hh=>⟨hh.1,h _ _ hh.2⟩
 |fuel+1,_,_,_,hh=>⟨fun h0=>h _ _ (hh.1 h0),fun i hi=>zEA (fun a' w' h'=>zE1 h h') (hh.2 i hi)⟩
theorem zDN {Q:Act→World→Prop} {Q':Exit→Act→World→Prop} (hQ:∀a w,Q a w→Q' .normal a w):∀(fuel:Nat) (listed:Array Bool) (a:Act) (w:World),zJS P ops Q fuel listed a w→wpAny P .any ops Q' fuel listed a w
 |0,_,_,_,h=>⟨h.1,hQ _ _ h.2⟩
 |fuel+1,listed,a,w,h=>⟨fun h0=>hQ _ _ (h.1 h0),fun i hi=>by
  have h1:=zEA (K':=wpAny P .any ops Q' fuel (listed.setIfInBounds i true)) (fun a' w' h2=>zDN hQ fuel _ a' w' h2) (h.2 i hi)
  unfold zD9 at h1
  unfold wpOp
  cases ho:ops[i]? with
  |none=>simp only [ho] at h1⊢;exact h1
  |some o=>
   simp only [ho] at h1⊢
   split
   ·rename_i hw
    simp only [hw,if_true] at h1
    exact .inl (zFQ h1)
   ·rename_i hw
    simp only [hw] at h1
    exact h1⟩
theorem zKL {ks:List KOper} (hc:zAa P h self ops=some ks):ks.length=ops.size∧∀(i:Nat) o ko,ops[i]?=some o→ks[i]?=some ko→Fits P h self ops o ko:=by
 unfold zAa at hc
 obtain ⟨h1,h2⟩:=zAG hc
 refine ⟨by simpa using h1,fun i o ko ho hk=>?_⟩
 have h3:=h2 i o ko (by simpa using ho) hk
 obtain ⟨k,hk',hg⟩:=Option.bind_eq_some_iff.1 h3
 cases hgd:o.guard with
 |none=>
  rw [hgd] at hg
  cases hg
  exact ⟨rfl,hk',.inl ⟨hgd,rfl⟩⟩
 |some jw=>
  obtain ⟨j,want⟩:=jw
  rw [hgd] at hg
  obtain ⟨t,ht,rfl⟩:=Option.map_eq_some_iff.1 hg
  exact ⟨rfl,hk',.inr ⟨j,want,t,hgd,ht,rfl⟩⟩
theorem zJT (hf:Fits P h self ops o ko) (hr:Rel F N0 T pl st a w) (he:zQ run st ko=some st1):
  (Region.wanted o (yielded ops a.tmps)=true∧∃v st2,zC run st (ko.dst.getD 0) ko.op=some (v,st2)∧st1={st2 with t:=zAy st2.t ko.dst v})∨
  (Region.wanted o (yielded ops a.tmps)=false∧st1={st with t:=zAy st.t ko.dst (.tup [])}):=by
 rcases hf.gd with ⟨hgd,hg⟩|⟨j,want,t,hgd,ht,hg⟩
 ·simp only [zQ,hg,zL] at he
  obtain ⟨⟨v,st2⟩,h1,rfl⟩:=he
  exact .inl ⟨by simp [Region.wanted,hgd],v,st2,h1,rfl⟩
 ·simp only [zQ,hg] at he
  split at he
  ·rename_i x hx
   have hval:=zDr (hr.tmps t _ hx)
   have hy:yielded ops a.tmps j=some x:=by
    unfold yielded
    rw [ht]
    have:a.tmps[t]?=some (.bool x):=by
     rw [Array.getD_eq_getD_getElem?] at hval
     cases hq:a.tmps[t]? with
     |none=>rw [hq] at hval;simp [undef] at hval
     |some q=>rw [hq] at hval;simpa using hval
    simp [this]
   split at he
   ·rename_i hxw
    subst hxw
    obtain ⟨⟨v,st2⟩,h1,rfl⟩:=Option.map_eq_some_iff.1 he
    exact .inl ⟨by simp [Region.wanted,hgd,hy],v,st2,h1,rfl⟩
   ·rename_i hxw
    cases he
    exact .inr ⟨by simp [Region.wanted,hgd,hy];exact hxw,rfl⟩
  ·rename_i hx
   have hy:yielded ops a.tmps j≠some want:=by
    obtain ⟨us,hu,hl,_⟩:=hr.tmps t _ hx
    have hus:us= []:=zAQ hl
    subst hus
    unfold yielded
    rw [ht]
    rw [Array.getD_eq_getD_getElem?] at hu
    cases hq:a.tmps[t]? with
    |none=>simp [hq]
    |some q=>rw [hq] at hu;simp at hu;subst hu;simp [hq]
   cases he
   exact .inr ⟨by simp [Region.wanted,hgd];exact hy,rfl⟩
  ·cases he
theorem zJU (hS:zA5 G P run) {i:Nat} (hi:ops[i]?=some o) (hf:Fits P h self ops o ko) (hr:Rel F N0 T pl st a w) (hT:∀d,ko.dst=some d→d<T) (he:zQ run st ko=some st1) {K:Act→World→Prop}
  (hK:∀u w' pl1,Rel F N0 T pl1 st1 (a.put o.dst u) w'→Keep F (st.fr::st.up) (st1.fr::st1.up) pl pl1 w w'→K (a.put o.dst u) w'):zD9 P ops i K a w:=by
 unfold zD9
 simp only [hi]
 rcases zJT hf hr he with ⟨hw,v,st2,hev,rfl⟩|⟨hw,rfl⟩
 ·rw [if_pos hw]
  refine zKi hS hf.op hr hev _ fun u w' hp=>?_
  obtain ⟨pl1,h1,h2⟩:=zCb hr hp hT
  rw [hf.dst] at h1
  exact hK u w' pl1 (by rw [hf.dst];exact h1) h2
 ·rw [if_neg (by simp [hw])]
  obtain ⟨pl1,h1,h2⟩:=zCb (v:= .tup []) (u:=undef) hr ⟨⟨pl,⟨[],rfl,rfl,fun i u c hu=>by simp at hu⟩,hr.mem,Keep.refl⟩,rfl⟩ hT
  rw [hf.dst] at h1
  exact hK undef w pl1 (by rw [hf.dst];exact h1) h2
theorem zDO (hg:∀d n,zB d n fs'=zB d n fs) {v:Value} {c:CV} (hr:zAM F fs pl w v c):zAM F fs' pl w v c:=by
 cases c with
 |p x=>exact hr
 |own d n g m=>
  obtain ⟨h1,B,h2,h3⟩:=hr
  exact ⟨h1,B,(hg d n).trans h2,h3⟩
 |ptr d n g j o=>
  obtain ⟨h1,B,h2,h3⟩:=hr
  exact ⟨h1,B,(hg d n).trans h2,h3⟩
 |sub d n g j o m esz=>
  obtain ⟨h1,B,h2,h3⟩:=hr
  exact ⟨h1,B,(hg d n).trans h2,h3⟩
 |rp row o=>exact hr
 |fn f caps=>
  obtain ⟨vals,h1,h2,h3⟩:=hr
  refine ⟨vals,h1,h2,fun i u c hu hc=>?_⟩
  have h4:=h3 i u c hu hc
  cases c with
  |p x=>exact h4
  |ptr d n g=>
   obtain ⟨h0,B,h5,h6⟩:=h4
   exact ⟨h0,B,(hg d n).trans h5,h6⟩
  |rp row=>exact h4
 |nfn=>exact hr
 |u=>trivial
theorem zDP (hg:∀d n,zB d n fs'=zB d n fs) {v:Value} {x:AV} (hr:zd F fs pl w v x):zd F fs' pl w v x:=by
 have:=zAv (φ:=id) (F':=F) (fs':=fs') (pl':=pl) (ww':=w) (fun u c _ h=>zDO hg h) (fun c h=>h) hr
 have e:x.map id=x:=by cases x<;>simp [AV.map]
 rwa [e] at this
theorem zGz (hg:∀d n,zB d n fs'=zB d n fs) (hm:MemOK F N0 fs pl w):MemOK F N0 fs' pl w:=
 ⟨fun d n j b s hp=>by
  obtain ⟨h1,h2,h3,B,h4⟩:=hm.live d n j b s hp
  exact ⟨h1,h2,h3,B,(hg d n).trans h4⟩,hm.inj,fun d n B hB=>by
  have h1:=hm.blk d n B ((hg d n).symm.trans hB)
  unfold zY at h1⊢
  split at h1
  ·obtain ⟨b,us,h2,h3,h4,h5⟩:=h1
   exact ⟨b,us,h2,h3,⟨h4.1,fun i u c hu hc=>⟨zDO hg (h4.2 i u c hu hc).1,(h4.2 i u c hu hc).2⟩⟩,h5⟩
  ·exact h1
  ·exact h1
  ·exact h1,hm.fsz,hm.fix⟩
theorem zKM (e:Eqv st st1) (hi:Inv F N0 T up0 pl0 w0 pl st1 a w):Inv F N0 T up0 pl0 w0 pl st a w:=by
 have hg:∀d n,zB d n (st.fr::st.up)=zB d n (st1.fr::st1.up):=fun d n=>(e.m (d,n)).symm
 have hup:∀d n,zB d n st1.up=zB d n st.up:=fun d n=>by
  by_cases hd:d<st.up.length
  ·have h1:=hg d n
   simp only [zB] at h1
   rw [if_neg (by omega),if_neg (by rw [e.u];omega)] at h1
   exact h1.symm
  ·have none_of:∀{up:List Go.Eng.Frame},¬d<up.length→zB d n up=none:=fun {up} hq=>by
    cases hB:zB d n up with
    |none=>rfl
    |some B=>exact absurd (zH hB) hq
   rw [none_of hd,none_of (by rw [e.u];exact hd)]
 have hr:=hi.rel
 refine ⟨⟨zGz hg hr.mem,fun n v hv=>zDP hg (hr.tmps n v ((e.t n).trans hv)),hr.size,hr.defers,hr.low⟩,hi.keep.step,?_,fun d n b hb=>?_,hi.keep.later.new⟩
 ·exact e.u.symm.trans hi.keep.later.len
 ·obtain ⟨b',h1,h2⟩:=hi.keep.later.blk d n b hb
  exact ⟨b',(hup d n).symm.trans h1,h2⟩
theorem zBg (i:Nat):∀m,(zBb ops i m).length=m
 |0=>rfl
 |m+1=>by simp [zBb,zBg i m]
theorem zDf (i:Nat):∀{m j:Nat},(zBb ops i m).getD j false=true→zBa ops i (zBb ops i j) j=true∧j<m
 |0,j,h=>by simp [zBb] at h
 |m+1,j,h=>by
  simp only [zBb,List.getD_eq_getElem?_getD] at h
  rcases Nat.lt_trichotomy j m with hj|rfl|hj
  ·rw [List.getElem?_append_left (by rw [zBg];exact hj)] at h
   have:=zDf i (m:=m) (j:=j) (by rw [List.getD_eq_getElem?_getD];exact h)
   exact ⟨this.1,by omega⟩
  ·rw [List.getElem?_append_right (by rw [zBg];exact Nat.le_refl _),zBg,Nat.sub_self] at h
   exact ⟨by simpa using h,by omega⟩
  ·rw [List.getElem?_eq_none (by simp [zBg];omega)] at h
   cases h
theorem zEY {R:Array Bool} {i:Nat} (hcl:∀j o,ops[j]?=some o→R.getD j false=true→∀e∈o.after,Region.binds .any e=true→R.getD e.on false=true) (hi:R.getD i false=false) (j:Nat):
  ∀m,(zBb ops i m).getD j false=true→R.getD j false=false:=by
 induction j using Nat.strongRecOn with
 |_ j ih=>
  intro m h
  obtain ⟨h1,hj⟩:=zDf i h
  unfold zBa at h1
  split at h1
  ·rename_i o ho
   obtain ⟨e,he,hb⟩:=Array.any_eq_true'.1 h1
   simp only [Bool.and_eq_true,Bool.or_eq_true,beq_iff_eq] at hb
   cases hq:R.getD j false with
   |false=>rfl
   |true=>
    have h2:=hcl j o ho hq e he hb.1
    rcases hb.2 with h3|h3
    ·rw [h3,hi] at h2;cases h2
    ·rw [ih e.on (zDf i h3).2 j h3] at h2;cases h2
  ·cases h1
theorem zJV {R:Array Bool} {i j:Nat} (hcl:∀j o,ops[j]?=some o→R.getD j false=true→∀e∈o.after,Region.binds .any e=true→R.getD e.on false=true) (hi:R.getD i false=false)
  (hj:ops[j]?=some o) (hd:∀e∈o.after,Region.binds .any e=true→R.getD e.on false=true):zFH (zFk ops) j i=false:=by
 cases hq:zFH (zFk ops) j i with
 |false=>rfl
 |true=>
  unfold zFH zFk at hq
  have hi':i<ops.size:=by
   rcases Nat.lt_or_ge i ops.size with h'|h'
   ·exact h'
   ·simp [List.getD_eq_getElem?_getD,h'] at hq
  have h1:(zBb ops i ops.size).getD j false=true:=by simpa [List.getD_eq_getElem?_getD,hi'] using hq
  have h2:=(zDf i h1).1
  unfold zBa at h2
  rw [hj] at h2
  obtain ⟨e,he,hb⟩:=Array.any_eq_true'.1 h2
  simp only [Bool.and_eq_true,Bool.or_eq_true,beq_iff_eq] at hb
  have h3:=hd e he hb.1
  rcases hb.2 with h4|h4
  ·rw [h4,hi] at h3;cases h3
  ·rw [zEY hcl hi e.on j h4] at h3;cases h3
theorem zE2 {l:Array Bool} {i:Nat} (hi:i<l.size) (d d':Bool):l.getD i d=l.getD i d':=by simp [hi]
theorem zIF {i:Nat} {o:Oper} (ho:ops[i]?=some o) {e} (he:e∈o.after) (hb:Region.binds .any e=true):zFm ops i e.on=true:=by
 simp only [zFm,ho]
 exact Array.any_eq_true'.2 ⟨e,he,by simp [hb]⟩
theorem zG0 (hS:zA5 G P run) {ks:List KOper} (hks:zAa P h self ops=some ks):∀(m:Nat) (L:List Nat) (R:Array Bool) {s s':St} {tr:List (Nat×Tch)} {pl:Pl} {a:Act} {w:World},
  L.length=m→evS run ks L s=some (s',tr)→tr.Pairwise (fun x y=>zFH (zFk ops) y.1 x.1=false→Apt ks x y)→L.Nodup→R.size=ops.size→(∀j,j<ops.size→(R.getD j true=false↔j∈L))→(∀j∈L,j<ops.size)→
  (∀j o,ops[j]?=some o→R.getD j false=true→∀e∈o.after,Region.binds .any e=true→R.getD e.on false=true)→L.Pairwise (fun i j=>zFm ops i j=false)→(∀i∈L,zHI ops i=true)→
  (∀i∈L,∀d,(kOf ks i).dst=some d→d<T)→Rel F N0 T pl s a w→KeepU up0 s.up pl0 pl w0 w→zJS P ops (fun a' w'=>∃s'' pl',Eqv s' s''∧Inv F N0 T up0 pl0 w0 pl' s'' a' w') m R a w:=by
 obtain ⟨hlen,hfit⟩:=zKL hks
 intro m
 induction m with
 |zero=>
  intro L R s s' tr pl a w hl he hpw hnd hsz hun hlt hcl hpe hse hT hr hk
  have hL:L= []:=zAQ hl
  subst hL
  cases he
  refine ⟨List.eq_nil_iff_forall_not_mem.2 fun j hj=>?_,s,pl,Eqv.refl _,hr,hk⟩
  obtain ⟨h1,o,ho,_⟩:=mem_ready.1 hj
  exact absurd ((hun j (Array.getElem?_eq_some_iff.1 ho).1).1 h1) (by simp)
 |succ m ih=>
  intro L R s s' tr pl a w hl he hpw hnd hsz hun hlt hcl hpe hse hT hr hk
  refine ⟨fun h0=>?_,fun j hj=>?_⟩
  ·cases L with
   |nil=>cases hl
   |cons i r=>
    have hi:=hlt i (List.mem_cons_self ..)
    have ho:=Array.getElem?_eq_getElem hi
    have hself:=hse i (List.mem_cons_self ..)
    simp only [zHI,ho] at hself
    have hin:i∈Region.ready .any ops R:=mem_ready.2 ⟨(hun i hi).2 (List.mem_cons_self ..),_,ho,fun e he' hb=>by
     have h1:=Array.all_eq_true_iff_forall_mem.1 hself e he'
     simp only [hb,Bool.not_true,Bool.false_or,Bool.and_eq_true,decide_eq_true_eq,bne_iff_ne,ne_eq] at h1
     rw [zE2 (by rw [hsz];exact h1.1) false true]
     cases hq:R.getD e.on true with
     |true=>rfl
     |false=>
      rcases List.mem_cons.1 ((hun e.on h1.1).1 hq) with h2|h2
      ·exact absurd h2 h1.2
      ·have h3:=List.rel_of_pairwise_cons hpe h2
       rw [zIF ho he' hb] at h3
       cases h3⟩
    rw [h0] at hin
    cases hin
  ·obtain ⟨hRj,o,ho,hall⟩:=mem_ready.1 hj
   have hjs:=(Array.getElem?_eq_some_iff.1 ho).1
   obtain ⟨p,q,rfl⟩:=List.append_of_mem ((hun j hjs).1 hRj)
   obtain ⟨tp,tj,tq,rfl,htp,hb⟩:=zJO he
   obtain ⟨s1,s'',h1,h2,h3,_⟩:=hb fun x hx=>by
    refine (List.pairwise_append.1 hpw).2.2 x hx (j,tj) (List.mem_cons_self ..) (zJV hcl ?_ ho hall)
    have hxp:x.1∈p:=by rw [←htp];exact List.mem_map.2 ⟨x,hx,rfl⟩
    have hxl:=hlt x.1 (List.mem_append_left _ hxp)
    rw [zE2 (by rw [hsz];exact hxl) false true]
    exact (hun x.1 hxl).2 (List.mem_append_left _ hxp)
   have hko:ks[j]?=some (kOf ks j):=by
    have:j<ks.length:=by rw [hlen];exact hjs
    simp [kOf,this]
   have hsub:(p++q).Sublist (p++j::q):=List.Sublist.append_left (List.sublist_cons_self j q) p
   have hnj:j∉p++q:=fun hm=>by
    have:=List.nodup_append.1 hnd
    rcases List.mem_append.1 hm with hm|hm
    ·exact this.2.2 j hm j (List.mem_cons_self ..) rfl
    ·exact (List.nodup_cons.1 this.2.1).1 hm
   have hfo:=hfit j o _ ho hko
   refine zJU hS ho hfo hr (hT j (List.mem_append_right _ (List.mem_cons_self ..))) h1 fun u w' pl1 hr1 hk1=>?_
   refine zE1 (fun a' w' ⟨z,pl',e1,e2⟩=>⟨z,pl',h3.trans e1,e2⟩) (ih (p++q) (R.setIfInBounds j true) ?_ h2 ?_ (hnd.sublist hsub) (by simp [hsz]) (fun i hi=>?_) (fun i hi=>hlt i (hsub.subset hi)) (fun i oi hoi hi e he' hb'=>?_) (hpe.sublist hsub) (fun i hi=>hse i (hsub.subset hi))
    (fun i hi=>hT i (hsub.subset hi)) hr1 (hk.trans (zAn hk1).u))
   ·simp at hl⊢;omega
   ·exact hpw.sublist (List.Sublist.append_left (List.sublist_cons_self _ _) tp)
   ·by_cases hij:i=j
    ·subst hij
     simp only [hnj,iff_false]
     simp [hsz,hjs]
    ·rw [getD_set_ne true (Ne.symm hij),hun i hi]
     simp [hij]
   ·by_cases hij:i=j
    ·subst hij
     rw [ho] at hoi
     cases hoi
     exact getD_set_true (hall e he' hb')
    ·rw [getD_set_ne false (Ne.symm hij)] at hi
     exact getD_set_true (hcl i oi hoi hi e he' hb')
theorem zIG {pl:Pl} (hr:Rel F N0 T pl st a w) (n:Nat):Rel F N0 T pl st a {w with drawn:=n}∧Keep F (st.fr::st.up) (st.fr::st.up) pl pl w {w with drawn:=n}:=by
 have hK:Keep F (st.fr::st.up) (st.fr::st.up) pl pl w {w with drawn:=n}:=⟨⟨rfl,rfl,rfl,Nat.le_refl _,fun _ _ _=>rfl⟩,Later.refl _ _ _⟩
 exact ⟨⟨⟨hr.mem.live,hr.mem.inj,fun d m B hB=>zAN hK rfl (fun _ _ _ _=>rfl) (hr.mem.blk d m B hB),hr.mem.fsz,hr.mem.fix⟩,fun m v hv=>hK.repA (hr.tmps m v hv),hr.size,hr.defers,hr.low⟩,hK⟩
theorem zEB {ks:List KOper} {dt:DT}:∀{L:List Nat},zFI ops ks dt L=true→L.Pairwise (fun i j=>zFm ops i j=false)∧(∀i∈L,zHI ops i=true)∧L.Pairwise fun i j=>zFH dt j i=false→zCC (kOf ks i) (kOf ks j)=true
 | [],_=>⟨.nil,fun i hi=>(by cases hi),.nil⟩
 |i::r,h=>by
  simp only [zFI,Bool.and_eq_true,List.all_eq_true,zKg,Bool.not_eq_true',Bool.or_eq_true] at h
  obtain ⟨⟨h1,h2⟩,h3⟩:=h
  obtain ⟨g1,g2,g3⟩:=zEB h3
  refine ⟨.cons (fun j hj=>(h2 j hj).1) g1,fun k hk=>?_,.cons (fun j hj hd=>?_) g3⟩
  ·rcases List.mem_cons.1 hk with rfl|hk
   ·exact h1
   ·exact g2 k hk
  ·rcases (h2 j hj).2 with h4|h4
   ·rw [hd] at h4;cases h4
   ·exact h4
theorem zEC:∀{l:List Nat},zBc l=true→l.Nodup
 | [],_=>List.nodup_nil
 |n::l,h=>by
  simp only [zBc,Bool.and_eq_true,Bool.not_eq_true'] at h
  refine List.nodup_cons.2 ⟨fun hm=>?_,zEC h.2⟩
  have e:=List.contains_iff_mem.2 hm
  rw [h.1] at e
  cases e
theorem zIH {n:Nat} {l:List Nat} (h:zIl n l=true):l.length=n∧l.Nodup∧(∀j,j<n→j∈l)∧∀j∈l,j<n:=by
 simp only [zIl,Bool.and_eq_true,beq_iff_eq,List.all_eq_true,List.mem_range,decide_eq_true_eq] at h
 obtain ⟨⟨⟨h1,h2⟩,h3⟩,h4⟩:=h
 exact ⟨h1,zEC h2,fun j hj=>List.contains_iff_mem.1 (h4 j hj),h3⟩
theorem zE3 {ks:List KOper} {dt:DT}:∀{L:List Nat} {p:List Nat},(∀o∈zDp ks dt p L,∀d,o.1.dst=some d→d<T)→∀i∈L,∀d,(kOf ks i).dst=some d→d<T
 | [],p,h,i,hi,d,hd=>by cases hi
 |j::r,p,h,i,hi,d,hd=>by
  rcases List.mem_cons.1 hi with rfl|hi
  ·exact h _ (List.mem_cons_self ..) d hd
  ·exact zE3 (fun o ho=>h o (List.mem_cons_of_mem _ ho)) i hi d hd
theorem zED (hS:zA5 G P run) {id:Nat} {ks:List KOper} {l:List (KOper×List Bool)} {Q:Exit→Act→World→Prop} (hm:P.follows .mixedOrders=true) (hks:zAa P h self ops=some ks)
  (hl:zHJ ops ks=some (.draw l)) (hb:∀o∈l,∀d,o.1.dst=some d→d<T) (he:zDl run l [] st=some st')
  (hi:Inv F N0 T up0 pl0 w0 pl st a w) (hQ:∀pl' a' w',Inv F N0 T up0 pl0 w0 pl' st' a' w'→Q .normal a' w'):(Code.region id ops true).wp P Q a w:=by
 unfold zHJ at hl
 rw [zB9,zCA] at hl
 split at hl
 ·rename_i hc
  cases hl
  simp only [Bool.and_eq_true] at hc
  generalize zIk ops ks (zFk ops)=L at hc he hb
  obtain ⟨p1,p2,p3,p4⟩:=zIH hc.1
  obtain ⟨g1,g2,g3⟩:=zEB hc.2
  obtain ⟨tr,h1,h2,_,h4⟩:=zD8 he
  obtain ⟨hr,hk⟩:=zIG hi.rel (w.drawn+1)
  have rep:∀j,j<ops.size→(Array.replicate ops.size false).getD j true=false:=fun j hj=>by simp [hj]
  have repf:∀j,(Array.replicate ops.size false).getD j false=false:=fun j=>by
   simp only [Array.getD_eq_getD_getElem?,Array.getElem?_replicate]
   split<;>rfl
  refine wp_region_any hm (zDN (Q:=fun a' w'=>∃s'' pl',Eqv st' s''∧Inv F N0 T up0 pl0 w0 pl' s'' a' w') (fun a' w' ⟨z,pl',e1,e2⟩=>hQ pl' a' w' (zKM e1 e2)) _ _ _ _ ?_)
  refine zG0 hS hks ops.size L _ p1 h1 ?_ p2 (by simp) (fun j hj=>⟨fun _=>p3 j hj,fun _=>rep j hj⟩) p4 (fun j o ho hj=>by rw [repf] at hj;cases hj) g1 g2 (zE3 hb) hr (hi.keep.trans (zAn hk).u)
  have h5:tr.Pairwise fun x y=>zFH (zFk ops) y.1 x.1=false→zCC (kOf ks x.1) (kOf ks y.1)=true:=by
   have:=zHh h1
   rw [←this] at g3
   exact List.pairwise_map.1 g3
  refine (h4.and h5).imp_of_mem fun {x y} hx hy hxy hd=>⟨hxy.2 hd,?_⟩
  cases hf:zDF ks (zFk ops) y.1 x.1 with
  |true=>exact hxy.1 hf
  |false=>exact zJR (h2 x hx) (h2 y hy) hd hf
 ·cases hl
end
end Go.Eng

