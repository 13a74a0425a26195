import Derived.Test.YtdkoeegcpbaojaaGreatDoorE15
set_option linter.unusedVariables false
set_option linter.unusedSimpArgs false
namespace Go.Eng
open Go.RowKit
def zAg:Pl:=fun _ _=>none
section
variable {P:Program} {F F':Nat→Prop} {G:Nat→Option Obj} {N0:Base G} {T:Nat} {pl pl' pl1:Pl} {st st':St} {a:Act} {w w':World} {fs fs':List Frame} {f':Frame} {up:List Frame}
theorem zGD {own own':Nat→Prop} {v:Value} {x:PV} (hf:(CV.p x).flat=true) (h:RepP own w v x):RepP own' w v x:=by
 cases h<;>first|(constructor;done)|simp [CV.flat] at hf
theorem zKE {rows:List Blk} (hm:MemOK F N0 fs pl w) (hN:N0.n≤w.heap.size) (hm':MemOK F' (⟨w.heap.size⟩:Base G) (zf rows 0:: []) pl1 w') (hk:KeepU [] [] zAg pl1 w w')
  (hrows:∀B∈rows,B.g=0∧B.k.okO=true) (hF:(∀k,Own F pl k→F' k)∨∀B∈rows,zHO B=true):
  ∃pl2,MemOK F N0 (zf rows 0::fs) pl2 w'∧Keep F fs fs pl pl2 w w'∧
   ∀{u:Value} {v:AV},(∀c∈v.cvs,c.po=true)→((∀k,Own F pl k→F' k)∨∀c∈v.cvs,zIV c=true)→zU F' (zf rows 0:: []) pl1 w' u (v.map (zBA 0))→zU F (zf rows 0::fs) pl2 w' u (v.map (zBA fs.length)):=by
 let pl2:Pl:=fun d n=>if d=fs.length then pl1 0 n else pl d n
 have hbd:∀d n b s,pl d n=some (b,s)→d<fs.length∧b<w.heap.size:=fun d n b s h=>by
  obtain ⟨_,h2,_,B,hB⟩:=hm.live d n b s h
  exact ⟨zK hB,h2⟩
 have q1:∀n,pl2 fs.length n=pl1 0 n:=fun n=>by simp [pl2]
 have q2:∀d n,d≠fs.length→pl2 d n=pl d n:=fun d n h=>by simp [pl2,h]
 have hge:∀n b s,pl1 0 n=some (b,s)→w.heap.size≤b∧b<w'.heap.size∧∃B,zF n (zf rows 0)=some B:=fun n b s h=>by
  obtain ⟨h1,h2,_,B,hB⟩:=hm'.live 0 n b s h
  exact ⟨h1,h2,B,by simpa [zB] using hB⟩
 have hstep:Step pl w w':=⟨hk.step.os,hk.step.tape,hk.step.output,hk.step.size,fun k hk' _=>hk.step.block k hk' (fun _ _ _ h=>by cases h)⟩
 have hK:Keep F fs fs pl pl2 w w':=by
  refine ⟨hstep,rfl,fun d n b hb=>⟨b,hb,Nat.le_refl _,fun _=>⟨q2 d n (Nat.ne_of_lt (zK hb)),rfl⟩⟩,fun d n b s h=>?_⟩
  by_cases hd:d=fs.length
  ·subst hd;rw [q1] at h;exact .inr (hge n b s h).1
  ·rw [q2 d n hd] at h;exact .inl ⟨d,n,s,h⟩
 have hup:∀d n,d<fs.length→zB d n (zf rows 0::fs)=zB d n fs:=fun d n hd=>by simp [zB,Nat.ne_of_lt hd]
 have htop:∀n,zB fs.length n (zf rows 0::fs)=zF n (zf rows 0):=fun n=>by simp [zB]
 have htop':∀n,zB 0 n (zf rows 0:: [])=zF n (zf rows 0):=fun n=>by simp [zB]
 have hlow:Low fs.length fs pl2 (zf rows 0::fs) pl2:=⟨fun d n hd=>⟨hup d n hd,rfl⟩,fun d n b s h=>⟨d,n,h⟩⟩
 have hP:(∀k,Own F pl k→F' k)→∀{u x},RepP (Own F' pl1) w' u x→RepP (Own F pl2) w' u x:=fun hF {u x} h=>
  h.step (fun _ _ _=>rfl) (Nat.le_refl _) (fun k hk'=>by
   rcases hk' with hk'|⟨d,n,s,hk'⟩
   ·exact .inl (.inl (hF k (.inl hk')))
   ·by_cases hd:d=fs.length
    ·subst hd;rw [q1] at hk';exact .inl (.inr ⟨0,n,s,hk'⟩)
    ·rw [q2 d n hd] at hk';exact .inl (.inl (hF k (.inr ⟨d,n,s,hk'⟩))))
 refine ⟨pl2,⟨fun d n b s h=>?_,fun d n d' n' b s s' h h'=>?_,fun d n B hB=>?_,fun k hF=>Nat.lt_of_lt_of_le (hm.fsz k hF) hk.step.size,zBa hm hstep.block⟩,hK,?_⟩
 ·by_cases hd:d=fs.length
  ·subst hd
   rw [q1] at h
   obtain ⟨h1,h2,B,hB⟩:=hge n b s h
   exact ⟨by omega,h2,fun hF=>by have:=hm.fsz b hF;omega,B,by rw [htop];exact hB⟩
  ·rw [q2 d n hd] at h
   obtain ⟨h1,h2,h3,B,hB⟩:=hm.live d n b s h
   exact ⟨h1,Nat.lt_of_lt_of_le h2 hk.step.size,h3,B,by rw [hup d n (zK hB)];exact hB⟩
 ·by_cases hd:d=fs.length<;>by_cases hd':d'=fs.length
  ·subst hd;subst hd'
   rw [q1] at h h'
   exact ⟨rfl,(hm'.inj _ _ _ _ b s s' h h').2⟩
  ·subst hd
   rw [q1] at h;rw [q2 d' n' hd'] at h'
   have h1:=(hge n b s h).1
   have h2:=(hbd d' n' b s' h').2
   omega
  ·subst hd'
   rw [q1] at h';rw [q2 d n hd] at h
   have h1:=(hge n' b s' h').1
   have h2:=(hbd d n b s h).2
   omega
  ·rw [q2 d n hd] at h;rw [q2 d' n' hd'] at h'
   exact hm.inj _ _ _ _ b s s' h h'
 ·by_cases hd:d<fs.length
  ·rw [hup d n hd] at hB
   refine hlow.blk hd (zBH hK (q2 d n (Nat.ne_of_lt hd)) (fun b s h=>hk.step.block b (hbd d n b s h).2 (fun _ _ _ h=>by cases h)) (hm.blk d n B hB))
  ·have hlt:=zK hB
   simp only [List.length_cons] at hlt
   have hd2:d=fs.length:=by omega
   subst hd2
   rw [htop] at hB
   have hB':=hB
   rw [zCY] at hB'
   simp only [Nat.zero_le,if_true,Nat.sub_zero] at hB'
   have hmem:=List.mem_of_getElem? hB'
   rcases hF with hF|hF
   ·have hok:=(hrows B hmem).2
    have hb:=hm'.blk 0 n B (by rw [htop'];exact hB)
    unfold zAD at hb⊢
    cases hrs:B.k with
    |row rs=>
     rw [hrs] at hb
     rcases hb with ⟨h1,h2⟩|⟨b,s,us,h1,h2,h3,h4,h5,h6⟩
     ·exact .inl ⟨h1,(q1 n).trans h2⟩
     ·exact .inr ⟨b,s,us,(q1 n).trans h1,h2,h3,h4,h5,fun j e o x he hx=>by
       obtain ⟨v,hv,hr⟩:=h6 j e o x he hx
       exact ⟨v,hv,hP hF hr⟩⟩
    |box cells=>
     rw [hrs] at hb hok
     obtain ⟨b,us,h1,h2,h3,h4⟩:=hb
     exact ⟨b,us,(q1 n).trans h1,h2,zBR (fun h=>hP hF h) rfl rfl hok h3,zCD hok _⟩
    |dead=>rw [hrs] at hok;cases hok
   ·have hfl:=hF B hmem
    have hb:=hm'.blk 0 n B (by rw [htop'];exact hB)
    unfold zHO at hfl
    unfold zAD at hb⊢
    cases hrs:B.k with
    |row rs=>
     rw [hrs] at hb hfl
     rcases hb with ⟨h1,h2⟩|⟨b,s,us,h1,h2,h3,h4,h5,h6⟩
     ·exact .inl ⟨h1,(q1 n).trans h2⟩
     ·exact .inr ⟨b,s,us,(q1 n).trans h1,h2,h3,h4,h5,fun j e o x he hx=>by
       obtain ⟨v,hv,hr⟩:=h6 j e o x he hx
       exact ⟨v,hv,zGD (List.all_eq_true.1 (List.all_eq_true.1 hfl e (List.mem_of_getElem? he)) x (List.mem_of_getElem? hx)) hr⟩⟩
    |box cells=>rw [hrs] at hfl;cases hfl
    |dead=>rw [hrs] at hfl;cases hfl
 ·intro u v hpo hfl hr
  have:v.map (zBA fs.length)=(v.map (zBA 0)).map (zBA fs.length):=by
   rw [AV.map_map]
   exact AV.map_congr fun c=>by cases c<;>rfl
  rw [this]
  refine zBJ (fun x c hc h=>?_) (fun c h=>by subst h;rfl) hr
  obtain ⟨c0,h0,rfl⟩:=AV.mem_map hc
  have h9:=hpo c0 h0
  cases c0 with
  |p x=>
   rcases hfl with hfl|hfl
   ·exact hP hfl h
   ·exact zGD (hfl _ h0) h
  |own d i g m=>
   obtain ⟨h1,B,h2,h3,h4⟩:=h
   refine ⟨h1,B,by rw [htop];rw [htop'] at h2;exact h2,h3,fun e=>?_⟩
   show _∨∃b s cap,pl2 fs.length i=_∧_
   rw [q1]
   exact h4 e
  |ptr d i g j o=>
   obtain ⟨h1,B,h2,h3,h4⟩:=h
   refine ⟨h1,B,by rw [htop];rw [htop'] at h2;exact h2,h3,fun e=>?_⟩
   show ∃b s,pl2 fs.length i=_∧_
   rw [q1]
   exact h4 e
  |_=>simp [CV.po] at h9
theorem zI2 (hm:MemOK F N0 (st.fr::st.up) pl w) {v:Value} {x:CV} {y:PV} {lent:Bool} (h:zDM st x=some (y,lent)) (hF:∀k,F' k→Own F pl k) (hl:lent=true→∀k,¬F' k) (hv:zAv F (st.fr::st.up) pl w v x):RepP (Own F' zAg) w v y:=by
 have own:∀k,Own F' zAg k→F' k:=fun k h=>h.elim id (fun ⟨_,_,_,h⟩=>by cases h)
 have hP:∀{u x},RepP (Own F pl) w u x→RepP (Own F' zAg) w u x:=fun {u x} h=>h.step (fun _ _ _=>rfl) (Nat.le_refl _) (fun k hk=> .inl (hF k (own k hk)))
 unfold zDM at h
 split at h
 ·cases h
  have hv:RepP (Own F pl) w v _:=hv
  exact hP hv.weak
 ·rename_i d n g m
  split at h
  ·rename_i g' sz ty rows hB
   split at h
   ·rename_i hc
    obtain ⟨rfl,rfl⟩:=hc
    cases h
    exact zC8 hm hv hB rfl (fun b s _ hk=>hl rfl b (own b hk)) (fun h=>hP h)
   ·cases h
  ·cases h
 ·cases h
theorem zE1 (hm:MemOK F N0 (st.fr::st.up) pl w) (hF:∀k,F' k→Own F pl k):∀{cs:List CV} {ps:List PV} {lent:Bool},zBV st cs=some (ps,lent)→(lent=true→∀k,¬F' k)→
  ps.length=cs.length∧∀(i:Nat) p u c,ps[i]?=some p→cs[i]?=some c→zAv F (st.fr::st.up) pl w u c→RepP (Own F' zAg) w u p
 | [],ps,lent,h,hl=>by
  simp only [zBV,Option.some.injEq,Prod.mk.injEq] at h
  obtain ⟨rfl,rfl⟩:=h
  exact ⟨rfl,fun i p u c hp=>by simp at hp⟩
 |x::r,ps,lent,h,hl=>by
  simp only [zBV,Option.bind_eq_some_iff] at h
  obtain ⟨⟨a,p⟩,h1,⟨b,q⟩,h2,h3⟩:=h
  simp only [Option.some.injEq,Prod.mk.injEq] at h3
  obtain ⟨rfl,rfl⟩:=h3
  obtain ⟨k1,k2⟩:=zE1 hm hF h2 (fun e=>hl (by simp [e]))
  refine ⟨by simp [k1],fun i p' u c hp hc hr=>?_⟩
  cases i with
  |zero=>
   simp only [List.getElem?_cons_zero,Option.some.injEq] at hp hc
   subst hp;subst hc
   exact zI2 hm h1 hF (fun e=>hl (by simp [e])) hr
  |succ i=>exact k2 i p' u c (by simpa using hp) (by simpa using hc) hr
theorem zGw (hm:MemOK F N0 (st.fr::st.up) pl w) {v:Value} {x y:Cap} {lent:Bool} (h:zBO st x=some (y,lent)) (hF:∀k,F' k→Own F pl k) (hl:lent=true→∀k,¬F' k) (hv:zBi F (st.fr::st.up) pl w v x):zBi F' [] zAg w v y:=by
 have own:∀k,Own F' zAg k→F' k:=fun k h=>h.elim id (fun ⟨_,_,_,h⟩=>by cases h)
 have hP:∀{u x},RepP (Own F pl) w u x→RepP (Own F' zAg) w u x:=fun {u x} h=>h.step (fun _ _ _=>rfl) (Nat.le_refl _) (fun k hk=> .inl (hF k (own k hk)))
 cases x with
 |p z=>cases h;exact hP hv
 |rp row=>cases h;exact RepR.same hv (fun k d n s hp=>by cases hp) hP
 |ptr d n g=>
  simp only [zBO] at h
  split at h
  ·rename_i g' sz ty cells hB
   split at h
   ·rename_i hg
    subst hg
    obtain ⟨⟨r,q⟩,h1,h2⟩:=Option.map_eq_some_iff.1 h
    cases h2
    obtain ⟨k1,k2⟩:=zE1 hm hF h1 hl
    obtain ⟨_,B,e1,e2,e3⟩:=hv
    have e1:some B=some _:=e1.symm.trans hB
    cases e1
    obtain ⟨b,s,hp,rfl⟩:=e3 rfl
    obtain ⟨b',us,m1,m2,m3,m4⟩:=hm.blk d n _ hB
    have:b'=b:=by rw [hp] at m1;cases m1;rfl
    subst this
    refine ⟨⟨b',0,none⟩,by rw [zBQ],fun _=>⟨fun d n s hp=>(by cases hp),(Array.getElem?_eq_some_iff.1 m2).1⟩,fun i x hx=>?_⟩
    have hi:i<cells.length:=by rw [←k1];exact (List.getElem?_eq_some_iff.1 hx).1
    obtain ⟨u,hu⟩:=zAT (l:=us.toList) (i:=i) (by rw [m3.1];exact hi)
    refine ⟨u,?_,k2 i x u _ hx (List.getElem?_eq_getElem hi) (m3.2 i u _ hu (List.getElem?_eq_getElem hi)).1⟩
    rw [zBQ,zCk m2,←Array.getElem?_toList,Nat.zero_add]
    exact hu
   ·cases h
  ·cases h
theorem zDX (hm:MemOK F N0 (st.fr::st.up) pl w) (hF:∀k,F' k→Own F pl k):∀{cs ds:List Cap} {lent:Bool},zAi st cs=some (ds,lent)→(lent=true→∀k,¬F' k)→
  ds.length=cs.length∧∀(i:Nat) u c d,cs[i]?=some c→ds[i]?=some d→zBi F (st.fr::st.up) pl w u c→zBi F' [] zAg w u d
 | [],ds,lent,h,hl=>by
  simp only [zAi,Option.some.injEq,Prod.mk.injEq] at h
  obtain ⟨rfl,rfl⟩:=h
  exact ⟨rfl,fun i p u c hp=>by simp at hp⟩
 |x::r,ds,lent,h,hl=>by
  simp only [zAi,Option.bind_eq_some_iff] at h
  obtain ⟨⟨a,p⟩,h1,⟨b,q⟩,h2,h3⟩:=h
  simp only [Option.some.injEq,Prod.mk.injEq] at h3
  obtain ⟨rfl,rfl⟩:=h3
  obtain ⟨k1,k2⟩:=zDX hm hF h2 (fun e=>hl (by simp [e]))
  refine ⟨by simp [k1],fun i u c d hc hd hr=>?_⟩
  cases i with
  |zero=>
   simp only [List.getElem?_cons_zero,Option.some.injEq] at hc hd
   subst hc;subst hd
   exact zGw hm h1 hF (fun e=>hl (by simp [e])) hr
  |succ i=>exact k2 i u c d (by simpa using hc) (by simpa using hd) hr
theorem zGE (hm:MemOK F N0 (st.fr::st.up) pl w) {v:Value} {x y:CV} {lent:Bool} (h:zBY st x=some (y,lent)) (hF:∀k,F' k→Own F pl k) (hl:lent=true→∀k,¬F' k) (hv:zAv F (st.fr::st.up) pl w v x):
  zAv F' [] zAg w v y∧(y= .u→x= .u):=by
 have own:∀k,Own F' zAg k→F' k:=fun k h=>h.elim id (fun ⟨_,_,_,h⟩=>by cases h)
 have hP:∀{u x},RepP (Own F pl) w u x→RepP (Own F' zAg) w u x:=fun {u x} h=>h.step (fun _ _ _=>rfl) (Nat.le_refl _) (fun k hk=> .inl (hF k (own k hk)))
 unfold zBY at h
 split at h
 ·rename_i d n g m
  split at h
  ·rename_i g' sz ty rows hB
   split at h
   ·rename_i hc
    obtain ⟨rfl,rfl⟩:=hc
    cases h
    exact ⟨zC8 hm hv hB rfl (fun b s _ hk=>hl rfl b (own b hk)) (fun h=>hP h),fun h=>by cases h⟩
   ·cases h
  ·cases h
 ·cases h
  have hv:RepP (Own F pl) w v _:=hv
  exact ⟨hP hv.weak,fun h=>by cases h⟩
 ·rename_i f caps
  obtain ⟨⟨l,q⟩,h1,h2⟩:=Option.map_eq_some_iff.1 h
  cases h2
  obtain ⟨vals,e1,e2,e3⟩:=hv
  obtain ⟨k1,k2⟩:=zDX hm hF h1 hl
  refine ⟨⟨vals,e1,e2.trans k1.symm,fun i u c hu hc=>?_⟩,fun h=>by cases h⟩
  have hi:i<caps.length:=by rw [←k1];exact (List.getElem?_eq_some_iff.1 hc).1
  exact k2 i u _ c (List.getElem?_eq_getElem hi) hc (e3 i u _ hu (List.getElem?_eq_getElem hi))
 ·split at h
  ·rename_i hp
   cases h
   refine ⟨?_,id⟩
   cases x with
   |nfn=>exact hv
   |rp row o=>exact RepR.same hv (fun k d n s hp=>by cases hp) hP
   |_=>simp [CV.pure] at hp
  ·cases h
theorem zGF (hm:MemOK F N0 (st.fr::st.up) pl w) (hF:∀k,F' k→Own F pl k):∀{us:List Value} {xs ys:List CV} {lent:Bool},zCM st xs=some (ys,lent)→(lent=true→∀k,¬F' k)→zM F (st.fr::st.up) pl w us xs→zM F' [] zAg w us ys
 |us,[],ys,lent,h,hl,hr=>by
  simp only [zCM,Option.some.injEq,Prod.mk.injEq] at h
  obtain ⟨rfl,rfl⟩:=h
  exact ⟨hr.1,fun i u c hu hc=>by simp at hc⟩
 |us,x::xs,ys,lent,h,hl,hr=>by
  simp only [zCM,Option.bind_eq_some_iff] at h
  obtain ⟨⟨y,p⟩,h1,⟨ys',q⟩,h2,h3⟩:=h
  simp only [Option.some.injEq,Prod.mk.injEq] at h3
  obtain ⟨rfl,rfl⟩:=h3
  match us,hr with
  | [],hr=>exact absurd hr.1 (by simp)
  |u::us,hr=>
   have h4:=hr.2 0 u x rfl rfl
   obtain ⟨h5,h6⟩:=zGE hm h1 hF (fun e=>hl (by simp [e])) h4.1
   have h7:=zGF hm hF h2 (fun e=>hl (by simp [e])) (us:=us) ⟨by simpa using hr.1,fun i u c hu hc=>hr.2 (i+1) u c (by simpa using hu) (by simpa using hc)⟩
   refine ⟨by simp [h7.1],fun i v c hv hc=>?_⟩
   cases i with
   |zero=>
    simp only [List.getElem?_cons_zero,Option.some.injEq] at hv hc
    subst hv;subst hc
    refine ⟨h5,?_⟩
    rcases h4.2 with e|e
    ·subst e
     simp [zBY,CV.pure] at h1
    ·exact .inr e
   |succ i=>exact h7.2 i v c (by simpa using hv) (by simpa using hc)
theorem zI3 (hm:MemOK F N0 (st.fr::st.up) pl w) (hF:∀k,F' k→Own F pl k) {v:Value} {x y:AV} {lent:Bool} (h:zBo st x=some (y,lent)) (hl:lent=true→∀k,¬F' k) (hr:zU F (st.fr::st.up) pl w v x):zU F' [] zAg w v y:=by
 cases x with
 |c x=>
  simp only [zBo,Option.map_eq_some_iff] at h
  obtain ⟨⟨z,p⟩,h1,h2⟩:=h
  simp only [Prod.mk.injEq] at h2
  obtain ⟨rfl,rfl⟩:=h2
  exact (zGE hm h1 hF hl hr).1
 |agg cs=>
  simp only [zBo,Option.map_eq_some_iff] at h
  obtain ⟨⟨z,p⟩,h1,h2⟩:=h
  simp only [Prod.mk.injEq] at h2
  obtain ⟨rfl,rfl⟩:=h2
  obtain ⟨us,h3,h4⟩:=hr
  exact ⟨us,h3,zGF hm hF h1 hl h4⟩
 |tup vs=>simp [zBo] at h
def zAY (F:Nat→Prop) (fs:List Frame) (pl:Pl) (w:World) (us:List Value) (xs:List AV):Prop:=us.length=xs.length∧∀(i:Nat) u x,us[i]?=some u→xs[i]?=some x→zU F fs pl w u x
theorem zE2 (hm:MemOK F N0 (st.fr::st.up) pl w) (hF:∀k,F' k→Own F pl k):∀{us:List Value} {xs ys:List AV} {lent:Bool},zBW st xs=some (ys,lent)→(lent=true→∀k,¬F' k)→zAY F (st.fr::st.up) pl w us xs→zAY F' [] zAg w us ys
 |us,[],ys,lent,h,hl,hr=>by
  simp only [zBW,Option.some.injEq,Prod.mk.injEq] at h
  obtain ⟨rfl,rfl⟩:=h
  exact ⟨hr.1,fun i u c hu hc=>by simp at hc⟩
 |us,x::xs,ys,lent,h,hl,hr=>by
  simp only [zBW,Option.bind_eq_some_iff] at h
  obtain ⟨⟨y,p⟩,h1,⟨ys',q⟩,h2,h3⟩:=h
  simp only [Option.some.injEq,Prod.mk.injEq] at h3
  obtain ⟨rfl,rfl⟩:=h3
  match us,hr with
  | [],hr=>exact absurd hr.1 (by simp)
  |u::us,hr=>
   have h5:=zI3 hm hF h1 (fun e=>hl (by simp [e])) (hr.2 0 u x rfl rfl)
   have h7:=zE2 hm hF h2 (fun e=>hl (by simp [e])) (us:=us) ⟨by simpa using hr.1,fun i u c hu hc=>hr.2 (i+1) u c (by simpa using hu) (by simpa using hc)⟩
   refine ⟨by simp [h7.1],fun i v c hv hc=>?_⟩
   cases i with
   |zero=>
    simp only [List.getElem?_cons_zero,Option.some.injEq] at hv hc
    subst hv;subst hc
    exact h5
   |succ i=>exact h7.2 i v c (by simpa using hv) (by simpa using hc)
def zBS (G:Nat→Option Obj) (P:Program) (run:zZ):Prop:=
 ∀f args up r,run f args up=some r→∀F (N0:Base G) pl w vals,MemOK F N0 up pl w→N0.n≤w.heap.size→zAY F up pl w vals args→Goes P f vals.toArray w (RetOK F N0 up pl w r)
theorem zI4 {v:Value} {c:Cap} (h:zBi F fs pl w v c):zU F fs pl w v c.av:=by
 cases c with
 |p x=>exact h
 |ptr d n g=>
  obtain ⟨h0,B,h1,h2,h3⟩:=h
  exact ⟨h0,B,h1,h2,fun e=>by
   obtain ⟨b,s,h4,h5⟩:=h3 e
   exact ⟨b,s,h4,.inl ⟨by decide,by simpa using h5⟩⟩⟩
 |rp row=>exact h
theorem zBc {st:St} {d n:Nat} {B:Blk} (hd:d<(st.fr::st.up).length) (d' m:Nat):zB d' m ((st.set d n B).fr::(st.set d n B).up)=if d'=d∧m=n then some B else zB d' m (st.fr::st.up):=by
 have:(st.set d n B).fr::(st.set d n B).up=zAo d n B (st.fr::st.up):=by
  unfold St.set
  split
  ·rename_i e;simp [zAo,e]
  ·rename_i e;simp [zAo,e]
 rw [this,zy _ _ hd]
theorem zCZ (st:St) (d n:Nat) (B:Blk):(st.set d n B).up.length=st.up.length:=by
 unfold St.set
 split
 ·rfl
 ·exact zBj _
theorem zE3 (hP:∀{u x},RepP (Own F pl) w u x→RepP (Own F' pl1) w u x):∀{cs ds:List CV} {us:List Value},zGl cs=some ds→zM F fs pl w us cs→zM F' fs' pl1 w us ds
 | [],ds,us,h,hr=>by cases h;exact ⟨hr.1,fun i u c hu hc=>by simp at hc⟩
 |c::cs,ds,us,h,hr=>by
  cases c with
  |p x=>
   obtain ⟨ds',h1,rfl⟩:=Option.map_eq_some_iff.1 h
   cases us with
   |nil=>have:=hr.1;simp at this
   |cons u us=>
    have ih:=zE3 hP h1 (us:=us) ⟨by have:=hr.1;simpa using this,fun i v d hv hd=>hr.2 (i+1) v d (by simpa using hv) (by simpa using hd)⟩
    obtain ⟨h2,h3⟩:=hr.2 0 u _ rfl rfl
    refine ⟨by have:=ih.1;simp [this],fun i v d hv hd=>?_⟩
    cases i with
    |zero=>
     cases hv;cases hd
     have h2:RepP (Own F pl) w u x:=h2
     exact ⟨(hP h2).weak,.inr h2.one.1⟩
    |succ i=>exact ih.2 i v d (by simpa using hv) (by simpa using hd)
  |_=>cases h
theorem zE4 (hP:∀{u x},RepP (Own F pl) w u x→RepP (Own F' pl1) w u x) {v:Value} {x y:AV} (h:zC4 x=some y) (hr:zU F fs pl w v x):zU F' fs' pl1 w v y:=by
 unfold zC4 at h
 split at h
 ·split at h
  ·cases h
  cases h
  have hr:RepP (Own F pl) w v _:=hr
  exact (hP hr).weak
 ·obtain ⟨ds,h1,rfl⟩:=Option.map_eq_some_iff.1 h
  obtain ⟨us,rfl,h2⟩:=hr
  exact ⟨us,rfl,zE3 hP h1 h2⟩
 ·cases h
theorem zED (hP:∀{u x},RepP (Own F pl) w u x→RepP (Own F' pl1) w u x):∀{us:List Value} {xs ys:List AV},zCe xs=some ys→zAY F fs pl w us xs→zAY F' fs' pl1 w us ys
 |us,[],ys,h,hr=>by cases h;exact ⟨hr.1,fun i u c hu hc=>by simp at hc⟩
 |us,x::xs,ys,h,hr=>by
  simp only [zCe,Option.bind_eq_some_iff,Option.map_eq_some_iff] at h
  obtain ⟨a,h1,r,h2,rfl⟩:=h
  cases us with
  |nil=>have:=hr.1;simp at this
  |cons u us=>
   have ih:=zED hP h2 (us:=us) ⟨by have:=hr.1;simpa using this,fun i v d hv hd=>hr.2 (i+1) v d (by simpa using hv) (by simpa using hd)⟩
   refine ⟨by have:=ih.1;simp [this],fun i v d hv hd=>?_⟩
   cases i with
   |zero=>cases hv;cases hd;exact zE4 hP h1 (hr.2 0 u x rfl rfl)
   |succ i=>exact ih.2 i v d (by simpa using hv) (by simpa using hd)
structure LentB (st:St) (a a':AV) (d n:Nat) (B:Blk):Prop where
 blk:∃B0,st.get d n=some B0∧B={B0 with g:=0}∧(match B0.k with| .row _=>True| .box cells=>cells.all isP=true| .dead=>False)
 arg:∀{F F':Nat→Prop} {pl pl1:Pl} {w:World} {v:Value},pl1 0 0=pl d n→zU F (st.fr::st.up) pl w v a→zU F' [[(0,B)]] pl1 w v a'
theorem zI5 {x y:AV} {d n:Nat} {B:Blk} (h:zBZ st x=some (y,d,n,B)):LentB st x y d n B:=by
 unfold zBZ at h
 split at h
 ·split at h
  ·rename_i g' sz ty rows hB
   split at h
   ·rename_i hc
    cases h
    refine ⟨⟨_,hB,rfl,trivial⟩,fun {F F' pl pl1 w v} hp hr=>?_⟩
    obtain ⟨h1,B1,h2,h3,h4⟩:=hr
    have h2:some B1=some _:=h2.symm.trans hB
    cases h2
    refine ⟨h1,⟨0,sz,ty,.row rows⟩,by simp [zB,zF],Nat.le_refl _,fun _=>?_⟩
    rw [hp]
    exact h4 hc.1
   ·cases h
  ·cases h
 ·split at h
  ·rename_i d' n' g g' sz ty cells hB
   split at h
   ·rename_i hc
    cases h
    refine ⟨⟨_,hB,rfl,hc.2⟩,fun {F F' pl pl1 w v} hp hr=>?_⟩
    obtain ⟨h1,B1,h2,h3,h4⟩:=hr
    have h2:some B1=some _:=h2.symm.trans hB
    cases h2
    refine ⟨h1,⟨0,sz,ty,.box cells⟩,by simp [zB,zF],Nat.le_refl _,fun _=>?_⟩
    rw [hp]
    simpa using h4 hc.1
   ·cases h
  ·cases h
 ·cases h
theorem zGG:∀{xs ys:List AV} {d n:Nat} {B:Blk},zBE st xs=some (ys,d,n,B)→(∃a a',LentB st a a' d n B)∧
  ∀{F F':Nat→Prop} {pl pl1:Pl} {w:World} {us:List Value},pl1 0 0=pl d n→(∀{u x},RepP (Own F pl) w u x→RepP (Own F' pl1) w u x)→zAY F (st.fr::st.up) pl w us xs→zAY F' [[(0,B)]] pl1 w us ys
 | [],ys,d,n,B,h=>by cases h
 |x::xs,ys,d,n,B,h=>by
  simp only [zBE] at h
  split at h
  ·rename_i a d' n' B' hx
   obtain ⟨r,h1,h2⟩:=Option.map_eq_some_iff.1 h
   cases h2
   have hl:=zI5 hx
   refine ⟨⟨_,_,hl⟩,fun {F F' pl pl1 w us} hp hP hr=>?_⟩
   cases us with
   |nil=>have:=hr.1;simp at this
   |cons u us=>
    have ih:=zED hP (fs':= [[(0,B)]]) h1 (us:=us) ⟨by have:=hr.1;simpa using this,fun i v d hv hd=>hr.2 (i+1) v d (by simpa using hv) (by simpa using hd)⟩
    refine ⟨by have:=ih.1;simp [this],fun i v e hv he=>?_⟩
    cases i with
    |zero=>cases hv;cases he;exact hl.arg hp (hr.2 0 u x rfl rfl)
    |succ i=>exact ih.2 i v e (by simpa using hv) (by simpa using he)
  ·simp only [Option.bind_eq_some_iff,Option.map_eq_some_iff] at h
   obtain ⟨a,h1,⟨r,q⟩,h2,h3⟩:=h
   cases h3
   obtain ⟨g1,g2⟩:=zGG h2
   refine ⟨g1,fun {F F' pl pl1 w us} hp hP hr=>?_⟩
   cases us with
   |nil=>have:=hr.1;simp at this
   |cons u us=>
    have ih:=g2 hp hP (us:=us) ⟨by have:=hr.1;simpa using this,fun i v d hv hd=>hr.2 (i+1) v d (by simpa using hv) (by simpa using hd)⟩
    refine ⟨by have:=ih.1;simp [this],fun i v e hv he=>?_⟩
    cases i with
    |zero=>cases hv;cases he;exact zE4 hP h1 (hr.2 0 u x rfl rfl)
    |succ i=>exact ih.2 i v e (by simpa using hv) (by simpa using he)
theorem zDr {φ:CV→CV} (hφ:∀x,φ (.p x)= .p x) {v:AV} (h:∀c∈v.cvs,isP c=true):v.map φ=v:=by
 have key:∀cs:List CV,(∀c∈cs,isP c=true)→cs.map φ=cs:=fun cs h=>by
  conv=>rhs;rw [←List.map_id cs]
  refine List.map_congr_left fun c hc=>?_
  have:=h c hc
  cases c with
  |p x=>exact hφ x
  |_=>simp [isP] at this
 cases v with
 |c x=>
  have:=key [x] (fun c hc=>h c hc)
  simp only [List.map_cons,List.map_nil,List.cons.injEq,and_true] at this
  simp [AV.map,this]
 |agg cs=>simp only [AV.map];rw [key cs h]
 |tup vs=>
  simp only [AV.map]
  congr 1
  conv=>rhs;rw [←List.map_id vs]
  refine List.map_congr_left fun p hp=>?_
  obtain ⟨b,cs⟩:=p
  simp only [id]
  rw [key cs fun c hc=>h c (by simp only [AV.cvs,List.mem_flatMap];exact ⟨_,hp,hc⟩)]
theorem zEE {u:Value} {v:AV} (hv:∀c∈v.cvs,isP c=true) {ww ww':World} (hP:∀{u p},RepP (Own F pl) ww u p→RepP (Own F' pl') ww' u p) (h:zU F fs pl ww u v):zU F' fs' pl' ww' u v:=by
 have:=zBJ (φ:=id) (F':=F') (fs':=fs') (pl':=pl') (ww':=ww') (fun u c hc h=>by
  have hp:=hv c hc
  cases c with
  |p x=>exact hP h
  |_=>simp [isP] at hp) (fun c h=>h) h
 have e:v.map id=v:=by cases v<;>simp [AV.map]
 rwa [e] at this
theorem zI6 {run:zZ} (hS:zBS G P run) (hr:Rel F N0 T pl st a w) {f:FuncId} {args:List AV} {vals:List Value} {dst:Nat} {v:AV} (ha:zAY F (st.fr::st.up) pl w vals args) (h:((zBE st args).bind fun (args',d,n,B)=>(run f args' [[(0,B)]]).bind fun r=>zDN st dst d n B r)=some (v,st')):
  Goes P f vals.toArray w fun u w'=>Post F N0 pl st w v st' u w'∧∀args' d n B,zBE st args=some (args',d,n,B)→KeepB (fun k=>∀s,pl d n≠some (k,s)) w w':=by
 obtain ⟨⟨args',d,n,B⟩,h1,h⟩:=Option.bind_eq_some_iff.1 h
 obtain ⟨r,h2,h⟩:=Option.bind_eq_some_iff.1 h
 obtain ⟨⟨_,_,hLB⟩,hLA⟩:=zGG h1
 obtain ⟨B0,hB0,rfl,hkind⟩:=hLB.blk
 have hB0:zB d n (st.fr::st.up)=some B0:=hB0
 let pl1:Pl:=fun d' n'=>if d'=0∧n'=0 then pl d n else none
 let F':Nat→Prop:=fun k=>Own F pl k∧∀s,pl d n≠some (k,s)
 have p0:pl1 0 0=pl d n:=by simp [pl1]
 have p1:∀{d' n' x},pl1 d' n'=some x→d'=0∧n'=0∧pl d n=some x:=fun {d' n' x} h=>by
  simp only [pl1] at h
  split at h
  ·rename_i e;exact ⟨e.1,e.2,h⟩
  ·cases h
 have own1:∀k,Own F' pl1 k→Own F pl k:=fun k h=>by
  rcases h with h|⟨d',n',s,h⟩
  ·exact h.1
  ·exact .inr ⟨d,n,s,(p1 h).2.2⟩
 have own2:∀k,Own F pl k→Own F' pl1 k:=fun k h=>by
  by_cases e:∃s,pl d n=some (k,s)
  ·obtain ⟨s,e⟩:=e
   exact .inr ⟨0,0,s,p0.trans e⟩
  ·exact .inl ⟨h,fun s hs=>e ⟨s,hs⟩⟩
 have hP1:∀{u x},RepP (Own F pl) w u x→RepP (Own F' pl1) w u x:=fun {u x} h=>h.step (fun _ _ _=>rfl) (Nat.le_refl _) fun k hk=> .inl (own1 k hk)
 have hm1:MemOK F' N0 [[(0,{B0 with g:=0})]] pl1 w:=by
  refine ⟨fun d' n' k s h=>?_,fun d1 n1 d2 n2 k s s' h1 h2=>?_,fun d' n' B hB=>?_,fun k hk=>?_,hr.mem.fix⟩
  ·obtain ⟨rfl,rfl,h3⟩:=p1 h
   obtain ⟨g1,g2,_,_⟩:=hr.mem.live d n k s h3
   exact ⟨g1,g2,fun hk=>hk.2 s h3,{B0 with g:=0},by simp [zB,zF]⟩
  ·obtain ⟨rfl,rfl,_⟩:=p1 h1
   obtain ⟨rfl,rfl,_⟩:=p1 h2
   exact ⟨rfl,rfl⟩
  ·have hlt:=zK hB
   have hd:d'=0:=by simp at hlt;exact hlt
   subst hd
   simp only [zB,List.length_nil,if_true,zF] at hB
   split at hB
   ·rename_i e
    subst e
    cases hB
    have hb:=hr.mem.blk d n B0 hB0
    unfold zAD at hb⊢
    simp only
    cases hk:B0.k with
    |box cells=>
     rw [hk] at hb hkind
     obtain ⟨b,us,g1,g2,g3,g4⟩:=hb
     exact ⟨b,us,p0.trans g1,g2,zBR (fun h=>hP1 h) rfl rfl hkind g3,zCD hkind _⟩
    |row rows=>
     rw [hk] at hb
     rcases hb with ⟨g1,g2⟩|⟨b,s,us,g1,g2,g3,g4,g5,g6⟩
     ·exact .inl ⟨g1,p0.trans g2⟩
     ·exact .inr ⟨b,s,us,p0.trans g1,g2,g3,g4,g5,fun j e o x he hx=>by
       obtain ⟨v,hv,hrr⟩:=g6 j e o x he hx
       exact ⟨v,hv,hP1 hrr⟩⟩
    |dead=>rw [hk] at hkind;exact hkind.elim
   ·cases hB
  ·rcases hk.1 with h|⟨d',n',s,h⟩
   ·exact hr.mem.fsz k h
   ·exact (hr.mem.live d' n' k s h).2.1
 refine (hS f args' _ r h2 F' N0 pl1 w _ hm1 hr.low (hLA p0 hP1 ha)).mono fun u w' hret=>?_
 obtain ⟨⟨pl',r1,r2,r3⟩,r4,r5⟩:=hret
 unfold zDN at h
 split at h
 ·rename_i fr' hup
  split at h
  ·rename_i B' B0' hB' hB0'
   have hB0':zB d n (st.fr::st.up)=some B0':=hB0'
   rw [hB0] at hB0'
   cases hB0'
   split at h
   ·rename_i hc
    obtain ⟨c1,cty,csz,c2,c3,c4⟩:=hc
    cases h
    have hrows:r.rows= []:=by simpa using c2
    rw [hup] at r1 r2 r3
    rw [hrows] at r1 r2
    have hD:d<(st.fr::st.up).length:=zK hB0
    obtain ⟨B1,q1,q3⟩:=r3.later.blk 0 0 {B0 with g:=0} (by simp [zB,zF])
    have hB1:B1=B':=by
     have:zB 0 0 [fr']=some B':=by simpa [zB] using hB'
     rw [this] at q1
     exact (Option.some.inj q1).symm
    subst hB1
    obtain ⟨_,q4,q5⟩:=q3 c1
    have q4:pl' 0 0=pl d n:=q4.trans p0
    have q5:B1.sz=B0.sz:=q5
    have hstep:Step pl w w':=⟨r3.step.os,r3.step.tape,r3.step.output,r3.step.size,fun k hk hn=>r3.step.block k hk fun d' n' s h=>hn d n s (p1 h).2.2⟩
    have hK:Keep F (st.fr::st.up) ((st.set d n {B0 with k:=B1.k}).fr::(st.set d n {B0 with k:=B1.k}).up) pl pl w w':=by
     refine ⟨hstep,by simp [zCZ],fun d' n' b hb=>?_,fun d' n' b s h=> .inl ⟨d',n',s,h⟩⟩
     rw [zBc hD]
     by_cases e:d'=d∧n'=n
     ·obtain ⟨rfl,rfl⟩:=e
      rw [hB0] at hb
      cases hb
      exact ⟨{B0 with k:=B1.k},by rw [if_pos ⟨rfl,rfl⟩],Nat.le_refl _,fun _=>⟨rfl,rfl⟩⟩
     ·exact ⟨b,by rw [if_neg e];exact hb,Nat.le_refl _,fun _=>⟨rfl,rfl⟩⟩
    have own3:∀k,Own F pl k→Own F' pl' k:=fun k h=>by
     by_cases e:∃s,pl d n=some (k,s)
     ·obtain ⟨s,e⟩:=e
      exact .inr ⟨0,0,s,q4.trans e⟩
     ·exact .inl ⟨h,fun s hs=>e ⟨s,hs⟩⟩
    have hP2:∀{u x},RepP (Own F' pl') w' u x→RepP (Own F pl) w' u x:=fun {u x} h=>h.step (fun _ _ _=>rfl) (Nat.le_refl _) fun k hk=> .inl (own3 k hk)
    have hblk:=r2.blk 0 0 B1 (by simp only [zf,zB,List.length_cons,List.length_nil,Nat.zero_add,Nat.zero_ne_one,if_false,if_true];exact hB')
    have hty:∀us b,w'.heap[b]?=some (.cells us B1.ty (0,0))→(∃s,pl d n=some (b,s))→w'.heap[b]?=some (.cells us B1.ty (0,0)):=fun us b h _=>h
    refine ⟨?_,fun args2 d2 n2 B2 h12=>by
     rw [h1] at h12
     cases h12
     exact ⟨hstep.size,fun k hk hn=>r3.step.block k hk fun d' n' s h=>hn s (p1 h).2.2⟩⟩
    refine ⟨⟨pl,?_,⟨fun d' n' k s h=>?_,hr.mem.inj,fun d' n' Bx hBx=>?_,fun k hk=>Nat.lt_of_lt_of_le (hr.mem.fsz k hk) hstep.size,zBa hr.mem hstep.block⟩,hK⟩,zA9 _ _ _ _⟩
    ·have hfl:∀c∈r.v.cvs,isP c=true:=fun c hc=>List.all_eq_true.1 c3 c hc
     rw [zDr (fun x=>rfl) hfl]
     rw [zDr (fun x=>rfl) hfl] at r1
     exact zEE hfl (fun h=>hP2 h) r1
    ·obtain ⟨g1,g2,g3,Bq,g4⟩:=hr.mem.live d' n' k s h
     refine ⟨g1,Nat.lt_of_lt_of_le g2 hstep.size,g3,?_⟩
     rw [zBc hD]
     split
     ·exact ⟨_,rfl⟩
     ·exact ⟨Bq,g4⟩
    ·rw [zBc hD] at hBx
     split at hBx
     ·rename_i e
      obtain ⟨rfl,rfl⟩:=e
      cases hBx
      unfold zAD at hblk⊢
      simp only
      cases hk:B1.k with
      |box cells=>
       rw [hk] at hblk c4
       obtain ⟨b,us,g1,g2,g3,g4⟩:=hblk
       have hp:cells.all isP=true:=by
        cases hk0:B0.k with
        |box c0=>rw [hk0] at c4;exact c4
        |row r0=>rw [hk0] at c4;cases c4
        |dead=>rw [hk0] at c4;cases c4
       exact ⟨b,us,q4.symm.trans g1,by rw [←cty];exact g2,zBR (fun h=>hP2 h) rfl rfl hp g3,zCD hp _⟩
      |row rows=>
       rw [hk] at hblk
       rcases hblk with ⟨g1,g2⟩|⟨b,s,us,g1,g2,g3,g4,g5,g6⟩
       ·exact .inl ⟨g1,q4.symm.trans g2⟩
       ·exact .inr ⟨b,s,us,q4.symm.trans g1,by rw [←cty];exact g2,g3,by rw [←csz];exact g4,fun e he=>by rw [←csz];exact g5 e he,fun j e o x he hx=>by
         obtain ⟨v,hv,hrr⟩:=g6 j e o x he hx
         exact ⟨v,by rw [←csz];exact hv,hP2 hrr⟩⟩
      |dead=>
       rw [hk] at c4
       cases hk0:B0.k with
       |box c0=>rw [hk0] at c4;cases c4
       |row r0=>rw [hk0] at c4;cases c4
       |dead=>rw [hk0] at c4;cases c4
     ·rename_i e
      refine zBH hK rfl (fun b s h=>r3.step.block b (hr.mem.live d' n' b s h).2.1 fun d2 n2 s2 h2=>?_) (hr.mem.blk d' n' Bx hBx)
      obtain ⟨_,_,h3⟩:=p1 h2
      exact e (hr.mem.inj _ _ _ _ b s s2 h h3)
   ·cases h
  ·cases h
 ·cases h
theorem zEF {d0 n0 g0:Nat}:∀{cells l:List CV} {d n g m:Nat},zBp d0 n0 g0 cells=some (l,d,n,g,m)→∃i:Nat,cells[i]?=some (.own d n g m)∧l[i]?=some (.own 0 1 1 m)∧l.length=cells.length∧∀j,j≠i→(l[j]?=cells[j]?∧∀c,cells[j]?=some c→isP c=true)∨(cells[j]?=some (.ptr d0 n0 g0 0 KO)∧l[j]?=some (.ptr 0 0 0 0 KO))
 | [],l,d,n,g,m,h=>by cases h
 |c::r,l,d,n,g,m,h=>by
  cases c with
  |p x=>
   simp only [zBp,Option.map_eq_some_iff] at h
   obtain ⟨⟨l',q⟩,h1,h2⟩:=h
   simp only [Prod.mk.injEq] at h2
   obtain ⟨rfl,rfl⟩:=h2
   obtain ⟨i,h3,h4,h5,h6⟩:=zEF h1
   refine ⟨i+1,by simpa using h3,by simpa using h4,by simp [h5],fun j hj=>?_⟩
   cases j with
   |zero=>exact .inl ⟨rfl,fun c hc=>by simp at hc;subst hc;rfl⟩
   |succ j=>
    rcases h6 j (by omega) with ⟨h7,h8⟩|⟨h7,h8⟩
    ·exact .inl ⟨by simpa using h7,fun c hc=>h8 c (by simpa using hc)⟩
    ·exact .inr ⟨by simpa using h7,by simpa using h8⟩
  |ptr d' n' g' j' o'=>
   simp only [zBp] at h
   split at h
   ·rename_i he
    obtain ⟨rfl,rfl,rfl,rfl,rfl⟩:=he
    obtain ⟨⟨l',q⟩,h1,h2⟩:=Option.map_eq_some_iff.1 h
    simp only [Prod.mk.injEq] at h2
    obtain ⟨rfl,rfl⟩:=h2
    obtain ⟨i,h3,h4,h5,h6⟩:=zEF h1
    refine ⟨i+1,by simpa using h3,by simpa using h4,by simp [h5],fun j hj=>?_⟩
    cases j with
    |zero=>exact .inr ⟨rfl,rfl⟩
    |succ j=>
     rcases h6 j (by omega) with ⟨h7,h8⟩|⟨h7,h8⟩
     ·exact .inl ⟨by simpa using h7,fun c hc=>h8 c (by simpa using hc)⟩
     ·exact .inr ⟨by simpa using h7,by simpa using h8⟩
   ·cases h
  |own d' n' g' m'=>
   simp only [zBp] at h
   split at h
   ·rename_i hr
    cases h
    refine ⟨0,rfl,rfl,by simp,fun j hj=>?_⟩
    cases j with
    |zero=>exact absurd rfl hj
    |succ j=>exact .inl ⟨by simp,fun c hc=>List.all_eq_true.1 hr c (List.mem_of_getElem? (by simpa using hc))⟩
   ·cases h
  |_=>cases h
theorem zCo {d0 n0 g0 d n g g1:Nat}:∀{cells l:List CV},zDx d0 n0 g0 d n g g1 cells=some l→l.length=cells.length∧∀(j:Nat) c,cells[j]?=some c→(∃x,c= .p x∧l[j]?=some (.p x))∨(∃m,c= .own 0 1 g1 m∧l[j]?=some (.own d n g m))∨(c= .ptr 0 0 0 0 KO∧l[j]?=some (.ptr d0 n0 g0 0 KO))
 | [],l,h=>by cases h;exact ⟨rfl,fun j c hc=>by simp at hc⟩
 |c::r,l,h=>by
  unfold zDx at h
  split at h
  ·rename_i e;cases e
  ·rename_i x r' e
   cases e
   obtain ⟨l',h1,rfl⟩:=Option.map_eq_some_iff.1 h
   obtain ⟨h2,h3⟩:=zCo h1
   refine ⟨by simp [h2],fun j c hc=>?_⟩
   cases j with
   |zero=>simp at hc;subst hc;exact .inl ⟨x,rfl,rfl⟩
   |succ j=>simpa using h3 j c (by simpa using hc)
  ·rename_i g' m r' e
   cases e
   split at h
   ·rename_i eg
    subst eg
    obtain ⟨l',h1,rfl⟩:=Option.map_eq_some_iff.1 h
    obtain ⟨h2,h3⟩:=zCo h1
    refine ⟨by simp [h2],fun j c hc=>?_⟩
    cases j with
    |zero=>simp at hc;subst hc;exact .inr (.inl ⟨m,rfl,rfl⟩)
    |succ j=>simpa using h3 j c (by simpa using hc)
   ·cases h
  ·rename_i o r' e
   cases e
   split at h
   ·rename_i eo
    subst eo
    obtain ⟨l',h1,rfl⟩:=Option.map_eq_some_iff.1 h
    obtain ⟨h2,h3⟩:=zCo h1
    refine ⟨by simp [h2],fun j c hc=>?_⟩
    cases j with
    |zero=>simp at hc;subst hc;exact .inr (.inr ⟨rfl,rfl⟩)
    |succ j=>simpa using h3 j c (by simpa using hc)
   ·cases h
  ·cases h
theorem zGx (hm:MemOK F N0 (st.fr::st.up) pl w) (hN:N0.n≤w.heap.size) {v:Value} {x y:AV} (h:zAC st x=some (y,st')) (hv:zU F (st.fr::st.up) pl w v x):
  ∃pl',Same F N0 pl st st' w pl'∧zU F (st'.fr::st'.up) pl' w v y∧∀c∈y.cvs,isP c=true:=by
 cases x with
 |c x=>
  simp only [zAC,Option.map_eq_some_iff,Prod.mk.injEq,Prod.exists] at h
  obtain ⟨p,s,h1,rfl,rfl⟩:=h
  obtain ⟨pl',h2,h3⟩:=zCW hm hN h1 hv
  exact ⟨pl',h2,h3,fun c hc=>by simp [AV.cvs] at hc;subst hc;rfl⟩
 |agg cs=>
  simp only [zAC,Option.map_eq_some_iff,Prod.mk.injEq,Prod.exists] at h
  obtain ⟨ps,s,h1,rfl,rfl⟩:=h
  obtain ⟨us,rfl,h4⟩:=hv
  obtain ⟨pl',h2,h3⟩:=zBI hm hN h1 h4
  exact ⟨pl',h2,⟨us,rfl,h3.cs⟩,fun c hc=>by
   simp only [AV.cvs,List.mem_map] at hc
   obtain ⟨p,_,rfl⟩:=hc
   rfl⟩
 |tup vs=>cases h
theorem zDY:∀{xs ys:List AV} {st st':St} {pl:Pl} {us:List Value},MemOK F N0 (st.fr::st.up) pl w→N0.n≤w.heap.size→z8 st xs=some (ys,st')→zAY F (st.fr::st.up) pl w us xs→
  ∃pl',Same F N0 pl st st' w pl'∧zAY F (st'.fr::st'.up) pl' w us ys∧∀y∈ys,∀c∈y.cvs,isP c=true
 | [],ys,st,st',pl,us,hm,hN,h,hv=>by
  simp only [z8,Option.some.injEq,Prod.mk.injEq] at h
  obtain ⟨rfl,rfl⟩:=h
  exact ⟨pl,Same.refl hm,hv,fun y hy=>by cases hy⟩
 |x::xs,ys,st,st',pl,us,hm,hN,h,hv=>by
  simp only [z8,Option.bind_eq_some_iff,Option.map_eq_some_iff,Prod.mk.injEq,Prod.exists] at h
  obtain ⟨y,st1,h1,ys',st2,h2,rfl,rfl⟩:=h
  cases us with
  |nil=>have:=hv.1;simp at this
  |cons u us=>
   obtain ⟨pl1,s1,r1,p1⟩:=zGx hm hN h1 (hv.2 0 u x rfl rfl)
   obtain ⟨pl2,s2,r2,p2⟩:=zDY s1.mem hN h2 (us:=us) ⟨by simpa using hv.1,fun i u' x' hu hx=>s1.keep.repA (hv.2 (i+1) u' x' (by simpa using hu) (by simpa using hx))⟩
   refine ⟨pl2,s1.trans s2,⟨by simp [r2.1],fun i u' x' hu hx=>?_⟩,fun y' hy c hc=>?_⟩
   ·cases i with
    |zero=>cases hu;cases hx;exact s2.keep.repA r1
    |succ i=>exact r2.2 i u' x' (by simpa using hu) (by simpa using hx)
   ·rcases List.mem_cons.1 hy with rfl|hy
    ·exact p1 c hc
    ·exact p2 y' hy c hc
theorem zH1 {x a':AV} {d n d2 n2:Nat} {B R:Blk} (h:zCf st x=some (a',(d,n,B),d2,n2,R)):∃g sz ty cells l g2 m2 sz2 ty2 rows,x= .c (.ptr d n g 0 0)∧st.get d n=some ⟨g,sz,ty,.box cells⟩∧zBp d n g cells=some (l,d2,n2,g2,m2)∧
  st.get d2 n2=some ⟨g2,sz2,ty2,.row rows⟩∧a'= .c (.ptr 0 0 0 0 0)∧B=⟨0,sz,ty,.box l⟩∧R=⟨1,sz2,ty2,.row rows⟩:=by
 unfold zCf at h
 split at h
 ·split at h
  ·rename_i d0 n0 g0 gB sz ty cells hB
   obtain ⟨⟨l,d3,n3,g2,m2⟩,hg,h1⟩:=Option.bind_eq_some_iff.1 h
   simp only at h1
   split at h1
   ·rename_i gR sz2 ty2 rows hR
    split at h1
    ·rename_i hgg
     obtain ⟨rfl,rfl⟩:=hgg
     cases h1
     exact ⟨_,_,_,_,_,_,_,_,_,_,rfl,hB,hg,hR,rfl,rfl,rfl⟩
    ·cases h1
   ·cases h1
  ·cases h
 ·cases h
theorem zE5 {q q2:Nat×Nat×Blk} {r:Res} {v:AV} (h:zDO st q q2 r=some (v,st')):∃fr' sz ty cells g1 sz2 ty2 rows B0 R0 l,r.up= [fr']∧zF 0 fr'=some ⟨0,sz,ty,.box cells⟩∧zF 1 fr'=some ⟨g1,sz2,ty2,.row rows⟩∧st.get q.1 q.2.1=some B0∧st.get q2.1 q2.2.1=some R0∧
  sz=B0.sz∧ty=B0.ty∧r.rows= []∧(∀c∈r.v.cvs,isP c=true)∧zDx q.1 q.2.1 B0.g q2.1 q2.2.1 (R0.g+1) g1 cells=some l∧v=r.v∧st'=(st.set q2.1 q2.2.1 ⟨R0.g+1,sz2,ty2,.row rows⟩).set q.1 q.2.1 {B0 with k:= .box l}:=by
 unfold zDO at h
 split at h
 ·rename_i fr' hup
  split at h
  ·rename_i sz ty cells g1 sz2 ty2 rows B0 R0 h0 h1 hG0 hG1
   split at h
   ·rename_i hc
    obtain ⟨c1,c2,c3,c4⟩:=hc
    obtain ⟨l,hl,h2⟩:=Option.map_eq_some_iff.1 h
    simp only [Prod.mk.injEq] at h2
    exact ⟨_,_,_,_,_,_,_,_,_,_,_,hup,h0,h1,hG0,hG1,c1,c2,by simpa using c3,fun c hc=>List.all_eq_true.1 c4 c hc,hl,h2.1.symm,h2.2.symm⟩
   ·cases h
  ·cases h
 ·cases h
theorem zI7 {run:zZ} (hS:zBS G P run) (hr:Rel F N0 T pl st a w) {f:FuncId} {args:List AV} {vals:List Value} {v:AV} (ha:zAY F (st.fr::st.up) pl w vals args) (h:callN run st f args=some (v,st')):
  Goes P f vals.toArray w fun u w'=>Post F N0 pl st w v st' u w':=by
 cases args with
 |nil=>cases h
 |cons a0 rest=>
 cases vals with
 |nil=>have:=ha.1;simp at this
 |cons v0 vrest=>
 simp only [callN] at h
 obtain ⟨⟨rest',st1⟩,hfr,hxA⟩:=Option.bind_eq_some_iff.1 h
 clear h
 obtain ⟨⟨a',⟨d,n,B⟩,d2,n2,R⟩,hln,hxB⟩:=Option.bind_eq_some_iff.1 hxA
 clear hxA
 obtain ⟨res,hrun,hxC⟩:=Option.bind_eq_some_iff.1 hxB
 clear hxB
 obtain ⟨pl1,s1,ra,rp⟩:=zDY hr.mem hr.low hfr (us:=vrest) ⟨by simpa using ha.1,fun i u x hu hx=>ha.2 (i+1) u x (by simpa using hu) (by simpa using hx)⟩
 have rhead:=s1.keep.repA (ha.2 0 v0 a0 rfl rfl)
 have hm1:=s1.mem
 have hN:=hr.low
 obtain ⟨g,sz,ty,cells,l,g2,m2,sz2,ty2,rows,rfl,hB,hgr,hR,rfl,rfl,rfl⟩:=zH1 hln
 obtain ⟨i0,hi1,hi2,hil,hio⟩:=zEF hgr
 have hB:zB d n (st1.fr::st1.up)=some ⟨g,sz,ty,.box cells⟩:=hB
 have hR:zB d2 n2 (st1.fr::st1.up)=some ⟨g2,sz2,ty2,.row rows⟩:=hR
 have hne:¬(d=d2∧n=n2):=fun e=>by
  obtain ⟨rfl,rfl⟩:=e
  rw [hB] at hR
  cases hR
 let pB:Pl:=fun d' n'=>if d'=0∧n'=0 then pl1 d n else if d'=0∧n'=1 then pl1 d2 n2 else none
 let F':Nat→Prop:=fun k=>Own F pl1 k∧(∀s,pl1 d n≠some (k,s))∧∀s,pl1 d2 n2≠some (k,s)
 have p0:pB 0 0=pl1 d n:=by simp [pB]
 have p1:pB 0 1=pl1 d2 n2:=by simp [pB]
 have px:∀{d' n' x},pB d' n'=some x→d'=0∧((n'=0∧pl1 d n=some x)∨(n'=1∧pl1 d2 n2=some x)):=fun {d' n' x} h=>by
  simp only [pB] at h
  split at h
  ·rename_i e;exact ⟨e.1,.inl ⟨e.2,h⟩⟩
  ·split at h
   ·rename_i e;exact ⟨e.1,.inr ⟨e.2,h⟩⟩
   ·cases h
 have pw:∀{d' n' x},pB d' n'=some x→∃d0 n0,pl1 d0 n0=some x:=fun {d' n' x} h=>by
  rcases (px h).2 with ⟨_,h⟩|⟨_,h⟩
  ·exact ⟨_,_,h⟩
  ·exact ⟨_,_,h⟩
 have own1:∀k,Own F' pB k→Own F pl1 k:=fun k h=>by
  rcases h with h|⟨d',n',s,h⟩
  ·exact h.1
  ·obtain ⟨d0,n0,h0⟩:=pw h
   exact .inr ⟨d0,n0,s,h0⟩
 have hP1:∀{u x},RepP (Own F pl1) w u x→RepP (Own F' pB) w u x:=fun {u x} h=>h.step (fun _ _ _=>rfl) (Nat.le_refl _) fun k hk=> .inl (own1 k hk)
 have hbox:=hm1.blk d n _ hB
 have hrow:=hm1.blk d2 n2 _ hR
 obtain ⟨bb,ub,g1,g2',g3,g4⟩:=hbox
 simp only at g1 g2' g3 g4
 have look0:∀n' Bx,zB 0 n' ([[(0,⟨0,sz,ty,.box l⟩),(1,⟨1,sz2,ty2,.row rows⟩)]]:List Go.Eng.Frame)=some Bx→(n'=0∧Bx=⟨0,sz,ty,.box l⟩)∨(n'=1∧Bx=⟨1,sz2,ty2,.row rows⟩):=fun n' Bx h=>by
  simp only [zB,List.length_nil,if_true,zF] at h
  split at h
  ·rename_i e;cases h;exact .inl ⟨e.symm,rfl⟩
  ·split at h
   ·rename_i e;cases h;exact .inr ⟨e.symm,rfl⟩
   ·cases h
 have hU1:zB 0 1 ([[(0,⟨0,sz,ty,.box l⟩),(1,⟨1,sz2,ty2,.row rows⟩)]]:List Go.Eng.Frame)=some ⟨1,sz2,ty2,.row rows⟩:=by simp [zB,zF]
 have hm2:MemOK F' N0 [[(0,⟨0,sz,ty,.box l⟩),(1,⟨1,sz2,ty2,.row rows⟩)]] pB w:=by
  refine ⟨fun d' n' k s h=>?_,fun e1 m1 e2 m2 k s s' h1 h2=>?_,fun d' n' Bx hBx=>?_,fun k hk=>?_,hm1.fix⟩
  ·obtain ⟨rfl,h3⟩:=px h
   rcases h3 with ⟨rfl,h3⟩|⟨rfl,h3⟩
   ·obtain ⟨q1,q2,_,_⟩:=hm1.live d n k s h3
    exact ⟨q1,q2,fun hk=>hk.2.1 s h3,⟨0,sz,ty,.box l⟩,by simp [zB,zF]⟩
   ·obtain ⟨q1,q2,_,_⟩:=hm1.live d2 n2 k s h3
    exact ⟨q1,q2,fun hk=>hk.2.2 s h3,_,hU1⟩
  ·obtain ⟨rfl,h3⟩:=px h1
   obtain ⟨rfl,h4⟩:=px h2
   refine ⟨rfl,?_⟩
   rcases h3 with ⟨rfl,h3⟩|⟨rfl,h3⟩<;>rcases h4 with ⟨rfl,h4⟩|⟨rfl,h4⟩
   ·rfl
   ·exact absurd (hm1.inj _ _ _ _ k s s' h3 h4) hne
   ·exact absurd (hm1.inj _ _ _ _ k s' s h4 h3) hne
   ·rfl
  ·have hlt:=zK hBx
   have hd:d'=0:=by simp at hlt;exact hlt
   subst hd
   rcases look0 n' Bx hBx with ⟨rfl,rfl⟩|⟨rfl,rfl⟩
   ·refine ⟨bb,ub,by rw [hil];exact p0.trans g1,g2',⟨by rw [hil];exact g3.1,fun j u c hu hc=>?_⟩,fun c hc=>?_⟩
    ·by_cases hj:j=i0
     ·subst hj
      rw [hi2] at hc
      cases hc
      obtain ⟨⟨q1,Bq,q2,q3,q4⟩,q5⟩:=g3.2 j u _ hu hi1
      rw [hR] at q2
      cases q2
      refine ⟨⟨q1,_,hU1,Nat.le_refl _,fun _=>?_⟩,.inr q1⟩
      rw [p1]
      exact q4 rfl
     ·rcases hio j hj with ⟨q1,q2⟩|⟨q1,q2⟩
      ·rw [q1] at hc
       have q3:=q2 c hc
       obtain ⟨q4,q5⟩:=g3.2 j u c hu hc
       cases c with
       |p x=>exact ⟨hP1 q4,q5⟩
       |_=>simp [isP] at q3
      ·rw [q2] at hc
       cases hc
       obtain ⟨⟨z1,Bq,z2,z3,z4⟩,z5⟩:=g3.2 j u _ hu q1
       rw [hB] at z2
       cases z2
       refine ⟨⟨z1,⟨0,sz,ty,.box l⟩,by simp [zB,zF],Nat.le_refl _,fun _=>?_⟩,.inr z1⟩
       rw [p0]
       exact z4 rfl
    ·obtain ⟨j,hj,rfl⟩:=List.getElem_of_mem hc
     have hj2:=List.getElem?_eq_getElem hj
     by_cases e:j=i0
     ·subst e
      rw [hi2] at hj2
      rw [←Option.some.inj hj2]
      simp [CV.dep]
     ·rcases hio j e with ⟨q1,q2⟩|⟨q1,q2⟩
      ·rw [q1] at hj2
       have q3:=q2 _ hj2
       cases hc2:l[j] with
       |p x=>rfl
       |_=>rw [hc2] at q3;simp [isP] at q3
      ·rw [q2] at hj2
       rw [←Option.some.inj hj2]
       simp [CV.dep]
   ·rcases hrow with ⟨q1,q2⟩|⟨b,s,us,q1,q2,q3,q4,q5,q6⟩
    ·exact .inl ⟨q1,p1.trans q2⟩
    ·exact .inr ⟨b,s,us,p1.trans q1,q2,q3,q4,q5,fun j e o x he hx=>by
      obtain ⟨v,hv,hrr⟩:=q6 j e o x he hx
      exact ⟨v,hv,hP1 hrr⟩⟩
  ·rcases hk.1 with h|⟨d',n',s,h⟩
   ·exact hm1.fsz k h
   ·exact (hm1.live d' n' k s h).2.1
 have hargs:zAY F' [[(0,⟨0,sz,ty,.box l⟩),(1,⟨1,sz2,ty2,.row rows⟩)]] pB w (v0::vrest) (.c (.ptr 0 0 0 0 0)::rest'):=by
  refine ⟨by simp [ra.1],fun i u x hu hx=>?_⟩
  cases i with
  |zero=>
   cases hu;cases hx
   obtain ⟨q1,Bq,q2,q3,q4⟩:=rhead
   rw [hB] at q2
   cases q2
   refine ⟨q1,⟨0,sz,ty,.box l⟩,by simp [zB,zF],Nat.le_refl _,fun _=>?_⟩
   obtain ⟨b,s,q5,q6⟩:=q4 rfl
   exact ⟨b,s,p0.trans q5,by simpa using q6⟩
  |succ i=>
   have hx:rest'[i]?=some x:=by simpa using hx
   exact zEE (rp x (List.mem_of_getElem? hx)) (fun h=>hP1 h) (ra.2 i u x (by simpa using hu) hx)
 refine (hS f _ _ res hrun F' N0 pB w _ hm2 hN hargs).mono fun u w' hret=>?_
 obtain ⟨⟨pl',r1,r2,r3⟩,r4,r5⟩:=hret
 obtain ⟨fr',szC,tyC,cellsC,gC,szD,tyD,rowsD,B0,R0,lc,hup,hL0,hL1,hG0,hG1,c1,c2,hrows,c4,hbk,rfl,rfl⟩:=zE5 hxC
 clear hxC
 have hG0:zB d n (st1.fr::st1.up)=some B0:=hG0
 have hG1:zB d2 n2 (st1.fr::st1.up)=some R0:=hG1
 rw [hB] at hG0
 cases hG0
 rw [hR] at hG1
 cases hG1
 simp only at c1 c2 hbk
 subst c1
 subst c2
 rw [hup] at r1 r2 r3
 rw [hrows] at r1 r2
 obtain ⟨k1,k2⟩:=zCo hbk
 have hD:d<(st1.fr::st1.up).length:=zK hB
 have hD2:d2<(st1.fr::st1.up).length:=zK hR
 have top:∀n',zB 0 n' (zf [] 0:: [fr'])=zF n' fr':=fun n'=>by simp [zB,zf]
 have q4:pl' 0 0=pl1 d n:=by
  obtain ⟨b',e1,e2⟩:=r3.later.blk 0 0 ⟨0,szC,tyC,.box l⟩ (by simp [zB,zF])
  have e3:zB 0 0 [fr']=zF 0 fr':=by simp [zB]
  rw [e3,hL0] at e1
  cases e1
  exact (e2 rfl).2.1.trans p0
 let pl2:Pl:=zAe pl1 d2 n2 (pl' 0 1)
 have t2:pl2 d2 n2=pl' 0 1:=zG ..
 have t0:∀d' n',¬(d'=d2∧n'=n2)→pl2 d' n'=pl1 d' n':=fun d' n' e=>zAE pl1 _ e
 have tb:pl2 d n=pl' 0 0:=(t0 d n hne).trans q4.symm
 have out:∀{d' n' k s},pl1 d' n'=some (k,s)→¬(d'=d∧n'=n)→¬(d'=d2∧n'=n2)→F' k:=fun {d' n' k s} h e1 e2=>
  ⟨.inr ⟨d',n',s,h⟩,fun s' h'=>e1 (hm1.inj _ _ _ _ k s s' h h'),fun s' h'=>e2 (hm1.inj _ _ _ _ k s s' h h')⟩
 have outF:∀{k},F k→F' k:=fun {k} h=>⟨.inl h,fun s h'=>(hm1.live d n k s h').2.2.1 h,fun s h'=>(hm1.live d2 n2 k s h').2.2.1 h⟩
 have own3:∀k,Own F pl2 k→Own F' pl' k:=fun k h=>by
  rcases h with h|⟨d',n',s,h⟩
  ·exact .inl (outF h)
  ·by_cases e2:d'=d2∧n'=n2
   ·obtain ⟨rfl,rfl⟩:=e2
    rw [t2] at h
    exact .inr ⟨0,1,s,h⟩
   ·by_cases e1:d'=d∧n'=n
    ·obtain ⟨rfl,rfl⟩:=e1
     rw [tb] at h
     exact .inr ⟨0,0,s,h⟩
    ·rw [t0 d' n' e2] at h
     exact .inl (out h e1 e2)
 have hP2:∀{u x},RepP (Own F' pl') w' u x→RepP (Own F pl2) w' u x:=fun {u x} h=>h.step (fun _ _ _=>rfl) (Nat.le_refl _) fun k hk=> .inl (own3 k hk)
 have hlive:∀{d' n' k s},pl' d' n'=some (k,s)→N0.n≤k∧k<w'.heap.size∧¬F' k:=fun {d' n' k s} h=>by
  obtain ⟨e1,e2,e3,_⟩:=r2.live d' n' k s h
  exact ⟨e1,e2,e3⟩
 have hstep:Step pl1 w w':=⟨r3.step.os,r3.step.tape,r3.step.output,r3.step.size,fun k hk hn=>r3.step.block k hk fun d' n' s h=>by
  obtain ⟨d0,n0,h0⟩:=pw h
  exact hn d0 n0 s h0⟩
 let R2:Blk:=⟨g2+1,szD,tyD,.row rowsD⟩
 let B2:Blk:=⟨g,szC,tyC,.box lc⟩
 have hgetS:∀d' n',zB d' n' (((st1.set d2 n2 R2).set d n B2).fr::((st1.set d2 n2 R2).set d n B2).up)=if d'=d∧n'=n then some B2 else if d'=d2∧n'=n2 then some R2 else zB d' n' (st1.fr::st1.up):=fun d' n'=>by
  rw [zBc (by simpa [zCZ] using hD),zBc hD2]
 have hlenS:(((st1.set d2 n2 R2).set d n B2).fr::((st1.set d2 n2 R2).set d n B2).up).length=(st1.fr::st1.up).length:=by simp [zCZ]
 have hK:Keep F (st1.fr::st1.up) (((st1.set d2 n2 R2).set d n B2).fr::((st1.set d2 n2 R2).set d n B2).up) pl1 pl2 w w':=by
  refine ⟨hstep,hlenS,fun d' n' b hb=>?_,fun d' n' b s h=>?_⟩
  ·rw [hgetS]
   by_cases e1:d'=d∧n'=n
   ·obtain ⟨rfl,rfl⟩:=e1
    rw [hB] at hb
    cases hb
    exact ⟨B2,by rw [if_pos ⟨rfl,rfl⟩],Nat.le_refl _,fun _=>⟨t0 _ _ hne,rfl⟩⟩
   ·rw [if_neg e1]
    by_cases e2:d'=d2∧n'=n2
    ·obtain ⟨rfl,rfl⟩:=e2
     rw [hR] at hb
     cases hb
     exact ⟨R2,by rw [if_pos ⟨rfl,rfl⟩],Nat.le_succ _,fun e=>absurd e (Nat.succ_ne_self _)⟩
    ·exact ⟨b,by rw [if_neg e2];exact hb,Nat.le_refl _,fun _=>⟨t0 _ _ e2,rfl⟩⟩
  ·by_cases e2:d'=d2∧n'=n2
   ·obtain ⟨rfl,rfl⟩:=e2
    rw [t2] at h
    rcases r3.later.new 0 1 b s h with ⟨d0,n0,s0,h0⟩|h0
    ·obtain ⟨d3,n3,h3⟩:=pw h0
     exact .inl ⟨d3,n3,s0,h3⟩
    ·exact .inr h0
   ·rw [t0 _ _ e2] at h
    exact .inl ⟨d',n',s,h⟩
 refine ⟨⟨pl2,?_,⟨fun d' n' k s h=>?_,fun e1 m1 e2 m2 k s s' h1 h2=>?_,fun d' n' Bx hBx=>?_,fun k hk=>Nat.lt_of_lt_of_le (hm1.fsz k hk) hstep.size,zBa hm1 hstep.block⟩,s1.keep.trans hK⟩,by rw [zA9,zA9];exact s1.t⟩
 ·have e:∀m,res.v.map (zBA m)=res.v:=fun m=>zDr (fun x=>rfl) c4
  rw [e] at r1
  exact zEE c4 (fun h=>hP2 h) r1
 ·rw [hgetS]
  by_cases e2:d'=d2∧n'=n2
  ·obtain ⟨rfl,rfl⟩:=e2
   rw [t2] at h
   obtain ⟨x1,x2,x3⟩:=hlive h
   refine ⟨x1,x2,fun hF=>x3 (outF hF),R2,?_⟩
   rw [if_neg (fun e=>hne ⟨e.1.symm,e.2.symm⟩),if_pos ⟨rfl,rfl⟩]
  ·rw [t0 _ _ e2] at h
   obtain ⟨x1,x2,x3,Bq,x4⟩:=hm1.live d' n' k s h
   refine ⟨x1,Nat.lt_of_lt_of_le x2 hstep.size,x3,?_⟩
   by_cases e1:d'=d∧n'=n
   ·exact ⟨B2,by rw [if_pos e1]⟩
   ·exact ⟨Bq,by rw [if_neg e1,if_neg e2];exact x4⟩
 ·have mix:∀{d' n' k s s'},pl' 0 1=some (k,s)→pl1 d' n'=some (k,s')→¬(d'=d2∧n'=n2)→False:=fun {d' n' k s s'} h1 h2 e2=>by
   by_cases e1:d'=d∧n'=n
   ·obtain ⟨rfl,rfl⟩:=e1
    rw [←q4] at h2
    have:=(r2.inj _ _ _ _ k s s' h1 h2).2
    omega
   ·exact (hlive h1).2.2 (out h2 e1 e2)
  by_cases x1:e1=d2∧m1=n2<;>by_cases x2:e2=d2∧m2=n2
  ·exact ⟨x1.1.trans x2.1.symm,x1.2.trans x2.2.symm⟩
  ·obtain ⟨rfl,rfl⟩:=x1
   rw [t2] at h1
   rw [t0 _ _ x2] at h2
   exact (mix h1 h2 x2).elim
  ·obtain ⟨rfl,rfl⟩:=x2
   rw [t2] at h2
   rw [t0 _ _ x1] at h1
   exact (mix h2 h1 x1).elim
  ·rw [t0 _ _ x1] at h1
   rw [t0 _ _ x2] at h2
   exact hm1.inj _ _ _ _ k s s' h1 h2
 ·rw [hgetS] at hBx
  by_cases e1:d'=d∧n'=n
  ·rw [if_pos e1] at hBx
   obtain ⟨rfl,rfl⟩:=e1
   cases hBx
   have hb:=r2.blk 0 0 _ ((top 0).trans hL0)
   obtain ⟨b,us,y1,y2,y3,y4⟩:=hb
   simp only at y1 y2 y3 y4
   have hdep2:d2≤d':=by
    have:=g4 _ (List.mem_of_getElem? hi1)
    simpa [CV.dep] using this
   refine ⟨b,us,by rw [tb,y1,k1],y2,⟨by rw [k1];exact y3.1,fun j u c hu hc=>?_⟩,fun c hc=>?_⟩
   ·have hj:j<cellsC.length:=by rw [←k1];exact (List.getElem?_eq_some_iff.1 hc).1
    rcases k2 j _ (List.getElem?_eq_getElem hj) with ⟨x,e1,e2⟩|⟨m,e1,e2⟩|⟨e1,e2⟩
    ·rw [e2] at hc
     cases hc
     have e3:cellsC[j]?=some (.p x):=by rw [List.getElem?_eq_getElem hj,e1]
     obtain ⟨z1,z2⟩:=y3.2 j u _ hu e3
     exact ⟨hP2 z1,.inr (RepP.one (show RepP _ w' u x from z1)).1⟩
    ·rw [e2] at hc
     cases hc
     have e3:cellsC[j]?=some (.own 0 1 gC m):=by rw [List.getElem?_eq_getElem hj,e1]
     obtain ⟨⟨z1,Bq,z2,z3,z4⟩,z5⟩:=y3.2 j u _ hu e3
     rw [top,hL1] at z2
     cases z2
     refine ⟨⟨z1,R2,by rw [hgetS,if_neg (fun e=>hne ⟨e.1.symm,e.2.symm⟩),if_pos ⟨rfl,rfl⟩],Nat.le_refl _,fun _=>?_⟩,.inr z1⟩
     rw [t2]
     exact z4 rfl
    ·rw [e2] at hc
     cases hc
     have e3:cellsC[j]?=some (.ptr 0 0 0 0 KO):=by rw [List.getElem?_eq_getElem hj,e1]
     obtain ⟨⟨z1,Bq,z2,z3,z4⟩,z5⟩:=y3.2 j u _ hu e3
     rw [top,hL0] at z2
     cases z2
     refine ⟨⟨z1,B2,by rw [hgetS,if_pos ⟨rfl,rfl⟩],Nat.le_refl _,fun _=>?_⟩,.inr z1⟩
     rw [tb]
     exact z4 rfl
   ·obtain ⟨j,hj,rfl⟩:=List.getElem_of_mem hc
    have hj2:=List.getElem?_eq_getElem hj
    rcases k2 j _ (List.getElem?_eq_getElem (by rw [←k1];exact hj)) with ⟨x,e1,e2⟩|⟨m,e1,e2⟩|⟨e1,e2⟩
    ·rw [hj2] at e2
     rw [Option.some.inj e2]
     rfl
    ·rw [hj2] at e2
     rw [Option.some.inj e2]
     simpa [CV.dep] using hdep2
    ·rw [hj2] at e2
     rw [Option.some.inj e2]
     simp [CV.dep]
  ·rw [if_neg e1] at hBx
   by_cases e2:d'=d2∧n'=n2
   ·rw [if_pos e2] at hBx
    obtain ⟨rfl,rfl⟩:=e2
    cases hBx
    have hb:=r2.blk 0 1 _ ((top 1).trans hL1)
    rcases hb with ⟨x1,x2⟩|⟨b,s,us,x1,x2,x3,x4,x5,x6⟩
    ·exact .inl ⟨x1,t2.trans x2⟩
    ·exact .inr ⟨b,s,us,t2.trans x1,x2,x3,x4,x5,fun j e o x he hx=>by
      obtain ⟨v,hv,hrr⟩:=x6 j e o x he hx
      exact ⟨v,hv,hP2 hrr⟩⟩
   ·rw [if_neg e2] at hBx
    refine zBH hK (t0 _ _ e2) (fun b s h=>r3.step.block b (hm1.live d' n' b s h).2.1 fun d3 n3 s3 h3=>?_) (hm1.blk d' n' Bx hBx)
    rcases (px h3).2 with ⟨_,h4⟩|⟨_,h4⟩
    ·exact e1 (hm1.inj _ _ _ _ b s s3 h h4)
    ·exact e2 (hm1.inj _ _ _ _ b s s3 h h4)
theorem zH2 {x:AV} {r args':List AV} {d n:Nat} {B:Blk} {ad:Addr} (hr:Rel F N0 T pl st a w) (h:zBE st (x::r)=some (args',d,n,B)) (hv:zU F (st.fr::st.up) pl w (.pointer (some ad)) x):∃s,pl d n=some (ad.block,s):=by
 simp only [zBE] at h
 split at h
 ·rename_i a' d' n' B' hb
  obtain ⟨r',_,h2⟩:=Option.map_eq_some_iff.1 h
  cases h2
  unfold zBZ at hb
  split at hb
  ·split at hb
   ·split at hb
    ·rename_i g' sz ty rows hB hc
     cases hb
     obtain ⟨_,B1,h2,h3,h4⟩:=hv
     have h2:some B1=some _:=h2.symm.trans hB
     cases h2
     rcases h4 hc.1 with ⟨e,_⟩|⟨b,s,cap,_,e,_⟩<;>cases e
    ·cases hb
   ·cases hb
  ·split at hb
   ·split at hb
    ·rename_i g' sz ty cells hB hc
     cases hb
     obtain ⟨_,B1,h2,h3,h4⟩:=hv
     have h2:some B1=some _:=h2.symm.trans hB
     cases h2
     obtain ⟨b,s,hp,⟨_,e⟩|⟨e,_⟩⟩:=h4 hc.1
     ·cases e
      exact ⟨s,hp⟩
     ·exact absurd e (by decide)
    ·cases hb
   ·cases hb
  ·cases hb
 ·simp only [Option.bind_eq_some_iff] at h
  obtain ⟨y,h1,_⟩:=h
  exfalso
  unfold zC4 at h1
  split at h1
  ·split at h1
   ·cases h1
   ·rename_i hq
    cases hv
    exact absurd rfl hq
  ·obtain ⟨us,e,_⟩:=hv
   cases e
  ·cases h1
theorem zKF {run:zZ} (hS:zBS G P run) {o:Oper} {c:Call} {f:Operand} {g:KX} {ks:List KX} {borrow:Bool} {dst:Nat} {v:AV} (ho:o.op= .call c) (hc:c.callee= .value f) (hf:kx f=some g) (hx:c.args.toList.mapM kx=some ks) (hr:Rel F N0 T pl st a w)
  (h:zA run st dst (.call borrow g ks)=some (v,st')):Runs1 P o a w (fun u w'=>Post F N0 pl st w v st' u w'∧(borrow=true→Grow w w')∧(borrow=false→∀m r,ks= .t m::r→KeepB (fun b=>∃ad:Addr,a.tmps.getD m undef= .pointer (some ad)∧b≠ad.block) w w')):=by
 simp only [zA] at h
 split at h
 ·rename_i fid caps hg
  have e1:=zE hr hf
  rw [hg] at e1
  obtain ⟨vals,e1,hvl,hvc⟩:=e1
  obtain ⟨hl,hk⟩:=zAX hx
  have hargs:zAY F (st.fr::st.up) pl w (c.args.toList.map a.eval++vals) (ks.map st.eval++caps.map Cap.av):=by
   refine ⟨by simp [hl,hvl],fun i u x hu hx'=>?_⟩
   rw [List.getElem?_append] at hu hx'
   simp only [List.length_map] at hu hx'
   rw [hl] at hx'
   split at hu
   ·rename_i hi
    rw [if_pos hi] at hx'
    simp only [List.getElem?_map,Option.map_eq_some_iff] at hu hx'
    obtain ⟨p,hp,rfl⟩:=hu
    obtain ⟨q,hq,rfl⟩:=hx'
    exact zE hr (hk i p q hp hq)
   ·rename_i hi
    rw [if_neg hi] at hx'
    simp only [List.getElem?_map,Option.map_eq_some_iff] at hx'
    obtain ⟨q,hq,rfl⟩:=hx'
    exact zI4 (hvc _ _ _ hu hq)
  have harr:c.args.map a.eval++vals.toArray=(c.args.toList.map a.eval++vals).toArray:=by
   apply Array.toList_inj.1;simp
  refine zHd (R:=fun u w'=>Post F N0 pl st w v st' u w'∧(borrow=true→Grow w w')∧(borrow=false→∀m r,ks= .t m::r→KeepB (fun b=>∃ad:Addr,a.tmps.getD m undef= .pointer (some ad)∧b≠ad.block) w w')) ho hc e1 ?_
  rw [harr]
  unfold zBG at h
  split at h
  ·rename_i hbt
   obtain ⟨⟨args',lent⟩,h1,h⟩:=Option.bind_eq_some_iff.1 h
   obtain ⟨r,h2,h⟩:=Option.bind_eq_some_iff.1 h
   split at h
   ·rename_i hcond
    obtain ⟨hcond,_⟩:=hcond
    simp only [Option.some.injEq,Prod.mk.injEq] at h
    obtain ⟨rfl,rfl⟩:=h
    let F':Nat→Prop:=fun k=>lent=false∧Own F pl k
    have hl1:=zE2 (F':=F') hr.mem (fun k hk=>hk.2) h1 (fun e k hk=>by have:=hk.1;rw [e] at this;cases this) hargs
    have hm0:MemOK F' (⟨w.heap.size⟩:Base G) [] zAg w:=⟨fun d n b s h=>(by cases h),fun d n d' n' b s s' h=>(by cases h),fun d n B h=>(by cases h),fun k hk=>by
     rcases hk.2 with h|⟨d,n,s,h⟩
     ·exact hr.mem.fsz k h
     ·exact (hr.mem.live d n k s h).2.1,fun k o h=>⟨(Array.getElem?_eq_some_iff.1 (hr.mem.fix k o h).2).1,(hr.mem.fix k o h).2⟩⟩
    refine (hS fid args' [] r h2 F' ⟨w.heap.size⟩ zAg w _ hm0 (Nat.le_refl _) hl1).mono fun u w' hret=>?_
    obtain ⟨⟨pl1,r1,r2,r3⟩,r4,r5⟩:=hret
    have hup:r.up= []:=List.eq_nil_of_length_eq_zero r3.later.len
    rw [hup] at r1 r2 r3
    have hF1:(∀k,Own F pl k→F' k)∨∀B∈r.rows,zHO B=true:=by
     rcases hcond with h|h
     ·exact .inl fun k hk=>⟨h,hk⟩
     ·simp only [zBF,Bool.and_eq_true] at h
      exact .inr fun B hB=>List.all_eq_true.1 h.2 B hB
    have hF2:(∀k,Own F pl k→F' k)∨∀c∈r.v.cvs,zIV c=true:=by
     rcases hcond with h|h
     ·exact .inl fun k hk=>⟨h,hk⟩
     ·simp only [zBF,Bool.and_eq_true] at h
      exact .inr fun c hc=>List.all_eq_true.1 h.1 c hc
    obtain ⟨pl2,p1,p2,p3⟩:=zKE hr.mem hr.low r2 r3 r5 hF1
    obtain ⟨pl3,q1,q2,q3⟩:=zI1 (n:=dst) p1 r5
    exact ⟨⟨⟨pl3,q3 r4 (p3 r4 hF2 r1),q1,p2.trans q2⟩,rfl⟩,fun _=>⟨r3.step.size,fun k hk=>r3.step.block k hk (fun _ _ _ h=>by cases h)⟩,fun e=>by rw [e] at hbt;cases hbt⟩
   ·cases h
  ·rename_i hb
   refine (zI6 hS hr hargs h).mono fun u w' hp=>⟨hp.1,fun e=>absurd e hb,fun _ m r e=>?_⟩
   subst e
   obtain ⟨⟨args',d,n,B⟩,h1,_⟩:=Option.bind_eq_some_iff.1 h
   refine (hp.2 _ _ _ _ h1).sub fun b hb' s hs=>?_
   obtain ⟨ad,e,hne⟩:=hb'
   have h3:=zE (x:= .tmp m) hr rfl
   simp only [Act.eval] at h3
   rw [e] at h3
   obtain ⟨s',h4⟩:=zH2 hr h1 h3
   rw [h4] at hs
   cases hs
   exact hne rfl
 ·cases h
theorem zI8 {run:zZ} (hS:zBS G P run) {o:Oper} {c:Call} {f:Operand} {g:KX} {ks:List KX} {dst:Nat} {v:AV} (ho:o.op= .call c) (hc:c.callee= .value f) (hf:kx f=some g) (hx:c.args.toList.mapM kx=some ks) (hr:Rel F N0 T pl st a w)
  (h:zA run st dst (.callN g ks)=some (v,st')):Runs1 P o a w (Post F N0 pl st w v st'):=by
 simp only [zA] at h
 split at h
 ·rename_i fid caps hg
  have e1:=zE hr hf
  rw [hg] at e1
  obtain ⟨vals,e1,hvl,hvc⟩:=e1
  obtain ⟨hl,hk⟩:=zAX hx
  have hargs:zAY F (st.fr::st.up) pl w (c.args.toList.map a.eval++vals) (ks.map st.eval++caps.map Cap.av):=by
   refine ⟨by simp [hl,hvl],fun i u x hu hx'=>?_⟩
   rw [List.getElem?_append] at hu hx'
   simp only [List.length_map] at hu hx'
   rw [hl] at hx'
   split at hu
   ·rename_i hi
    rw [if_pos hi] at hx'
    simp only [List.getElem?_map,Option.map_eq_some_iff] at hu hx'
    obtain ⟨p,hp,rfl⟩:=hu
    obtain ⟨q,hq,rfl⟩:=hx'
    exact zE hr (hk i p q hp hq)
   ·rename_i hi
    rw [if_neg hi] at hx'
    simp only [List.getElem?_map,Option.map_eq_some_iff] at hx'
    obtain ⟨q,hq,rfl⟩:=hx'
    exact zI4 (hvc _ _ _ hu hq)
  have harr:c.args.map a.eval++vals.toArray=(c.args.toList.map a.eval++vals).toArray:=by
   apply Array.toList_inj.1;simp
  refine zHd ho hc e1 ?_
  rw [harr]
  exact zI7 hS hr hargs h
 ·cases h
end
end Go.Eng

