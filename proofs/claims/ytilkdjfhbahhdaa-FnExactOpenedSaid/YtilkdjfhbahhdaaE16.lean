import Derived.Test.YtilkdjfhbahhdaaE15
set_option linter.unusedVariables false
set_option linter.unusedSimpArgs false
namespace Go.Eng
open Go.RowKit
def zAY:Pl:=fun _ _=>nop
section
variable {P:Program} {F F':Nat→Prop} {G:Nat→Option Obj} {N0:Base G} {T:Nat} {pl pl' pl1:Pl} {st st':St} {a:Act} {w w':World} {fs fs':List Frame} {f':Frame} {up:List Frame}
theorem zCX {own own':Nat→Prop} {v:Value} {x:PV} (hf:(CV.p x).flat=true) (h:RepP own w v x):RepP own' w v x:=by
 cases h<;>first|(constructor;done)|simp [CV.flat] at hf
theorem zEk {cols:List (Nat×Nat×TypeId)}:∀{e:List PV} {i o:Nat} {x:PV},zDj cols i e=true→e[o]?=some x→(match look (i+o) cols with|some _=>(match x with| .nl=>true| .ls l=>l.all fun e=>e.all fun y=>(CV.p y).flat|_=>false)|none=>(CV.p x).flat)=true
 | [],i,o,x,h,hx=>by simp at hx
 |y::e,i,0,x,h,hx=>by
  simp only [zDj,Bool.and_eq_true] at h
  simp only [List.getElem?_cons_zero,zM] at hx
  subst hx
  exact h.1
 |y::e,i,o+1,x,h,hx=>by
  simp only [zDj,Bool.and_eq_true] at h
  have:=zEk h.2 (show e[o]?=some x by simpa using hx)
  rwa [show i+(o+1)=i+1+o by omega]
theorem zKE {rows:List Blk} (hm:MemOK F N0 fs pl w) (hN:N0.n≤w.heap.size) (hm':MemOK F' (⟨w.heap.size⟩:Base G) (za rows 0:: []) pl1 w') (hk:KeepU [] [] zAY pl1 w w')
  (hrows:∀B∈rows,B.g=0∧B.k.okO=true) (hF:(∀k,Own F pl k→F' k)∨∀B∈rows,zEZ B=true):
  ∃pl2,MemOK F N0 (za rows 0::fs) pl2 w'∧Keep F fs fs pl pl2 w w'∧
   ∀{u:Value} {v:AV},(∀c∈v.cvs,c.po=true)→((∀k,Own F pl k→F' k)∨∀c∈v.cvs,zHD c=true)→zd F' (za rows 0:: []) pl1 w' u (v.map (zAg 0))→zd F (za rows 0::fs) pl2 w' u (v.map (zAg fs.length)):=by
 let pl2:Pl:=fun d n=>if d=fs.length then pl1 0 n else pl d n
 have hbd:∀d n j b s,pl d n j=some (b,s)→d<fs.length∧b<w.heap.size:=fun d n j b s h=>by
  obtain ⟨_,h2,_,B,hB⟩:=hm.live d n j b s h
  exact ⟨zH hB,h2⟩
 have q1:∀n,pl2 fs.length n=pl1 0 n:=fun n=>by simp [pl2]
 have q2:∀d n,d≠fs.length→pl2 d n=pl d n:=fun d n h=>by simp [pl2,h]
 have hge:∀n j b s,pl1 0 n j=some (b,s)→w.heap.size≤b∧b<w'.heap.size∧∃B,look n (za rows 0)=some B:=fun n j b s h=>by
  obtain ⟨h1,h2,_,B,hB⟩:=hm'.live 0 n j b s h
  exact ⟨h1,h2,B,by simpa [zB] using hB⟩
 have hstep:Step pl w w':=⟨hk.step.os,hk.step.tape,hk.step.output,hk.step.size,fun k hk' _=>hk.step.block k hk' (fun _ _ _ _ h=>by cases h)⟩
 have hK:Keep F fs fs pl pl2 w w':=by
  refine ⟨hstep,rfl,fun d n b hb=>⟨b,hb,Nat.le_refl _,fun _=>⟨Ext.of (q2 d n (Nat.ne_of_lt (zH hb))),rfl⟩⟩,fun d n j b s h=>?_⟩
  by_cases hd:d=fs.length
  ·subst hd;rw [q1] at h;exact .inr (hge n j b s h).1
  ·rw [q2 d n hd] at h;exact .inl ⟨d,n,j,s,h⟩
 have hup:∀d n,d<fs.length→zB d n (za rows 0::fs)=zB d n fs:=fun d n hd=>by simp [zB,Nat.ne_of_lt hd]
 have htop:∀n,zB fs.length n (za rows 0::fs)=look n (za rows 0):=fun n=>by simp [zB]
 have htop':∀n,zB 0 n (za rows 0:: [])=look n (za rows 0):=fun n=>by simp [zB]
 have hlow:Low fs.length fs pl2 (za rows 0::fs) pl2:=⟨fun d n hd=>⟨hup d n hd,rfl⟩,fun d n j b s h=>⟨d,n,j,h⟩⟩
 have hP:(∀k,Own F pl k→F' k)→∀{u x},RepP (Own F' pl1) w' u x→RepP (Own F pl2) w' u x:=fun hF {u x} h=>
  h.step (fun _ _ _=>rfl) (Nat.le_refl _) (fun k hk'=>by
   rcases hk' with hk'|⟨d,n,j,s,hk'⟩
   ·exact .inl (.inl (hF k (.inl hk')))
   ·by_cases hd:d=fs.length
    ·subst hd;rw [q1] at hk';exact .inl (.inr ⟨0,n,j,s,hk'⟩)
    ·rw [q2 d n hd] at hk';exact .inl (.inl (hF k (.inr ⟨d,n,j,s,hk'⟩))))
 refine ⟨pl2,⟨fun d n j b s h=>?_,fun d n j d' n' j' b s s' h h'=>?_,fun d n B hB=>?_,fun k hF=>Nat.lt_of_lt_of_le (hm.fsz k hF) hk.step.size,zAr hm hstep.block⟩,hK,?_⟩
 ·by_cases hd:d=fs.length
  ·subst hd
   rw [q1] at h
   obtain ⟨h1,h2,B,hB⟩:=hge n j b s h
   exact ⟨by omega,h2,fun hF=>by have:=hm.fsz b hF;omega,B,by rw [htop];exact hB⟩
  ·rw [q2 d n hd] at h
   obtain ⟨h1,h2,h3,B,hB⟩:=hm.live d n j b s h
   exact ⟨h1,Nat.lt_of_lt_of_le h2 hk.step.size,h3,B,by rw [hup d n (zH hB)];exact hB⟩
 ·by_cases hd:d=fs.length<;>by_cases hd':d'=fs.length
  ·subst hd;subst hd'
   rw [q1] at h h'
   exact ⟨rfl,(hm'.inj _ _ _ _ _ _ b s s' h h').2⟩
  ·subst hd
   rw [q1] at h;rw [q2 d' n' hd'] at h'
   have h1:=(hge n j b s h).1
   have h2:=(hbd d' n' j' b s' h').2
   omega
  ·subst hd'
   rw [q1] at h';rw [q2 d n hd] at h
   have h1:=(hge n' j' b s' h').1
   have h2:=(hbd d n j b s h).2
   omega
  ·rw [q2 d n hd] at h;rw [q2 d' n' hd'] at h'
   exact hm.inj _ _ _ _ _ _ b s s' h h'
 ·by_cases hd:d<fs.length
  ·rw [hup d n hd] at hB
   refine hlow.blk hd (zAN hK (q2 d n (Nat.ne_of_lt hd)) (fun j b s h=>hk.step.block b (hbd d n j b s h).2 (fun _ _ _ _ h=>by cases h)) (hm.blk d n B hB))
  ·have hlt:=zH hB
   simp only [List.length_cons] at hlt
   have hd2:d=fs.length:=by omega
   subst hd2
   rw [htop] at hB
   have hB':=hB
   rw [zCF] at hB'
   simp only [Nat.zero_le,if_true,Nat.sub_zero] at hB'
   have hmem:=zn hB'
   rcases hF with hF|hF
   ·have hok:=(hrows B hmem).2
    have hb:=hm'.blk 0 n B (by rw [htop'];exact hB)
    unfold zY at hb⊢
    cases hrs:B.k with
    |row rs=>
     rw [hrs] at hb
     rcases hb with ⟨h1,h2⟩|⟨b,s,us,h1,h2,h3,h4,h5,h6⟩
     ·exact .inl ⟨h1,(q1 n).trans h2⟩
     ·exact .inr ⟨b,s,us,(q1 n).trans h1,h2,h3,h4,h5,fun j e o x he hx=>by
       obtain ⟨v,hv,hr⟩:=h6 j e o x he hx
       exact ⟨v,hv,hP hF hr⟩⟩
    |box cells=>
     rw [hrs] at hb hok
     obtain ⟨b,us,h1,h2,h3,h4⟩:=hb
     exact ⟨b,us,(q1 n).trans h1,h2,zA4 (fun h=>hP hF h) rfl rfl hok h3,zBo hok _⟩
    |deep cols rs=>
     rw [hrs] at hb
     rcases hb with ⟨h1,h2⟩|⟨b,s,us,h1,h2,h3,h4,h5,h6,h7⟩
     ·exact .inl ⟨h1,(q1 n).trans h2⟩
     ·refine .inr ⟨b,s,us,by rw [q1];exact h1,h2,h3,h4,h5,fun j e o x he hx=>?_,fun j hj=>by rw [q1];exact h7 j hj⟩
      obtain ⟨v,hv,hr⟩:=h6 j e o x he hx
      refine ⟨v,hv,?_⟩
      rw [q1]
      exact hr.keep (fun h'=>hP hF h') (fun _ _ _ _=>rfl)
    |dead=>rw [hrs] at hok;cases hok
   ·have hfl:=hF B hmem
    have hb:=hm'.blk 0 n B (by rw [htop'];exact hB)
    unfold zEZ at hfl
    unfold zY at hb⊢
    cases hrs:B.k with
    |row rs=>
     rw [hrs] at hb hfl
     rcases hb with ⟨h1,h2⟩|⟨b,s,us,h1,h2,h3,h4,h5,h6⟩
     ·exact .inl ⟨h1,(q1 n).trans h2⟩
     ·exact .inr ⟨b,s,us,(q1 n).trans h1,h2,h3,h4,h5,fun j e o x he hx=>by
       obtain ⟨v,hv,hr⟩:=h6 j e o x he hx
       exact ⟨v,hv,zCX (List.all_eq_true.1 (List.all_eq_true.1 hfl e (zn he)) x (zn hx)) hr⟩⟩
    |deep cols rs=>
     rw [hrs] at hb hfl
     rcases hb with ⟨h1,h2⟩|⟨b,s,us,h1,h2,h3,h4,h5,h6,h7⟩
     ·exact .inl ⟨h1,(q1 n).trans h2⟩
     ·refine .inr ⟨b,s,us,by rw [q1];exact h1,h2,h3,h4,h5,fun j e o x he hx=>?_,fun j hj=>by rw [q1];exact h7 j hj⟩
      obtain ⟨v,hv,hr⟩:=h6 j e o x he hx
      have hf:=zEk (List.all_eq_true.1 hfl e (zn he)) hx
      rw [Nat.zero_add] at hf
      refine ⟨v,hv,?_⟩
      rw [q1]
      unfold DCell at hr⊢
      cases hl:look o cols with
      |some q=>
       rw [hl] at hr hf
       rcases hr with hr|⟨inner,b2,s2,cap,us2,e1,r2⟩
       ·exact .inl hr
       ·rw [e1] at hf
        obtain ⟨r3,r4,r5,r6,r7,r8,r9,r10,r11⟩:=r2
        refine .inr ⟨inner,b2,s2,cap,us2,e1,r3,r4,r5,r6,r7,r8,r9,r10,fun j2 e2 o2 y he2 hy=>?_⟩
        obtain ⟨u,hu,hr2⟩:=r11 j2 e2 o2 y he2 hy
        exact ⟨u,hu,zCX (List.all_eq_true.1 (List.all_eq_true.1 hf e2 (zn he2)) y (zn hy)) hr2⟩
      |none=>
       rw [hl] at hr hf
       exact zCX hf hr
    |box cells=>rw [hrs] at hfl;cases hfl
    |dead=>rw [hrs] at hfl;cases hfl
 ·intro u v hpo hfl hr
  have:v.map (zAg fs.length)=(v.map (zAg 0)).map (zAg fs.length):=by
   rw [AV.map_map]
   exact AV.map_congr fun c=>by cases c<;>rfl
  rw [this]
  refine zAv (fun x c hc h=>?_) (fun c h=>by subst h;rfl) hr
  obtain ⟨c0,h0,rfl⟩:=AV.mem_map hc
  have h9:=hpo c0 h0
  cases c0 with
  |p x=>
   rcases hfl with hfl|hfl
   ·exact hP hfl h
   ·exact zCX (hfl _ h0) h
  |own d i g m=>
   obtain ⟨h1,B,h2,h3,h4⟩:=h
   refine ⟨h1,B,by rw [htop];rw [htop'] at h2;exact h2,h3,fun e=>?_⟩
   rw [←q1] at h4
   exact h4 e
  |ptr d i g j o=>
   obtain ⟨h1,B,h2,h3,h4⟩:=h
   refine ⟨h1,B,by rw [htop];rw [htop'] at h2;exact h2,h3,fun e=>?_⟩
   rw [←q1] at h4
   exact h4 e
  |_=>simp [CV.po] at h9
theorem zI5 (hm:MemOK F N0 (st.fr::st.up) pl w) {v:Value} {x:CV} {y:PV} {lent:Bool} (h:zDB st x=some (y,lent)) (hF:∀k,F' k→Own F pl k) (hl:lent=true→∀k,¬F' k) (hv:zAM F (st.fr::st.up) pl w v x):RepP (Own F' zAY) w v y:=by
 have own:∀k,Own F' zAY k→F' k:=fun k h=>h.elim id (fun ⟨_,_,_,_,h⟩=>by cases h)
 have hP:∀{u x},RepP (Own F pl) w u x→RepP (Own F' zAY) w u x:=fun {u x} h=>h.step (fun _ _ _=>rfl) (Nat.le_refl _) (fun k hk=> .inl (hF k (own k hk)))
 unfold zDB at h
 split at h
 ·cases h
  have hv:RepP (Own F pl) w v _:=hv
  exact hP hv.weak
 ·rename_i d n g m
  split at h
  ·rename_i g' sz ty rows hB
   split at h
   ·rename_i hc
    obtain ⟨rfl,rfl⟩:=hc
    cases h
    exact zCv hm hv hB rfl (fun b s _ hk=>hl rfl b (own b hk)) (fun h=>hP h)
   ·cases h
  ·cases h
 ·cases h
theorem zEl (hm:MemOK F N0 (st.fr::st.up) pl w) (hF:∀k,F' k→Own F pl k):∀{cs:List CV} {ps:List PV} {lent:Bool},zA8 st cs=some (ps,lent)→(lent=true→∀k,¬F' k)→
  ps.length=cs.length∧∀(i:Nat) p u c,ps[i]?=some p→cs[i]?=some c→zAM F (st.fr::st.up) pl w u c→RepP (Own F' zAY) w u p
 | [],ps,lent,h,hl=>by
  simp only [zA8,zM,Prod.mk.injEq] at h
  obtain ⟨rfl,rfl⟩:=h
  exact ⟨rfl,fun i p u c hp=>by simp at hp⟩
 |x::r,ps,lent,h,hl=>by
  simp only [zA8,zN] at h
  obtain ⟨⟨a,p⟩,h1,⟨b,q⟩,h2,h3⟩:=h
  simp only [zM,Prod.mk.injEq] at h3
  obtain ⟨rfl,rfl⟩:=h3
  obtain ⟨k1,k2⟩:=zEl hm hF h2 (fun e=>hl (by simp [e]))
  refine ⟨by simp [k1],fun i p' u c hp hc hr=>?_⟩
  cases i with
  |zero=>
   simp only [List.getElem?_cons_zero,zM] at hp hc
   subst hp;subst hc
   exact zI5 hm h1 hF (fun e=>hl (by simp [e])) hr
  |succ i=>exact k2 i p' u c (by simpa using hp) (by simpa using hc) hr
theorem zGr (hm:MemOK F N0 (st.fr::st.up) pl w) {v:Value} {x y:Cap} {lent:Bool} (h:zAz st x=some (y,lent)) (hF:∀k,F' k→Own F pl k) (hl:lent=true→∀k,¬F' k) (hv:zBK F (st.fr::st.up) pl w v x):zBK F' [] zAY w v y:=by
 have own:∀k,Own F' zAY k→F' k:=fun k h=>h.elim id (fun ⟨_,_,_,_,h⟩=>by cases h)
 have hP:∀{u x},RepP (Own F pl) w u x→RepP (Own F' zAY) w u x:=fun {u x} h=>h.step (fun _ _ _=>rfl) (Nat.le_refl _) (fun k hk=> .inl (hF k (own k hk)))
 cases x with
 |p z=>cases h;exact hP hv
 |rp row=>cases h;exact RepR.same hv (fun k d n j s hp=>by cases hp) hP
 |ptr d n g=>
  simp only [zAz] at h
  split at h
  ·rename_i g' sz ty cells hB
   split at h
   ·rename_i hg
    subst hg
    obtain ⟨⟨r,q⟩,h1,h2⟩:=Option.map_eq_some_iff.1 h
    cases h2
    obtain ⟨k1,k2⟩:=zEl hm hF h1 hl
    obtain ⟨_,B,e1,e2,e3⟩:=hv
    have e1:some B=some _:=e1.symm.trans hB
    cases e1
    obtain ⟨b,s,hp,rfl⟩:=e3 rfl
    obtain ⟨b',us,m1,m2,m3,m4⟩:=hm.blk d n _ hB
    have:b'=b:=(zAt hp m1).1
    subst this
    refine ⟨⟨b',0,none⟩,by rw [zAV],fun _=>⟨fun d n j s hp=>(by cases hp),(Array.getElem?_eq_some_iff.1 m2).1⟩,fun i x hx=>?_⟩
    have hi:i<cells.length:=by rw [←k1];exact (List.getElem?_eq_some_iff.1 hx).1
    obtain ⟨u,hu⟩:=zz (l:=us.toList) (i:=i) (by rw [m3.1];exact hi)
    refine ⟨u,?_,k2 i x u _ hx (zb hi) (m3.2 i u _ hu (zb hi)).1⟩
    rw [zAV,zA1 m2,←Array.getElem?_toList,Nat.zero_add]
    exact hu
   ·cases h
  ·cases h
theorem zDJ (hm:MemOK F N0 (st.fr::st.up) pl w) (hF:∀k,F' k→Own F pl k):∀{cs ds:List Cap} {lent:Bool},zAK st cs=some (ds,lent)→(lent=true→∀k,¬F' k)→
  ds.length=cs.length∧∀(i:Nat) u c d,cs[i]?=some c→ds[i]?=some d→zBK F (st.fr::st.up) pl w u c→zBK F' [] zAY w u d
 | [],ds,lent,h,hl=>by
  simp only [zAK,zM,Prod.mk.injEq] at h
  obtain ⟨rfl,rfl⟩:=h
  exact ⟨rfl,fun i p u c hp=>by simp at hp⟩
 |x::r,ds,lent,h,hl=>by
  simp only [zAK,zN] at h
  obtain ⟨⟨a,p⟩,h1,⟨b,q⟩,h2,h3⟩:=h
  simp only [zM,Prod.mk.injEq] at h3
  obtain ⟨rfl,rfl⟩:=h3
  obtain ⟨k1,k2⟩:=zDJ hm hF h2 (fun e=>hl (by simp [e]))
  refine ⟨by simp [k1],fun i u c d hc hd hr=>?_⟩
  cases i with
  |zero=>
   simp only [List.getElem?_cons_zero,zM] at hc hd
   subst hc;subst hd
   exact zGr hm h1 hF (fun e=>hl (by simp [e])) hr
  |succ i=>exact k2 i u c d (by simpa using hc) (by simpa using hd) hr
theorem zBp {d n g j o m esz:Nat} {q:TypeId×List (List PV)} (h:st.subB d n g j o m esz=some q):∃sz ty cols rows e,st.get d n=some ⟨g,sz,ty,.deep cols rows⟩∧rows[j]?=some e∧e[o]?=some (.ls q.2)∧look o cols=some (esz,q.1)∧o<sz∧m=q.2.length:=by
 unfold St.subB at h
 split at h
 ·rename_i g' sz ty cols rows hB
  split at h
  ·rename_i esz' ety e hl hj
   split at h
   ·rename_i inner he
    split at h
    ·rename_i hc
     obtain ⟨rfl,rfl,c3,c4⟩:=hc
     cases h
     exact ⟨_,_,_,_,_,hB,hj,he,hl,c4,c3⟩
    ·cases h
   ·cases h
  ·cases h
 ·cases h
theorem zFM {fs:List Frame} {d n g sz ty j o esz:Nat} {ety:TypeId} {cols:List (Nat×Nat×TypeId)} {rows:List (List PV)} {e:List PV} {x:PV} (hb:zY F fs pl w d n ⟨g,sz,ty,.deep cols rows⟩) (hj:rows[j]?=some e) (he:e[o]?=some x) (hl:look o cols=some (esz,ety)):
  ∃v,DeepP F w pl (pl d n (j*sz+o+1)) esz ety v x:=by
 rcases hb with ⟨h1,h2⟩|⟨b,s,us,h1,h2,h3,h4,h5,h6,h7⟩
 ·have h1:rows= []:=h1
  subst h1;simp at hj
 ·obtain ⟨v,_,hr⟩:=h6 j e o x hj he
  unfold DCell at hr
  rw [hl] at hr
  exact ⟨v,hr⟩
theorem zCG {own:Nat→Prop} {b m cap esz:Nat} {ety:TypeId} {us:Array Value} {inner:List (List PV)} (hm:m=inner.length) (hc:m≤cap) (hcm:cap≤maxLen) (hn:¬own b) (h7:w.heap[b]?=some (.cells us ety (0,0))) (h9:∀e∈inner,e.length=esz)
  (h10:∀(j:Nat) (e:List PV) (o:Nat) (y:PV),inner[j]?=some e→e[o]?=some y→∃u,us[j*esz+o]?=some u∧RepP own w u y):RepP own w (.slice (some ⟨b,0,none⟩) m cap) (.ls inner):=by
 refine .ls (sz:=esz) (fun j o=>us.getD (j*esz+o) .nilIface) hm.symm hc (Nat.le_trans hc hcm) (fun _=>⟨hn,(Array.getElem?_eq_some_iff.1 h7).1⟩) (fun j e he=>⟨h9 e (zn he),fun o x hx=>?_⟩) (fun j e o x he hx=>?_)
 ·obtain ⟨v,hv,_⟩:=h10 j e o x he hx
  rw [zAV,Nat.zero_add,zA1 h7,hv]
  simp [Array.getD_eq_getD_getElem?,hv]
 ·obtain ⟨v,hv,hr⟩:=h10 j e o x he hx
  have:us.getD (j*esz+o) .nilIface=v:=by simp [Array.getD_eq_getD_getElem?,hv]
  rw [this]
  exact hr
theorem zGs (hm:MemOK F N0 fs pl w) {v:Value} {d n g m:Nat} {sz ty:Nat} {cols:List (Nat×Nat×TypeId)} {rows:List (List PV)} (hv:zAM F fs pl w v (.own d n g m)) (hB:zB d n fs=some ⟨g,sz,ty,.deep cols rows⟩) (hml:m=rows.length)
  {own':Nat→Prop} (h1:∀j b s,pl d n j=some (b,s)→¬own' b) (h2:∀{u x},RepP (Own F pl) w u x→RepP own' w u x):RepP own' w v (.ls rows):=by
 obtain ⟨h0,B,h3,h4,h5⟩:=hv
 rw [hB] at h3
 cases h3
 have hb:=hm.blk d n _ hB
 rcases h5 rfl with ⟨rfl,hm0,hp⟩|⟨b,s,cap,hp,rfl,hs,hmc,hcm⟩
 ·have:rows= []:=zAQ (by omega)
  subst this
  exact .nls
 ·rcases hb with ⟨h6,h7⟩|⟨b',s',us,h6,h7,h8,h9,h10,h11,h12⟩
  ·exact (zA2 hp h7).elim
  ·have hbs:b'=b∧s'=s:=by rw [hp] at h6;cases h6;exact ⟨rfl,rfl⟩
   obtain ⟨rfl,rfl⟩:=hbs
   simp only at h7 h9 h10 h11
   refine zCG hml hmc hcm (h1 _ _ _ hp) h7 h10 (fun j e o x he hx=>?_)
   obtain ⟨v,hv,hr⟩:=h11 j e o x he hx
   refine ⟨v,hv,?_⟩
   unfold DCell at hr
   cases hl:look o cols with
   |none=>rw [hl] at hr;exact h2 hr
   |some q=>
    rw [hl] at hr
    rcases hr with ⟨rfl|rfl,rfl,_⟩|⟨inner,b2,s2,cap2,us2,rfl,e2,rfl,e4,e5,e6,e7,e8,e9,e10⟩
    ·exact .nl
    ·exact .nls
    ·exact zCG rfl e5 e6 (h1 _ _ _ e2) e7 e9 (fun j e o y he hy=>by
      obtain ⟨u,hu,hr⟩:=e10 j e o y he hy
      exact ⟨u,hu,h2 hr⟩)
theorem zF1 (hm:MemOK F N0 (st.fr::st.up) pl w) {v:Value} {x y:CV} {lent:Bool} (h:zAo st x=some (y,lent)) (hF:∀k,F' k→Own F pl k) (hl:lent=true→∀k,¬F' k) (hv:zAM F (st.fr::st.up) pl w v x):
  zAM F' [] zAY w v y∧(y= .u→x= .u):=by
 have own:∀k,Own F' zAY k→F' k:=fun k h=>h.elim id (fun ⟨_,_,_,_,h⟩=>by cases h)
 have hP:∀{u x},RepP (Own F pl) w u x→RepP (Own F' zAY) w u x:=fun {u x} h=>h.step (fun _ _ _=>rfl) (Nat.le_refl _) (fun k hk=> .inl (hF k (own k hk)))
 unfold zAo at h
 split at h
 ·rename_i d n g m
  split at h
  ·rename_i g' sz ty rows hB
   split at h
   ·rename_i hc
    obtain ⟨rfl,rfl⟩:=hc
    cases h
    exact ⟨zCv hm hv hB rfl (fun b s _ hk=>hl rfl b (own b hk)) (fun h=>hP h),fun h=>by cases h⟩
   ·cases h
  ·rename_i g' sz ty cols rows hB
   split at h
   ·rename_i hc
    obtain ⟨rfl,rfl⟩:=hc
    cases h
    exact ⟨zGs hm hv hB rfl (fun _ b s _ hk=>hl rfl b (own b hk)) (fun h=>hP h),fun h=>by cases h⟩
   ·cases h
  ·cases h
 ·rename_i d n g j o m esz
  obtain ⟨q,hq,h⟩:=Option.map_eq_some_iff.1 h
  cases h
  obtain ⟨sz,ty,cols,rows,e,hB,hj,he,hle,ho,hml⟩:=zBp hq
  obtain ⟨h1,B1,h2,h3,h4⟩:=hv
  have h2:some B1=some _:=h2.symm.trans hB
  cases h2
  obtain ⟨v',hd⟩:=zFM (hm.blk _ _ _ hB) hj he hle
  refine ⟨?_,fun h=>by cases h⟩
  rcases h4 rfl with ⟨rfl,hm0⟩|⟨b,s,cap,a1,a2,a3,a4,a5⟩
  ·have hin:q.2= []:=zAQ (by omega)
   show RepP _ _ _ (.ls q.2)
   rw [hin]
   exact .nls
  ·simp only at a1
   rcases hd with ⟨_,_,e3⟩|⟨inner,b',s',cap',us,e1,e2,e3,e4,e5,e6,e7,e8,e9,e10⟩
   ·rw [a1] at e3;cases e3
   ·cases e1
    rw [a1] at e2
    cases e2
    subst a2
    exact zCG (by omega) a4 a5 (fun hk=>hl rfl _ (own _ hk)) e7 e9 (fun j e o y he hy=>by
     obtain ⟨u,hu,hr⟩:=e10 j e o y he hy
     exact ⟨u,hu,hP hr⟩)
 ·cases h
  have hv:RepP (Own F pl) w v _:=hv
  exact ⟨hP hv.weak,fun h=>by cases h⟩
 ·rename_i f caps
  obtain ⟨⟨l,q⟩,h1,h2⟩:=Option.map_eq_some_iff.1 h
  cases h2
  obtain ⟨vals,e1,e2,e3⟩:=hv
  obtain ⟨k1,k2⟩:=zDJ hm hF h1 hl
  refine ⟨⟨vals,e1,e2.trans k1.symm,fun i u c hu hc=>?_⟩,fun h=>by cases h⟩
  have hi:i<caps.length:=by rw [←k1];exact (List.getElem?_eq_some_iff.1 hc).1
  exact k2 i u _ c (zb hi) hc (e3 i u _ hu (zb hi))
 ·split at h
  ·rename_i hp
   cases h
   refine ⟨?_,id⟩
   cases x with
   |nfn=>exact hv
   |rp row o=>exact RepR.same hv (fun k d n j s hp=>by cases hp) hP
   |_=>simp [CV.pure] at hp
  ·cases h
theorem zF2 (hm:MemOK F N0 (st.fr::st.up) pl w) (hF:∀k,F' k→Own F pl k):∀{us:List Value} {xs ys:List CV} {lent:Bool},zBy st xs=some (ys,lent)→(lent=true→∀k,¬F' k)→zK F (st.fr::st.up) pl w us xs→zK F' [] zAY w us ys
 |us,[],ys,lent,h,hl,hr=>by
  simp only [zBy,zM,Prod.mk.injEq] at h
  obtain ⟨rfl,rfl⟩:=h
  exact ⟨hr.1,fun i u c hu hc=>by simp at hc⟩
 |us,x::xs,ys,lent,h,hl,hr=>by
  simp only [zBy,zN] at h
  obtain ⟨⟨y,p⟩,h1,⟨ys',q⟩,h2,h3⟩:=h
  simp only [zM,Prod.mk.injEq] at h3
  obtain ⟨rfl,rfl⟩:=h3
  match us,hr with
  | [],hr=>exact absurd hr.1 (by simp)
  |u::us,hr=>
   have h4:=hr.2 0 u x rfl rfl
   obtain ⟨h5,h6⟩:=zF1 hm h1 hF (fun e=>hl (by simp [e])) h4.1
   have h7:=zF2 hm hF h2 (fun e=>hl (by simp [e])) (us:=us) ⟨by simpa using hr.1,fun i u c hu hc=>hr.2 (i+1) u c (by simpa using hu) (by simpa using hc)⟩
   refine ⟨by simp [h7.1],fun i v c hv hc=>?_⟩
   cases i with
   |zero=>
    simp only [List.getElem?_cons_zero,zM] at hv hc
    subst hv;subst hc
    refine ⟨h5,?_⟩
    rcases h4.2 with e|e
    ·subst e
     simp [zAo,CV.pure] at h1
    ·exact .inr e
   |succ i=>exact h7.2 i v c (by simpa using hv) (by simpa using hc)
theorem zI6 (hm:MemOK F N0 (st.fr::st.up) pl w) (hF:∀k,F' k→Own F pl k) {v:Value} {x y:AV} {lent:Bool} (h:zBS st x=some (y,lent)) (hl:lent=true→∀k,¬F' k) (hr:zd F (st.fr::st.up) pl w v x):zd F' [] zAY w v y:=by
 cases x with
 |c x=>
  simp only [zBS,zL] at h
  obtain ⟨⟨z,p⟩,h1,h2⟩:=h
  simp only [Prod.mk.injEq] at h2
  obtain ⟨rfl,rfl⟩:=h2
  exact (zF1 hm h1 hF hl hr).1
 |agg cs=>
  simp only [zBS,zL] at h
  obtain ⟨⟨z,p⟩,h1,h2⟩:=h
  simp only [Prod.mk.injEq] at h2
  obtain ⟨rfl,rfl⟩:=h2
  obtain ⟨us,h3,h4⟩:=hr
  exact ⟨us,h3,zF2 hm hF h1 hl h4⟩
 |tup vs=>simp [zBS] at h
def zAW (F:Nat→Prop) (fs:List Frame) (pl:Pl) (w:World) (us:List Value) (xs:List AV):Prop:=us.length=xs.length∧∀(i:Nat) u x,us[i]?=some u→xs[i]?=some x→zd F fs pl w u x
theorem zEm (hm:MemOK F N0 (st.fr::st.up) pl w) (hF:∀k,F' k→Own F pl k):∀{us:List Value} {xs ys:List AV} {lent:Bool},zA9 st xs=some (ys,lent)→(lent=true→∀k,¬F' k)→zAW F (st.fr::st.up) pl w us xs→zAW F' [] zAY w us ys
 |us,[],ys,lent,h,hl,hr=>by
  simp only [zA9,zM,Prod.mk.injEq] at h
  obtain ⟨rfl,rfl⟩:=h
  exact ⟨hr.1,fun i u c hu hc=>by simp at hc⟩
 |us,x::xs,ys,lent,h,hl,hr=>by
  simp only [zA9,zN] at h
  obtain ⟨⟨y,p⟩,h1,⟨ys',q⟩,h2,h3⟩:=h
  simp only [zM,Prod.mk.injEq] at h3
  obtain ⟨rfl,rfl⟩:=h3
  match us,hr with
  | [],hr=>exact absurd hr.1 (by simp)
  |u::us,hr=>
   have h5:=zI6 hm hF h1 (fun e=>hl (by simp [e])) (hr.2 0 u x rfl rfl)
   have h7:=zEm hm hF h2 (fun e=>hl (by simp [e])) (us:=us) ⟨by simpa using hr.1,fun i u c hu hc=>hr.2 (i+1) u c (by simpa using hu) (by simpa using hc)⟩
   refine ⟨by simp [h7.1],fun i v c hv hc=>?_⟩
   cases i with
   |zero=>
    simp only [List.getElem?_cons_zero,zM] at hv hc
    subst hv;subst hc
    exact h5
   |succ i=>exact h7.2 i v c (by simpa using hv) (by simpa using hc)
def zA5 (G:Nat→Option Obj) (P:Program) (run:zh):Prop:=
 ∀f args up r,run f args up=some r→∀F (N0:Base G) pl w vals,MemOK F N0 up pl w→N0.n≤w.heap.size→zAW F up pl w vals args→Goes P f vals.toArray w (RetOK F N0 up pl w r)
theorem zI7 {v:Value} {c:Cap} (h:zBK F fs pl w v c):zd F fs pl w v c.av:=by
 cases c with
 |p x=>exact h
 |ptr d n g=>
  obtain ⟨h0,B,h1,h2,h3⟩:=h
  exact ⟨h0,B,h1,h2,fun e=>by
   obtain ⟨b,s,h4,h5⟩:=h3 e
   exact ⟨b,s,h4,.inl ⟨by decide,by simpa using h5⟩⟩⟩
 |rp row=>exact h
theorem zAU {st:St} {d n:Nat} {B:Blk} (hd:d<(st.fr::st.up).length) (d' m:Nat):zB d' m ((st.set d n B).fr::(st.set d n B).up)=if d'=d∧m=n then some B else zB d' m (st.fr::st.up):=by
 have:(st.set d n B).fr::(st.set d n B).up=zAD d n B (st.fr::st.up):=by
  unfold St.set
  split
  ·rename_i e;simp [zAD,e]
  ·rename_i e;simp [zAD,e]
 rw [this,zR _ _ hd]
theorem zBO (st:St) (d n:Nat) (B:Blk):(st.set d n B).up.length=st.up.length:=by
 unfold St.set
 split
 ·rfl
 ·exact ze _
theorem zEn (hP:∀{u x},RepP (Own F pl) w u x→RepP (Own F' pl1) w u x):∀{cs ds:List CV} {us:List Value},zGc cs=some ds→zK F fs pl w us cs→zK F' fs' pl1 w us ds
 | [],ds,us,h,hr=>by cases h;exact ⟨hr.1,fun i u c hu hc=>by simp at hc⟩
 |c::cs,ds,us,h,hr=>by
  cases c with
  |p x=>
   obtain ⟨ds',h1,rfl⟩:=Option.map_eq_some_iff.1 h
   cases us with
   |nil=>have:=hr.1;simp at this
   |cons u us=>
    have ih:=zEn hP h1 (us:=us) ⟨by have:=hr.1;simpa using this,fun i v d hv hd=>hr.2 (i+1) v d (by simpa using hv) (by simpa using hd)⟩
    obtain ⟨h2,h3⟩:=hr.2 0 u _ rfl rfl
    refine ⟨by have:=ih.1;simp [this],fun i v d hv hd=>?_⟩
    cases i with
    |zero=>
     cases hv;cases hd
     have h2:RepP (Own F pl) w u x:=h2
     exact ⟨(hP h2).weak,.inr h2.one.1⟩
    |succ i=>exact ih.2 i v d (by simpa using hv) (by simpa using hd)
  |_=>cases h
theorem zEo (hP:∀{u x},RepP (Own F pl) w u x→RepP (Own F' pl1) w u x) {v:Value} {x y:AV} (h:zCq x=some y) (hr:zd F fs pl w v x):zd F' fs' pl1 w v y:=by
 unfold zCq at h
 split at h
 ·split at h
  ·cases h
  cases h
  have hr:RepP (Own F pl) w v _:=hr
  exact (hP hr).weak
 ·obtain ⟨ds,h1,rfl⟩:=Option.map_eq_some_iff.1 h
  obtain ⟨us,rfl,h2⟩:=hr
  exact ⟨us,rfl,zEn hP h1 h2⟩
 ·cases h
theorem zD1 (hP:∀{u x},RepP (Own F pl) w u x→RepP (Own F' pl1) w u x):∀{us:List Value} {xs ys:List AV},zCO xs=some ys→zAW F fs pl w us xs→zAW F' fs' pl1 w us ys
 |us,[],ys,h,hr=>by cases h;exact ⟨hr.1,fun i u c hu hc=>by simp at hc⟩
 |us,x::xs,ys,h,hr=>by
  simp only [zCO,zN,zL] at h
  obtain ⟨a,h1,r,h2,rfl⟩:=h
  cases us with
  |nil=>have:=hr.1;simp at this
  |cons u us=>
   have ih:=zD1 hP h2 (us:=us) ⟨by have:=hr.1;simpa using this,fun i v d hv hd=>hr.2 (i+1) v d (by simpa using hv) (by simpa using hd)⟩
   refine ⟨by have:=ih.1;simp [this],fun i v d hv hd=>?_⟩
   cases i with
   |zero=>cases hv;cases hd;exact zEo hP h1 (hr.2 0 u x rfl rfl)
   |succ i=>exact ih.2 i v d (by simpa using hv) (by simpa using hd)
def zI8 (st:St) (pl:Pl) (d n:Nat) (B:Blk) (pc:Pc):Option (Nat×Nat)→Prop
 |none=>pc=pl d n
 |some (j,o)=>∃B0,st.get d n=some B0∧(pc=pcO (pl d n (j*B0.sz+o+1))∨(pc=nop∧B.k= .row []))
def zI9 (st:St) (d n:Nat) (B:Blk):Option (Nat×Nat)→Prop
 |none=>∃B0,st.get d n=some B0∧B={B0 with g:=0}∧(match B0.k with| .row _=>True| .deep _ _=>True| .box cells=>cells.all isP=true| .dead=>False)
 |some (j,o)=>∃g sz ty cols rows e inner,st.get d n=some ⟨g,sz,ty,.deep cols rows⟩∧rows[j]?=some e∧e[o]?=some (.ls inner)∧look o cols=some (B.sz,B.ty)∧o<sz∧B=⟨0,B.sz,B.ty,.row inner⟩
structure LentB (st:St) (a a':AV) (d n:Nat) (q:Option (Nat×Nat)) (B:Blk):Prop where
 blk:zI9 st d n B q
 arg:∀{F:Nat→Prop} {pl:Pl} {w:World} {v:Value},(∀d n B,zB d n (st.fr::st.up)=some B→zY F (st.fr::st.up) pl w d n B)→zd F (st.fr::st.up) pl w v a→∃pc,zI8 st pl d n B pc q∧∀{F':Nat→Prop} {pl1:Pl},pl1 0 0=pc→zd F' [[(0,B)]] pl1 w v a'
theorem zJA {x y:AV} {d n:Nat} {q:Option (Nat×Nat)} {B:Blk} (h:zBA st x=some (y,d,n,q,B)):LentB st x y d n q B:=by
 unfold zBA at h
 split at h
 ·split at h
  ·rename_i g' sz ty rows hB
   split at h
   ·rename_i hc
    cases h
    refine ⟨⟨_,hB,rfl,trivial⟩,fun {F pl w v} _ hr=>⟨_,rfl,fun {F' pl1} hp=>?_⟩⟩
    obtain ⟨h1,B1,h2,h3,h4⟩:=hr
    have h2:some B1=some _:=h2.symm.trans hB
    cases h2
    refine ⟨h1,⟨0,sz,ty,.row rows⟩,by simp [zB,look],Nat.le_refl _,fun _=>?_⟩
    rw [hp]
    exact h4 hc.1
   ·cases h
  ·rename_i g' sz ty cols rows hB
   split at h
   ·rename_i hc
    cases h
    refine ⟨⟨_,hB,rfl,trivial⟩,fun {F pl w v} _ hr=>⟨_,rfl,fun {F' pl1} hp=>?_⟩⟩
    obtain ⟨h1,B1,h2,h3,h4⟩:=hr
    have h2:some B1=some _:=h2.symm.trans hB
    cases h2
    refine ⟨h1,⟨0,sz,ty,.deep cols rows⟩,by simp [zB,look],Nat.le_refl _,fun _=>?_⟩
    rw [hp]
    exact h4 hc.1
   ·cases h
  ·cases h
 ·rename_i d' n' g j o m esz
  obtain ⟨q,hq,h⟩:=Option.map_eq_some_iff.1 h
  cases h
  obtain ⟨sz,ty,cols,rows,e,hB,hj,he,hl,ho,hm⟩:=zBp hq
  refine ⟨⟨g,sz,ty,cols,rows,e,q.2,hB,hj,he,hl,ho,rfl⟩,fun {F pl w v} hall hr=>?_⟩
  obtain ⟨h1,B1,h2,h3,h4⟩:=hr
  have h2:some B1=some _:=h2.symm.trans hB
  cases h2
  obtain ⟨v',hd⟩:=zFM (hall _ _ _ hB) hj he hl
  rcases h4 rfl with ⟨rfl,hm0⟩|⟨b,s,cap,a1,a2,a3,a4,a5⟩
  ·have hin:q.2= []:=zAQ (by omega)
   refine ⟨nop,⟨_,hB,.inr ⟨rfl,by rw [hin]⟩⟩,fun {F' pl1} hp=>⟨h1,⟨0,esz,q.1,.row q.2⟩,by simp [zB,look],Nat.le_refl _,fun _=> .inl ⟨rfl,hm0,by rw [hp];rfl⟩⟩⟩
  ·refine ⟨_,⟨_,hB,.inl rfl⟩,fun {F' pl1} hp=>⟨h1,⟨0,esz,q.1,.row q.2⟩,by simp [zB,look],Nat.le_refl _,fun _=> .inr ⟨b,s,cap,?_,a2,a3,a4,a5⟩⟩⟩
   rw [hp]
   simp only at a1⊢
   rw [a1]
   rfl
 ·split at h
  ·rename_i d' n' g g' sz ty cells hB
   split at h
   ·rename_i hc
    cases h
    refine ⟨⟨_,hB,rfl,hc.2⟩,fun {F pl w v} _ hr=>⟨_,rfl,fun {F' pl1} hp=>?_⟩⟩
    obtain ⟨h1,B1,h2,h3,h4⟩:=hr
    have h2:some B1=some _:=h2.symm.trans hB
    cases h2
    refine ⟨h1,⟨0,sz,ty,.box cells⟩,by simp [zB,look],Nat.le_refl _,fun _=>?_⟩
    rw [hp]
    simpa using h4 hc.1
   ·cases h
  ·cases h
 ·cases h
theorem zF3:∀{xs ys:List AV} {d n:Nat} {q:Option (Nat×Nat)} {B:Blk},zAp st xs=some (ys,d,n,q,B)→zI9 st d n B q∧
  ∀{F:Nat→Prop} {pl:Pl} {w:World} {us:List Value},(∀d n B,zB d n (st.fr::st.up)=some B→zY F (st.fr::st.up) pl w d n B)→zAW F (st.fr::st.up) pl w us xs→∃pc,zI8 st pl d n B pc q∧∀{F':Nat→Prop} {pl1:Pl},pl1 0 0=pc→(∀{u x},RepP (Own F pl) w u x→RepP (Own F' pl1) w u x)→zAW F' [[(0,B)]] pl1 w us ys
 | [],ys,d,n,q,B,h=>by cases h
 |x::xs,ys,d,n,q,B,h=>by
  simp only [zAp] at h
  split at h
  ·rename_i a q' hx
   obtain ⟨r,h1,h2⟩:=Option.map_eq_some_iff.1 h
   cases h2
   have hl:=zJA hx
   refine ⟨hl.blk,fun {F pl w us} hall hr=>?_⟩
   cases us with
   |nil=>have:=hr.1;simp at this
   |cons u us=>
    obtain ⟨pc,g1,g2⟩:=hl.arg hall (hr.2 0 u x rfl rfl)
    refine ⟨pc,g1,fun {F' pl1} hp hP=>?_⟩
    have ih:=zD1 hP (fs':= [[(0,B)]]) h1 (us:=us) ⟨by have:=hr.1;simpa using this,fun i v d hv hd=>hr.2 (i+1) v d (by simpa using hv) (by simpa using hd)⟩
    refine ⟨by have:=ih.1;simp [this],fun i v e hv he=>?_⟩
    cases i with
    |zero=>cases hv;cases he;exact g2 hp
    |succ i=>exact ih.2 i v e (by simpa using hv) (by simpa using he)
  ·simp only [zN,zL] at h
   obtain ⟨a,h1,⟨r,q'⟩,h2,h3⟩:=h
   cases h3
   obtain ⟨g1,g2⟩:=zF3 h2
   refine ⟨g1,fun {F pl w us} hall hr=>?_⟩
   cases us with
   |nil=>have:=hr.1;simp at this
   |cons u us=>
    obtain ⟨pc,g3,g4⟩:=g2 hall (us:=us) ⟨by have:=hr.1;simpa using this,fun i v d hv hd=>hr.2 (i+1) v d (by simpa using hv) (by simpa using hd)⟩
    refine ⟨pc,g3,fun {F' pl1} hp hP=>?_⟩
    have ih:=g4 hp hP
    refine ⟨by have:=ih.1;simp [this],fun i v e hv he=>?_⟩
    cases i with
    |zero=>cases hv;cases he;exact zEo hP h1 (hr.2 0 u x rfl rfl)
    |succ i=>exact ih.2 i v e (by simpa using hv) (by simpa using he)
theorem zCY {φ:CV→CV} (hφ:∀x,φ (.p x)= .p x) {v:AV} (h:∀c∈v.cvs,isP c=true):v.map φ=v:=by
 have key:∀cs:List CV,(∀c∈cs,isP c=true)→cs.map φ=cs:=fun cs h=>by
  conv=>rhs;rw [←List.map_id cs]
  refine List.map_congr_left fun c hc=>?_
  have:=h c hc
  cases c with
  |p x=>exact hφ x
  |_=>simp [isP] at this
 cases v with
 |c x=>
  have:=key [x] (fun c hc=>h c hc)
  simp only [List.map_cons,List.map_nil,List.cons.injEq,and_true] at this
  simp [AV.map,this]
 |agg cs=>simp only [AV.map];rw [key cs h]
 |tup vs=>
  simp only [AV.map]
  congr 1
  conv=>rhs;rw [←List.map_id vs]
  refine List.map_congr_left fun p hp=>?_
  obtain ⟨b,cs⟩:=p
  simp only [id]
  rw [key cs fun c hc=>h c (by simp only [AV.cvs,List.mem_flatMap];exact ⟨_,hp,hc⟩)]
theorem zCZ {u:Value} {v:AV} (hv:∀c∈v.cvs,isP c=true) {ww ww':World} (hP:∀{u p},RepP (Own F pl) ww u p→RepP (Own F' pl') ww' u p) (h:zd F fs pl ww u v):zd F' fs' pl' ww' u v:=by
 have:=zAv (φ:=id) (F':=F') (fs':=fs') (pl':=pl') (ww':=ww') (fun u c hc h=>by
  have hp:=hv c hc
  cases c with
  |p x=>exact hP h
  |_=>simp [isP] at hp) (fun c h=>h) h
 have e:v.map id=v:=by cases v<;>simp [AV.map]
 rwa [e] at this
theorem zEp (hm:MemOK F N0 (st.fr::st.up) pl w) {d n:Nat} {q:Option (Nat×Nat)} {B:Blk} {pc:Pc} (hK:zI9 st d n B q) (hg:zI8 st pl d n B pc q) {fs':List Frame} {pl1:Pl} (p0:pl1 0 0=pc) (hP1:∀{u x},RepP (Own F pl) w u x→RepP (Own F' pl1) w u x):
  zY F' fs' pl1 w 0 0 B∧B.g=0∧(∃B0,zB d n (st.fr::st.up)=some B0)∧(∀j x,pc j=some x→∃j',pl d n j'=some x)∧(∀j j' b s s',pc j=some (b,s)→pc j'=some (b,s')→j=j'):=by
 cases q with
 |none=>
  have hg:pc=pl d n:=hg
  subst hg
  obtain ⟨B0,hB0,rfl,hkind⟩:=hK
  have hB0:zB d n (st.fr::st.up)=some B0:=hB0
  refine ⟨?_,rfl,⟨B0,hB0⟩,fun j x h=>⟨j,h⟩,fun j j' b s s' h h'=>(hm.inj _ _ _ _ _ _ _ _ _ h h').2.2⟩
  have hb:=hm.blk d n B0 hB0
  unfold zY at hb⊢
  simp only
  cases hk:B0.k with
  |box cells=>
   rw [hk] at hb hkind
   obtain ⟨b,us,g1,g2,g3,g4⟩:=hb
   exact ⟨b,us,p0.trans g1,g2,zA4 (fun h=>hP1 h) rfl rfl hkind g3,zBo hkind _⟩
  |row rows=>
   rw [hk] at hb
   rcases hb with ⟨g1,g2⟩|⟨b,s,us,g1,g2,g3,g4,g5,g6⟩
   ·exact .inl ⟨g1,p0.trans g2⟩
   ·exact .inr ⟨b,s,us,p0.trans g1,g2,g3,g4,g5,fun j e o x he hx=>by
     obtain ⟨v,hv,hrr⟩:=g6 j e o x he hx
     exact ⟨v,hv,hP1 hrr⟩⟩
  |deep cols rows=>
   rw [hk] at hb
   rcases hb with ⟨g1,g2⟩|⟨b,s,us,g1,g2,g3,g4,g5,g6,g7⟩
   ·exact .inl ⟨g1,p0.trans g2⟩
   ·refine .inr ⟨b,s,us,by rw [p0];exact g1,g2,g3,g4,g5,fun j e o x he hx=>?_,fun c hc=>by rw [p0];exact g7 c hc⟩
    obtain ⟨v,hv,hrr⟩:=g6 j e o x he hx
    rw [p0]
    exact ⟨v,hv,hrr.keep (fun h=>hP1 h) (fun _ _ _ _=>rfl)⟩
  |dead=>rw [hk] at hkind;exact hkind.elim
 |some t=>
  obtain ⟨j,o⟩:=t
  obtain ⟨g,sz,ty,cols,rows,e,inner,hB,hj,he,hl,ho,hBe⟩:=hK
  obtain ⟨B0,hB0,hpc⟩:=hg
  rw [hB] at hB0
  cases hB0
  have hB:zB d n (st.fr::st.up)=some ⟨g,sz,ty,.deep cols rows⟩:=hB
  refine ⟨?_,by rw [hBe],⟨_,hB⟩,?_,?_⟩
  ·rw [hBe]
   rcases hpc with rfl|⟨rfl,hk⟩
   ·obtain ⟨v,hd⟩:=zFM (hm.blk _ _ _ hB) hj he hl
    rcases hd with ⟨h1,_,h3⟩|⟨inner',b,s,cap,us,h1,h2,h3,h4,h5,h6,h7,h8,h9,h10⟩
    ·refine .inl ⟨?_,by rw [p0];simp only;rw [h3];rfl⟩
     rcases h1 with h1|h1<;>cases h1
     rfl
    ·cases h1
     refine .inr ⟨b,s,us,by rw [p0];simp only;rw [h2];rfl,h7,h8,by rw [h4];exact Nat.mul_le_mul_right _ h5,h9,fun j e o x he hx=>?_⟩
     obtain ⟨u,hu,hr⟩:=h10 j e o x he hx
     exact ⟨u,hu,hP1 hr⟩
   ·rw [hBe] at hk
    simp only [BK.row.injEq] at hk
    exact .inl ⟨hk,p0⟩
  ·intro j' x hx
   rcases hpc with rfl|⟨rfl,_⟩
   ·simp only at hx
    cases hq:pl d n (j*sz+o+1) with
    |none=>rw [hq] at hx;cases hx
    |some y=>
     rw [hq] at hx
     obtain ⟨_,rfl⟩:=zAE hx
     exact ⟨_,hq⟩
   ·cases hx
  ·rcases hpc with rfl|⟨rfl,_⟩
   ·exact zHT _
   ·exact zBn
theorem DCell.keep1 {F':Nat→Prop} {p:Pc} {cols:List (Nat×Nat×TypeId)} {sz j o:Nat} {v:Value} {x:PV} (h:DCell F w pl p cols sz j o v x) (hP:∀{u y},RepP (Own F pl) w u y→RepP (Own F' pl') w' u y) (hw:∀b s,p (j*sz+o+1)=some (b,s)→w'.heap[b]?=w.heap[b]?):DCell F' w' pl' p cols sz j o v x:=by
 unfold DCell at h⊢
 cases hl:look o cols with
 |some q=>
  rw [hl] at h
  exact DeepP.keep h hP (fun b s e=>hw b s e)
 |none=>
  rw [hl] at h
  exact hP h
theorem zJB {run:zh} (hS:zA5 G P run) (hr:Rel F N0 T pl st a w) {f:FuncId} {args:List AV} {vals:List Value} {dst:Nat} {v:AV} (ha:zAW F (st.fr::st.up) pl w vals args) (h:((zAp st args).bind fun (args',d,n,q,B)=>(run f args' [[(0,B)]]).bind fun r=>zBY st dst d n q B r)=some (v,st')):
  Goes P f vals.toArray w fun u w'=>Post F N0 pl st w v st' u w'∧∀args' d n q B,zAp st args=some (args',d,n,q,B)→KeepB (fun k=>∀j s,pl d n j≠some (k,s)) w w':=by
 obtain ⟨⟨args',d,n,q,B⟩,h1,h⟩:=Option.bind_eq_some_iff.1 h
 obtain ⟨r,h2,h⟩:=Option.bind_eq_some_iff.1 h
 obtain ⟨hLK,hLA⟩:=zF3 h1
 obtain ⟨pc,hgp,hLA⟩:=hLA hr.mem.blk ha
 let pl1:Pl:=fun d' n'=>if d'=0∧n'=0 then pc else nop
 let F':Nat→Prop:=fun k=>Own F pl k∧∀j s,pc j≠some (k,s)
 have p0:pl1 0 0=pc:=by simp [pl1]
 have p1:∀{d' n' j x},pl1 d' n' j=some x→d'=0∧n'=0∧pc j=some x:=fun {d' n' j x} h=>by
  simp only [pl1] at h
  split at h
  ·rename_i e;exact ⟨e.1,e.2,h⟩
  ·cases h
 obtain ⟨_,_,⟨B0,hB0⟩,hin,hinj⟩:=zEp (fs':= []) (pl1:=pl1) (F':=Own F pl) hr.mem hLK hgp p0 (fun {u x} h=>h.step (fun _ _ _=>rfl) (Nat.le_refl _) fun k hk=>by
  rcases hk with hk|⟨d',n',j,s,hk⟩
  ·exact .inl hk
  ·cases q with
   |none=>
    have hgp:pc=pl d n:=hgp
    have:=(p1 hk).2.2
    rw [hgp] at this
    exact .inl (.inr ⟨_,_,_,_,this⟩)
   |some t=>
    obtain ⟨B9,_,h9⟩:=hgp
    have h8:=(p1 hk).2.2
    rcases h9 with h9|⟨h9,_⟩
    ·rw [h9] at h8
     cases hq:pl d n (t.1*B9.sz+t.2+1) with
     |none=>rw [hq] at h8;cases h8
     |some y=>
      rw [hq] at h8
      obtain ⟨_,h7⟩:=zAE h8
      exact .inl (.inr ⟨d,n,_,s,hq.trans (congrArg some h7.symm)⟩)
    ·rw [h9] at h8;cases h8)
 have own1:∀k,Own F' pl1 k→Own F pl k:=fun k h=>by
  rcases h with h|⟨d',n',j,s,h⟩
  ·exact h.1
  ·obtain ⟨j',hj'⟩:=hin _ _ (p1 h).2.2
   exact .inr ⟨d,n,j',s,hj'⟩
 have hP1:∀{u x},RepP (Own F pl) w u x→RepP (Own F' pl1) w u x:=fun {u x} h=>h.step (fun _ _ _=>rfl) (Nat.le_refl _) fun k hk=> .inl (own1 k hk)
 obtain ⟨hBK,hBg,_,_,_⟩:=zEp (fs':= [[(0,B)]]) (pl1:=pl1) (F':=F') hr.mem hLK hgp p0 hP1
 have hm1:MemOK F' N0 [[(0,B)]] pl1 w:=by
  refine ⟨fun d' n' j k s h=>?_,fun d1 n1 j1 d2 n2 j2 k s s' h1 h2=>?_,fun d' n' B' hB=>?_,fun k hk=>?_,hr.mem.fix⟩
  ·obtain ⟨rfl,rfl,h3⟩:=p1 h
   obtain ⟨j',hj'⟩:=hin _ _ h3
   obtain ⟨g1,g2,_,_⟩:=hr.mem.live d n j' k s hj'
   exact ⟨g1,g2,fun hk=>hk.2 j s h3,B,by simp [zB,look]⟩
  ·obtain ⟨rfl,rfl,e1⟩:=p1 h1
   obtain ⟨rfl,rfl,e2⟩:=p1 h2
   exact ⟨rfl,rfl,hinj _ _ k s s' e1 e2⟩
  ·have hlt:=zH hB
   have hd:d'=0:=by simp at hlt;exact hlt
   subst hd
   simp only [zB,List.length_nil,if_true,look] at hB
   split at hB
   ·rename_i e
    subst e
    cases hB
    exact hBK
   ·cases hB
  ·rcases hk.1 with h|⟨d',n',j,s,h⟩
   ·exact hr.mem.fsz k h
   ·exact (hr.mem.live d' n' j k s h).2.1
 refine (hS f args' _ r h2 F' N0 pl1 w _ hm1 hr.low (hLA p0 hP1)).mono fun u w' hret=>?_
 obtain ⟨⟨pl',r1,r2,r3⟩,r4,r5⟩:=hret
 have hD:d<(st.fr::st.up).length:=zH hB0
 have hkb:KeepB (fun k=>∀j s,pl d n j≠some (k,s)) w w':=⟨r3.step.size,fun k hk hn=>r3.step.block k hk fun d' n' j s h=>by
  obtain ⟨j',hj'⟩:=hin _ _ (p1 h).2.2
  exact hn j' s hj'⟩
 have hstep:Step pl w w':=⟨r3.step.os,r3.step.tape,r3.step.output,r3.step.size,fun k hk hn=>hkb.2 k hk fun j s=>hn d n j s⟩
 have outF:∀{k},F k→F' k:=fun {k} h=>⟨.inl h,fun j s e=>by
  obtain ⟨j',hj'⟩:=hin _ _ e
  exact (hr.mem.live _ _ _ _ _ hj').2.2.1 h⟩
 have outO:∀{d' n' j k s},pl d' n' j=some (k,s)→¬(d'=d∧n'=n)→F' k:=fun {d' n' j k s} h e=>⟨.inr ⟨d',n',j,s,h⟩,fun j' s' h'=>by
  obtain ⟨j2,hj2⟩:=hin _ _ h'
  have e9:=hr.mem.inj _ _ _ _ _ _ k s s' h hj2
  exact e ⟨e9.1,e9.2.1⟩⟩
 have other:∀{d' n' j b s},pl d' n' j=some (b,s)→¬(d'=d∧n'=n)→w'.heap[b]?=w.heap[b]?:=fun {d' n' j b s} h e=>hkb.2 b (hr.mem.live _ _ _ _ _ h).2.1 fun j' s' h'=>by
  have e9:=hr.mem.inj _ _ _ _ _ _ b s s' h h'
  exact e ⟨e9.1,e9.2.1⟩
 refine ⟨?_,fun args2 d2 n2 q2 B2 h12=>by rw [h1] at h12;cases h12;exact hkb⟩
 unfold zBY at h
 cases q with
 |none=>
  simp only at h
  have hgp:pc=pl d n:=hgp
  obtain ⟨B0',hB0',rfl,hkind⟩:=hLK
  have hB0':zB d n (st.fr::st.up)=some B0':=hB0'
  rw [hB0] at hB0'
  cases hB0'
  split at h
  ·rename_i fr' hup
   split at h
   ·rename_i B1 B0' hB' hB0'
    have hB0':zB d n (st.fr::st.up)=some B0':=hB0'
    rw [hB0] at hB0'
    cases hB0'
    split at h
    ·rename_i hc
     obtain ⟨c1,cty,csz,c2,c3,c4⟩:=hc
     cases h
     have hrows:r.rows= []:=by simpa using c2
     rw [hup] at r1 r2 r3
     rw [hrows] at r1 r2
     have q4:Ext (pl d n) (pl' 0 0):=by
      obtain ⟨B2,q1,q3⟩:=r3.later.blk 0 0 {B0 with g:=0} (by simp [zB,look])
      have q1:look 0 fr'=some B2:=by simpa [zB] using q1
      rw [hB'] at q1
      cases q1
      have:=(q3 c1).2.1
      rw [p0,hgp] at this
      exact this
     have t2:zx pl d n (pl' 0 0) d n=pl' 0 0:=zF ..
     have t0:∀d' n',¬(d'=d∧n'=n)→zx pl d n (pl' 0 0) d' n'=pl d' n':=fun d' n' e=>zr pl _ e
     have own3:∀k,Own F (zx pl d n (pl' 0 0)) k→Own F' pl' k:=fun k h=>by
      rcases h with h|⟨d',n',j,s,h⟩
      ·exact .inl (outF h)
      ·by_cases e:d'=d∧n'=n
       ·obtain ⟨rfl,rfl⟩:=e
        rw [t2] at h
        exact .inr ⟨0,0,j,s,h⟩
       ·rw [t0 d' n' e] at h
        exact .inl (outO h e)
     have hP2:∀{u x},RepP (Own F' pl') w' u x→RepP (Own F (zx pl d n (pl' 0 0))) w' u x:=fun {u x} h=>h.step (fun _ _ _=>rfl) (Nat.le_refl _) fun k hk=> .inl (own3 k hk)
     have hnew:∀{j b s},pl' 0 0 j=some (b,s)→(∃j0 s0,pl d n j0=some (b,s0))∨w.heap.size≤b:=fun {j b s} h=>by
      rcases r3.later.new 0 0 j b s h with ⟨d0,n0,j0,s0,h0⟩|h0
      ·obtain ⟨j',hj'⟩:=hin _ _ (p1 h0).2.2
       exact .inl ⟨j',s0,hj'⟩
      ·exact .inr h0
     have hK:Keep F (st.fr::st.up) ((st.set d n {B0 with k:=B1.k}).fr::(st.set d n {B0 with k:=B1.k}).up) pl (zx pl d n (pl' 0 0)) w w':=by
      refine ⟨hstep,by simp [zBO],fun d' n' b hb=>?_,fun d' n' j b s h=>?_⟩
      ·rw [zAU hD]
       by_cases e:d'=d∧n'=n
       ·obtain ⟨rfl,rfl⟩:=e
        rw [hB0] at hb
        cases hb
        exact ⟨{B0 with k:=B1.k},by rw [if_pos ⟨rfl,rfl⟩],Nat.le_refl _,fun _=>⟨by rw [t2];exact q4,rfl⟩⟩
       ·exact ⟨b,by rw [if_neg e];exact hb,Nat.le_refl _,fun _=>⟨Ext.of (t0 d' n' e),rfl⟩⟩
      ·by_cases e:d'=d∧n'=n
       ·obtain ⟨rfl,rfl⟩:=e
        rw [t2] at h
        exact (hnew h).imp (fun ⟨j0,s0,h0⟩=>⟨_,_,j0,s0,h0⟩) id
       ·rw [t0 d' n' e] at h
        exact .inl ⟨d',n',j,s,h⟩
     have hblk:=r2.blk 0 0 B1 (by simp only [za,zB,List.length_cons,List.length_nil,Nat.zero_add,Nat.zero_ne_one,if_false,if_true];exact hB')
     have mix:∀{d' n' j j' k s s'},pl' 0 0 j=some (k,s)→pl d' n' j'=some (k,s')→¬(d'=d∧n'=n)→False:=fun {d' n' j j' k s s'} h1 h2 e=>by
      rcases hnew h1 with ⟨j0,s0,h0⟩|h0
      ·have e9:=hr.mem.inj _ _ _ _ _ _ k s' s0 h2 h0
       exact e ⟨e9.1,e9.2.1⟩
      ·have:=(hr.mem.live _ _ _ _ _ h2).2.1
       omega
     refine ⟨⟨zx pl d n (pl' 0 0),?_,⟨fun d' n' j k s h=>?_,fun d1 n1 j1 d2 n2 j2 k s s' h1 h2=>?_,fun d' n' Bx hBx=>?_,fun k hk=>Nat.lt_of_lt_of_le (hr.mem.fsz k hk) hstep.size,zAr hr.mem hstep.block⟩,hK⟩,zy _ _ _ _⟩
     ·have hfl:∀c∈r.v.cvs,isP c=true:=fun c hc=>List.all_eq_true.1 c3 c hc
      rw [zCY (fun x=>rfl) hfl]
      rw [zCY (fun x=>rfl) hfl] at r1
      exact zCZ hfl (fun h=>hP2 h) r1
     ·rw [zAU hD]
      by_cases e:d'=d∧n'=n
      ·obtain ⟨rfl,rfl⟩:=e
       rw [t2] at h
       obtain ⟨g1,g2,g3,_⟩:=r2.live 0 0 j k s h
       exact ⟨g1,g2,fun hF=>g3 (outF hF),{B0 with k:=B1.k},by rw [if_pos ⟨rfl,rfl⟩]⟩
      ·rw [t0 d' n' e] at h
       obtain ⟨g1,g2,g3,Bq,g4⟩:=hr.mem.live d' n' j k s h
       exact ⟨g1,Nat.lt_of_lt_of_le g2 hstep.size,g3,Bq,by rw [if_neg e];exact g4⟩
     ·by_cases x1:d1=d∧n1=n<;>by_cases x2:d2=d∧n2=n
      ·obtain ⟨rfl,rfl⟩:=x1
       obtain ⟨rfl,rfl⟩:=x2
       rw [t2] at h1 h2
       exact ⟨rfl,rfl,(r2.inj _ _ _ _ _ _ k s s' h1 h2).2.2⟩
      ·obtain ⟨rfl,rfl⟩:=x1
       rw [t2] at h1
       rw [t0 _ _ x2] at h2
       exact (mix h1 h2 x2).elim
      ·obtain ⟨rfl,rfl⟩:=x2
       rw [t2] at h2
       rw [t0 _ _ x1] at h1
       exact (mix h2 h1 x1).elim
      ·rw [t0 _ _ x1] at h1
       rw [t0 _ _ x2] at h2
       exact hr.mem.inj _ _ _ _ _ _ k s s' h1 h2
     ·rw [zAU hD] at hBx
      split at hBx
      ·rename_i e
       obtain ⟨rfl,rfl⟩:=e
       cases hBx
       unfold zY at hblk⊢
       simp only
       cases hk:B1.k with
       |box cells=>
        rw [hk] at hblk c4
        obtain ⟨b,us,g1,g2,g3,g4⟩:=hblk
        have hp:cells.all isP=true:=by
         cases hk0:B0.k with
         |box c0=>rw [hk0] at c4;exact c4
         |row r0=>rw [hk0] at c4;cases c4
         |deep c r0=>rw [hk0] at c4;cases c4
         |dead=>rw [hk0] at c4;cases c4
        exact ⟨b,us,t2.trans g1,by rw [←cty];exact g2,zA4 (fun h=>hP2 h) rfl rfl hp g3,zBo hp _⟩
       |row rows=>
        rw [hk] at hblk
        rcases hblk with ⟨g1,g2⟩|⟨b,s,us,g1,g2,g3,g4,g5,g6⟩
        ·exact .inl ⟨g1,t2.trans g2⟩
        ·exact .inr ⟨b,s,us,t2.trans g1,by rw [←cty];exact g2,g3,by rw [←csz];exact g4,fun e he=>by rw [←csz];exact g5 e he,fun j e o x he hx=>by
          obtain ⟨v,hv,hrr⟩:=g6 j e o x he hx
          exact ⟨v,by rw [←csz];exact hv,hP2 hrr⟩⟩
       |deep cols rows=>
        rw [hk] at hblk
        rcases hblk with ⟨g1,g2⟩|⟨b,s,us,g1,g2,g3,g4,g5,g6,g7⟩
        ·exact .inl ⟨g1,t2.trans g2⟩
        ·refine .inr ⟨b,s,us,by rw [t2];exact g1,by rw [←cty];exact g2,g3,by rw [←csz];exact g4,fun e he=>by rw [←csz];exact g5 e he,fun j e o x he hx=>?_,fun c hc=>by rw [t2];exact g7 c (by rw [csz];exact hc)⟩
         obtain ⟨v,hv,hrr⟩:=g6 j e o x he hx
         refine ⟨v,by rw [←csz];exact hv,?_⟩
         rw [t2]
         rw [csz] at hrr
         exact hrr.keep (fun h=>hP2 h) (fun _ _ _ _=>rfl)
       |dead=>
        rw [hk] at c4
        cases hk0:B0.k<;>(rw [hk0] at c4;cases c4)
      ·rename_i e
       exact zAN hK (t0 _ _ e) (fun j b s h=>other h e) (hr.mem.blk d' n' Bx hBx)
    ·cases h
   ·cases h
  ·cases h
 |some t=>
  obtain ⟨j0,o0⟩:=t
  obtain ⟨g,sz,ty,cols,rows,e,inner,hB,hj,he,hl,ho,hBe⟩:=hLK
  obtain ⟨B9,hB9,hpc⟩:=hgp
  rw [hB] at hB9
  cases hB9
  have hBd:zB d n (st.fr::st.up)=some ⟨g,sz,ty,.deep cols rows⟩:=hB
  simp only at hpc
  have hpx:∀{j x},pc j=some x→j=0∧pl d n (j0*sz+o0+1)=some x:=fun {j x} h=>by
   rcases hpc with h9|⟨h9,_⟩
   ·rw [h9] at h
    cases hq:pl d n (j0*sz+o0+1) with
    |none=>rw [hq] at h;cases h
    |some y=>
     rw [hq] at h
     obtain ⟨e1,e2⟩:=zAE h
     exact ⟨e1,congrArg some e2.symm⟩
   ·rw [h9] at h;cases h
  have hsame:∀{i b s},pl d n i=some (b,s)→i≠j0*sz+o0+1→w'.heap[b]?=w.heap[b]?:=fun {i b s} h hne=>r3.step.block b (hr.mem.live _ _ _ _ _ h).2.1 fun d' n' j s' h'=>by
   have h8:=(hpx (p1 h').2.2).2
   exact hne (hr.mem.inj _ _ _ _ _ _ _ _ _ h h8).2.2
  simp only at h
  split at h
  ·rename_i fr' hup
   split at h
   ·rename_i sz' ty' inner' g9 sz9 ty9 cols9 rows9 inner9 hB' hB9 hk9
    rw [hB] at hB9
    cases hB9
    rw [hBe] at hk9
    cases hk9
    split at h
    ·rename_i e9 hj9
     rw [hj] at hj9
     cases hj9
     split at h
     ·rename_i hc
      obtain ⟨rfl,rfl,c2,c3,c4⟩:=hc
      cases h
      have hrows:r.rows= []:=by simpa using c2
      rw [hup] at r1 r2 r3
      rw [hrows] at r1 r2
      have q4:Ext pc (pl' 0 0):=by
       obtain ⟨B2,q1,q3⟩:=r3.later.blk 0 0 B (by simp [zB,look])
       have q1:look 0 fr'=some B2:=by simpa [zB] using q1
       rw [hB'] at q1
       cases q1
       have:=(q3 rfl).2.1
       rw [p0] at this
       exact this
      have own3:∀k,Own F pl k→Own F' pl' k:=fun k hx=>by
       rcases hx with hx|⟨d',n',j,s,hx⟩
       ·exact .inl (outF hx)
       ·by_cases ed:d'=d∧n'=n
        ·obtain ⟨rfl,rfl⟩:=ed
         by_cases ep:∃j' s',pc j'=some (k,s')
         ·obtain ⟨j',s',ep⟩:=ep
          exact .inr ⟨0,0,j',s',q4.2 j' _ ep⟩
         ·exact .inl ⟨.inr ⟨_,_,j,s,hx⟩,fun j' s' h'=>ep ⟨j',s',h'⟩⟩
        ·exact .inl (outO hx ed)
      have hP2:∀{u x},RepP (Own F' pl') w' u x→RepP (Own F pl) w' u x:=fun {u x} h=>h.step (fun _ _ _=>rfl) (Nat.le_refl _) fun k hk=> .inl (own3 k hk)
      have hK:Keep F (st.fr::st.up) ((st.set d n ⟨g,sz,ty,.deep cols (rows.set j0 (e.set o0 (.ls inner')))⟩).fr::(st.set d n ⟨g,sz,ty,.deep cols (rows.set j0 (e.set o0 (.ls inner')))⟩).up) pl pl w w':=by
       refine ⟨hstep,by simp [zBO],fun d' n' b hb=>?_,fun d' n' j b s h=> .inl ⟨d',n',j,s,h⟩⟩
       rw [zAU hD]
       by_cases ed:d'=d∧n'=n
       ·obtain ⟨rfl,rfl⟩:=ed
        rw [hBd] at hb
        cases hb
        exact ⟨⟨g,sz,ty,.deep cols (rows.set j0 (e.set o0 (.ls inner')))⟩,by rw [if_pos ⟨rfl,rfl⟩],Nat.le_refl _,fun _=>⟨Ext.refl _,rfl⟩⟩
       ·exact ⟨b,by rw [if_neg ed];exact hb,Nat.le_refl _,fun _=>⟨Ext.refl _,rfl⟩⟩
      have hblk:=r2.blk 0 0 _ (by simp only [za,zB,List.length_cons,List.length_nil,Nat.zero_add,Nat.zero_ne_one,if_false,if_true];exact hB')
      have hjl:j0<rows.length:=(List.getElem?_eq_some_iff.1 hj).1
      refine ⟨⟨pl,?_,⟨fun d' n' j k s h=>?_,hr.mem.inj,fun d' n' Bx hBx=>?_,fun k hk=>Nat.lt_of_lt_of_le (hr.mem.fsz k hk) hstep.size,zAr hr.mem hstep.block⟩,hK⟩,zy _ _ _ _⟩
      ·have hfl:∀c∈r.v.cvs,isP c=true:=fun c hc=>List.all_eq_true.1 c3 c hc
       rw [zCY (fun x=>rfl) hfl]
       rw [zCY (fun x=>rfl) hfl] at r1
       exact zCZ hfl (fun h=>hP2 h) r1
      ·rw [zAU hD]
       obtain ⟨g1,g2,g3,Bq,g4⟩:=hr.mem.live d' n' j k s h
       refine ⟨g1,Nat.lt_of_lt_of_le g2 hstep.size,g3,?_⟩
       by_cases ed:d'=d∧n'=n
       ·exact ⟨⟨g,sz,ty,.deep cols (rows.set j0 (e.set o0 (.ls inner')))⟩,by rw [if_pos ed]⟩
       ·exact ⟨Bq,by rw [if_neg ed];exact g4⟩
      ·rw [zAU hD] at hBx
       split at hBx
       ·rename_i ed
        obtain ⟨rfl,rfl⟩:=ed
        cases hBx
        rcases hr.mem.blk _ _ _ hBd with ⟨g1,g2⟩|⟨b,s,us,g1,g2,g3,g4,g5,g6,g7⟩
        ·have g1:rows= []:=g1
         rw [g1] at hj;simp at hj
        simp only at g2 g4 g5 g6 g7
        refine .inr ⟨b,s,us,g1,(hsame g1 (Ne.symm (Nat.succ_ne_zero _))).trans g2,g3,by simpa using g4,fun e2 he2=>?_,fun j' e2 o' x' hj' hx'=>?_,by simpa using g7⟩
        ·rcases List.mem_or_eq_of_mem_set he2 with h8|rfl
         ·exact g5 _ h8
         ·simpa using g5 e (zn hj)
        ·simp only at hj' hx'⊢
         by_cases e1:j'=j0∧o'=o0
         ·obtain ⟨rfl,rfl⟩:=e1
          rw [List.getElem?_set_self hjl] at hj'
          cases hj'
          have hol:=(List.getElem?_eq_some_iff.1 he).1
          rw [List.getElem?_set_self hol] at hx'
          cases hx'
          obtain ⟨v,hv,hd⟩:=g6 j' e o' _ hj he
          refine ⟨v,hv,?_⟩
          unfold DCell at hd⊢
          rw [hl] at hd⊢
          simp only at hd⊢
          rcases hd with ⟨k1,k2,k3⟩|⟨in2,b2,s2,cap,us2,k1,k2,k3,k4,k5,k6,k7,k8,k9,k10⟩
          ·have:inner= []:=by rcases k1 with k1|k1<;>cases k1;rfl
           rw [this] at c4
           exact .inl ⟨.inr (by rw [zAQ (c4.trans rfl)]),k2,k3⟩
          ·cases k1
           rcases hpc with h9|⟨h9,h10⟩
           ·have h11:pl' 0 0 0=some (b2,s2):=by rw [q4.1,h9,k2];rfl
            rcases hblk with ⟨m1,m2⟩|⟨b3,s3,us3,m1,m2,m3,m4,m5,m6⟩
            ·exact (zA2 h11 m2).elim
            ·obtain ⟨rfl,rfl⟩:=zAt h11 m1
             refine .inr ⟨inner',b3,s3,cap,us3,rfl,k2,by rw [c4];exact k3,k4,by rw [c4];exact k5,k6,m2,m3,m5,fun j2 e2 o2 y he2 hy=>?_⟩
             obtain ⟨u,hu,hru⟩:=m6 j2 e2 o2 y he2 hy
             exact ⟨u,hu,hP2 hru⟩
           ·have h12:inner= []:=by rw [hBe] at h10;cases h10;rfl
            rw [h12] at c4
            have h13:inner'= []:=zAQ (c4.trans rfl)
            rw [h13,←h12]
            have h14:w'.heap[b2]?=w.heap[b2]?:=r3.step.block b2 (hr.mem.live _ _ _ _ _ k2).2.1 fun d' n' j s' h'=>by
             have:=(p1 h').2.2
             rw [h9] at this
             cases this
            exact .inr ⟨inner,b2,s2,cap,us2,rfl,k2,k3,k4,k5,k6,h14.trans k7,k8,k9,fun j2 e2 o2 y he2 hy=>by
             rw [h12] at he2
             simp at he2⟩
         ·have hold:∃e2',rows[j']?=some e2'∧e2'[o']?=some x':=by
           by_cases ej:j'=j0
           ·subst ej
            rw [List.getElem?_set_self hjl] at hj'
            cases hj'
            rw [List.getElem?_set_ne (fun h=>e1 ⟨rfl,h.symm⟩)] at hx'
            exact ⟨e,hj,hx'⟩
           ·rw [List.getElem?_set_ne (Ne.symm ej)] at hj'
            exact ⟨e2,hj',hx'⟩
          obtain ⟨e2',h8,h9⟩:=hold
          obtain ⟨v,hv,hd⟩:=g6 j' e2' o' x' h8 h9
          have ho2:o'<sz:=by
           rw [←g5 e2' (zn h8)]
           exact (List.getElem?_eq_some_iff.1 h9).1
          refine ⟨v,hv,hd.keep1 (fun h=>hK.repP h) (fun b2 s2 h=>hsame h ?_)⟩
          have:=zFs (j:=j0) (j':=j') ho ho2 e1
          omega
       ·rename_i ed
        exact zAN hK rfl (fun j b s h=>other h ed) (hr.mem.blk d' n' Bx hBx)
     ·cases h
    ·cases h
   ·cases h
  ·cases h
theorem zKF {p p':Pc} {b s b' s':Nat} (h:Ext p p') (h1:p=one b s) (h2:p'=one b' s'):p'=p:=by
 have h3:=h.1
 rw [h1,h2,zFn,zFn] at h3
 rw [h1,h2]
 cases h3
 rfl
theorem zD2 {d0 n0 g0:Nat}:∀{cells l:List CV} {d n g m:Nat},zBT d0 n0 g0 cells=some (l,d,n,g,m)→∃i:Nat,cells[i]?=some (.own d n g m)∧l[i]?=some (.own 0 1 1 m)∧l.length=cells.length∧∀j,j≠i→(l[j]?=cells[j]?∧∀c,cells[j]?=some c→isP c=true)∨(cells[j]?=some (.ptr d0 n0 g0 0 KO)∧l[j]?=some (.ptr 0 0 0 0 KO))
 | [],l,d,n,g,m,h=>by cases h
 |c::r,l,d,n,g,m,h=>by
  cases c with
  |p x=>
   simp only [zBT,zL] at h
   obtain ⟨⟨l',q⟩,h1,h2⟩:=h
   simp only [Prod.mk.injEq] at h2
   obtain ⟨rfl,rfl⟩:=h2
   obtain ⟨i,h3,h4,h5,h6⟩:=zD2 h1
   refine ⟨i+1,by simpa using h3,by simpa using h4,by simp [h5],fun j hj=>?_⟩
   cases j with
   |zero=>exact .inl ⟨rfl,fun c hc=>by simp at hc;subst hc;rfl⟩
   |succ j=>
    rcases h6 j (by omega) with ⟨h7,h8⟩|⟨h7,h8⟩
    ·exact .inl ⟨by simpa using h7,fun c hc=>h8 c (by simpa using hc)⟩
    ·exact .inr ⟨by simpa using h7,by simpa using h8⟩
  |ptr d' n' g' j' o'=>
   simp only [zBT] at h
   split at h
   ·rename_i he
    obtain ⟨rfl,rfl,rfl,rfl,rfl⟩:=he
    obtain ⟨⟨l',q⟩,h1,h2⟩:=Option.map_eq_some_iff.1 h
    simp only [Prod.mk.injEq] at h2
    obtain ⟨rfl,rfl⟩:=h2
    obtain ⟨i,h3,h4,h5,h6⟩:=zD2 h1
    refine ⟨i+1,by simpa using h3,by simpa using h4,by simp [h5],fun j hj=>?_⟩
    cases j with
    |zero=>exact .inr ⟨rfl,rfl⟩
    |succ j=>
     rcases h6 j (by omega) with ⟨h7,h8⟩|⟨h7,h8⟩
     ·exact .inl ⟨by simpa using h7,fun c hc=>h8 c (by simpa using hc)⟩
     ·exact .inr ⟨by simpa using h7,by simpa using h8⟩
   ·cases h
  |own d' n' g' m'=>
   simp only [zBT] at h
   split at h
   ·rename_i hr
    cases h
    refine ⟨0,rfl,rfl,by simp,fun j hj=>?_⟩
    cases j with
    |zero=>exact absurd rfl hj
    |succ j=>exact .inl ⟨by simp,fun c hc=>List.all_eq_true.1 hr c (zn (by simpa using hc))⟩
   ·cases h
  |_=>cases h
theorem zCa {d0 n0 g0 d n g g1:Nat}:∀{cells l:List CV},zDi d0 n0 g0 d n g g1 cells=some l→l.length=cells.length∧∀(j:Nat) c,cells[j]?=some c→(∃x,c= .p x∧l[j]?=some (.p x))∨(∃m,c= .own 0 1 g1 m∧l[j]?=some (.own d n g m))∨(c= .ptr 0 0 0 0 KO∧l[j]?=some (.ptr d0 n0 g0 0 KO))
 | [],l,h=>by cases h;exact ⟨rfl,fun j c hc=>by simp at hc⟩
 |c::r,l,h=>by
  unfold zDi at h
  split at h
  ·rename_i e;cases e
  ·rename_i x r' e
   cases e
   obtain ⟨l',h1,rfl⟩:=Option.map_eq_some_iff.1 h
   obtain ⟨h2,h3⟩:=zCa h1
   refine ⟨by simp [h2],fun j c hc=>?_⟩
   cases j with
   |zero=>simp at hc;subst hc;exact .inl ⟨x,rfl,rfl⟩
   |succ j=>simpa using h3 j c (by simpa using hc)
  ·rename_i g' m r' e
   cases e
   split at h
   ·rename_i eg
    subst eg
    obtain ⟨l',h1,rfl⟩:=Option.map_eq_some_iff.1 h
    obtain ⟨h2,h3⟩:=zCa h1
    refine ⟨by simp [h2],fun j c hc=>?_⟩
    cases j with
    |zero=>simp at hc;subst hc;exact .inr (.inl ⟨m,rfl,rfl⟩)
    |succ j=>simpa using h3 j c (by simpa using hc)
   ·cases h
  ·rename_i o r' e
   cases e
   split at h
   ·rename_i eo
    subst eo
    obtain ⟨l',h1,rfl⟩:=Option.map_eq_some_iff.1 h
    obtain ⟨h2,h3⟩:=zCa h1
    refine ⟨by simp [h2],fun j c hc=>?_⟩
    cases j with
    |zero=>simp at hc;subst hc;exact .inr (.inr ⟨rfl,rfl⟩)
    |succ j=>simpa using h3 j c (by simpa using hc)
   ·cases h
  ·cases h
theorem zGt (hm:MemOK F N0 (st.fr::st.up) pl w) (hN:N0.n≤w.heap.size) {v:Value} {x y:AV} (h:z8 st x=some (y,st')) (hv:zd F (st.fr::st.up) pl w v x):
  ∃pl',Same F N0 pl st st' w pl'∧zd F (st'.fr::st'.up) pl' w v y∧∀c∈y.cvs,isP c=true:=by
 cases x with
 |c x=>
  simp only [z8,zL,Prod.mk.injEq,Prod.exists] at h
  obtain ⟨p,s,h1,rfl,rfl⟩:=h
  obtain ⟨pl',h2,h3⟩:=zCD hm hN h1 hv
  exact ⟨pl',h2,h3,fun c hc=>by simp [AV.cvs] at hc;subst hc;rfl⟩
 |agg cs=>
  simp only [z8,zL,Prod.mk.injEq,Prod.exists] at h
  obtain ⟨ps,s,h1,rfl,rfl⟩:=h
  obtain ⟨us,rfl,h4⟩:=hv
  obtain ⟨pl',h2,h3⟩:=zAu hm hN h1 h4
  exact ⟨pl',h2,⟨us,rfl,h3.cs⟩,fun c hc=>by
   simp only [AV.cvs,List.mem_map] at hc
   obtain ⟨p,_,rfl⟩:=hc
   rfl⟩
 |tup vs=>cases h
theorem zDK:∀{xs ys:List AV} {st st':St} {pl:Pl} {us:List Value},MemOK F N0 (st.fr::st.up) pl w→N0.n≤w.heap.size→zw st xs=some (ys,st')→zAW F (st.fr::st.up) pl w us xs→
  ∃pl',Same F N0 pl st st' w pl'∧zAW F (st'.fr::st'.up) pl' w us ys∧∀y∈ys,∀c∈y.cvs,isP c=true
 | [],ys,st,st',pl,us,hm,hN,h,hv=>by
  simp only [zw,zM,Prod.mk.injEq] at h
  obtain ⟨rfl,rfl⟩:=h
  exact ⟨pl,Same.refl hm,hv,fun y hy=>by cases hy⟩
 |x::xs,ys,st,st',pl,us,hm,hN,h,hv=>by
  simp only [zw,zN,zL,Prod.mk.injEq,Prod.exists] at h
  obtain ⟨y,st1,h1,ys',st2,h2,rfl,rfl⟩:=h
  cases us with
  |nil=>have:=hv.1;simp at this
  |cons u us=>
   obtain ⟨pl1,s1,r1,p1⟩:=zGt hm hN h1 (hv.2 0 u x rfl rfl)
   obtain ⟨pl2,s2,r2,p2⟩:=zDK s1.mem hN h2 (us:=us) ⟨by simpa using hv.1,fun i u' x' hu hx=>s1.keep.repA (hv.2 (i+1) u' x' (by simpa using hu) (by simpa using hx))⟩
   refine ⟨pl2,s1.trans s2,⟨by simp [r2.1],fun i u' x' hu hx=>?_⟩,fun y' hy c hc=>?_⟩
   ·cases i with
    |zero=>cases hu;cases hx;exact s2.keep.repA r1
    |succ i=>exact r2.2 i u' x' (by simpa using hu) (by simpa using hx)
   ·rcases List.mem_cons.1 hy with rfl|hy
    ·exact p1 c hc
    ·exact p2 y' hy c hc
theorem zH4 {x a':AV} {d n d2 n2:Nat} {B R:Blk} (h:zCP st x=some (a',(d,n,B),d2,n2,R)):∃g sz ty cells l g2 m2 sz2 ty2 rows,x= .c (.ptr d n g 0 0)∧st.get d n=some ⟨g,sz,ty,.box cells⟩∧zBT d n g cells=some (l,d2,n2,g2,m2)∧
  st.get d2 n2=some ⟨g2,sz2,ty2,.row rows⟩∧a'= .c (.ptr 0 0 0 0 0)∧B=⟨0,sz,ty,.box l⟩∧R=⟨1,sz2,ty2,.row rows⟩:=by
 unfold zCP at h
 split at h
 ·split at h
  ·rename_i d0 n0 g0 gB sz ty cells hB
   obtain ⟨⟨l,d3,n3,g2,m2⟩,hg,h1⟩:=Option.bind_eq_some_iff.1 h
   simp only at h1
   split at h1
   ·rename_i gR sz2 ty2 rows hR
    split at h1
    ·rename_i hgg
     obtain ⟨rfl,rfl⟩:=hgg
     cases h1
     exact ⟨_,_,_,_,_,_,_,_,_,_,rfl,hB,hg,hR,rfl,rfl,rfl⟩
    ·cases h1
   ·cases h1
  ·cases h
 ·cases h
theorem zEq {q q2:Nat×Nat×Blk} {r:Res} {v:AV} (h:zDC st q q2 r=some (v,st')):∃fr' sz ty cells g1 sz2 ty2 rows B0 R0 l,r.up= [fr']∧look 0 fr'=some ⟨0,sz,ty,.box cells⟩∧look 1 fr'=some ⟨g1,sz2,ty2,.row rows⟩∧st.get q.1 q.2.1=some B0∧st.get q2.1 q2.2.1=some R0∧
  sz=B0.sz∧ty=B0.ty∧r.rows= []∧(∀c∈r.v.cvs,isP c=true)∧zDi q.1 q.2.1 B0.g q2.1 q2.2.1 (R0.g+1) g1 cells=some l∧v=r.v∧st'=(st.set q2.1 q2.2.1 ⟨R0.g+1,sz2,ty2,.row rows⟩).set q.1 q.2.1 {B0 with k:= .box l}:=by
 unfold zDC at h
 split at h
 ·rename_i fr' hup
  split at h
  ·rename_i sz ty cells g1 sz2 ty2 rows B0 R0 h0 h1 hG0 hG1
   split at h
   ·rename_i hc
    obtain ⟨c1,c2,c3,c4⟩:=hc
    obtain ⟨l,hl,h2⟩:=Option.map_eq_some_iff.1 h
    simp only [Prod.mk.injEq] at h2
    exact ⟨_,_,_,_,_,_,_,_,_,_,_,hup,h0,h1,hG0,hG1,c1,c2,by simpa using c3,fun c hc=>List.all_eq_true.1 c4 c hc,hl,h2.1.symm,h2.2.symm⟩
   ·cases h
  ·cases h
 ·cases h
theorem zJC {run:zh} (hS:zA5 G P run) (hr:Rel F N0 T pl st a w) {f:FuncId} {args:List AV} {vals:List Value} {v:AV} (ha:zAW F (st.fr::st.up) pl w vals args) (h:callN run st f args=some (v,st')):
  Goes P f vals.toArray w fun u w'=>Post F N0 pl st w v st' u w':=by
 cases args with
 |nil=>cases h
 |cons a0 rest=>
 cases vals with
 |nil=>have:=ha.1;simp at this
 |cons v0 vrest=>
 simp only [callN] at h
 obtain ⟨⟨rest',st1⟩,hfr,hxA⟩:=Option.bind_eq_some_iff.1 h
 clear h
 obtain ⟨⟨a',⟨d,n,B⟩,d2,n2,R⟩,hln,hxB⟩:=Option.bind_eq_some_iff.1 hxA
 clear hxA
 obtain ⟨res,hrun,hxC⟩:=Option.bind_eq_some_iff.1 hxB
 clear hxB
 obtain ⟨pl1,s1,ra,rp⟩:=zDK hr.mem hr.low hfr (us:=vrest) ⟨by simpa using ha.1,fun i u x hu hx=>ha.2 (i+1) u x (by simpa using hu) (by simpa using hx)⟩
 have rhead:=s1.keep.repA (ha.2 0 v0 a0 rfl rfl)
 have hm1:=s1.mem
 have hN:=hr.low
 obtain ⟨g,sz,ty,cells,l,g2,m2,sz2,ty2,rows,rfl,hB,hgr,hR,rfl,rfl,rfl⟩:=zH4 hln
 obtain ⟨i0,hi1,hi2,hil,hio⟩:=zD2 hgr
 have hB:zB d n (st1.fr::st1.up)=some ⟨g,sz,ty,.box cells⟩:=hB
 have hR:zB d2 n2 (st1.fr::st1.up)=some ⟨g2,sz2,ty2,.row rows⟩:=hR
 have hne:¬(d=d2∧n=n2):=fun e=>by
  obtain ⟨rfl,rfl⟩:=e
  rw [hB] at hR
  cases hR
 let pB:Pl:=fun d' n'=>if d'=0∧n'=0 then pl1 d n else if d'=0∧n'=1 then pl1 d2 n2 else nop
 let F':Nat→Prop:=fun k=>Own F pl1 k∧(∀j s,pl1 d n j≠some (k,s))∧∀j s,pl1 d2 n2 j≠some (k,s)
 have p0:pB 0 0=pl1 d n:=by simp [pB]
 have p1:pB 0 1=pl1 d2 n2:=by simp [pB]
 have px:∀{d' n' j x},pB d' n' j=some x→d'=0∧((n'=0∧pl1 d n j=some x)∨(n'=1∧pl1 d2 n2 j=some x)):=fun {d' n' j x} h=>by
  simp only [pB] at h
  split at h
  ·rename_i e;exact ⟨e.1,.inl ⟨e.2,h⟩⟩
  ·split at h
   ·rename_i e;exact ⟨e.1,.inr ⟨e.2,h⟩⟩
   ·cases h
 have pw:∀{d' n' j x},pB d' n' j=some x→∃d0 n0,pl1 d0 n0 j=some x:=fun {d' n' j x} h=>by
  rcases (px h).2 with ⟨_,h⟩|⟨_,h⟩
  ·exact ⟨_,_,h⟩
  ·exact ⟨_,_,h⟩
 have own1:∀k,Own F' pB k→Own F pl1 k:=fun k h=>by
  rcases h with h|⟨d',n',j,s,h⟩
  ·exact h.1
  ·obtain ⟨d0,n0,h0⟩:=pw h
   exact .inr ⟨d0,n0,j,s,h0⟩
 have hP1:∀{u x},RepP (Own F pl1) w u x→RepP (Own F' pB) w u x:=fun {u x} h=>h.step (fun _ _ _=>rfl) (Nat.le_refl _) fun k hk=> .inl (own1 k hk)
 have hbox:=hm1.blk d n _ hB
 have hrow:=hm1.blk d2 n2 _ hR
 obtain ⟨bb,ub,g1,g2',g3,g4⟩:=hbox
 simp only at g1 g2' g3 g4
 have look0:∀n' Bx,zB 0 n' ([[(0,⟨0,sz,ty,.box l⟩),(1,⟨1,sz2,ty2,.row rows⟩)]]:List Go.Eng.Frame)=some Bx→(n'=0∧Bx=⟨0,sz,ty,.box l⟩)∨(n'=1∧Bx=⟨1,sz2,ty2,.row rows⟩):=fun n' Bx h=>by
  simp only [zB,List.length_nil,if_true,look] at h
  split at h
  ·rename_i e;cases h;exact .inl ⟨e.symm,rfl⟩
  ·split at h
   ·rename_i e;cases h;exact .inr ⟨e.symm,rfl⟩
   ·cases h
 have hU1:zB 0 1 ([[(0,⟨0,sz,ty,.box l⟩),(1,⟨1,sz2,ty2,.row rows⟩)]]:List Go.Eng.Frame)=some ⟨1,sz2,ty2,.row rows⟩:=by simp [zB,look]
 have hm2:MemOK F' N0 [[(0,⟨0,sz,ty,.box l⟩),(1,⟨1,sz2,ty2,.row rows⟩)]] pB w:=by
  refine ⟨fun d' n' j k s h=>?_,fun e1 m1 j1 e2 m2 j2 k s s' h1 h2=>?_,fun d' n' Bx hBx=>?_,fun k hk=>?_,hm1.fix⟩
  ·obtain ⟨rfl,h3⟩:=px h
   rcases h3 with ⟨rfl,h3⟩|⟨rfl,h3⟩
   ·obtain ⟨q1,q2,_,_⟩:=hm1.live d n j k s h3
    exact ⟨q1,q2,fun hk=>hk.2.1 j s h3,⟨0,sz,ty,.box l⟩,by simp [zB,look]⟩
   ·obtain ⟨q1,q2,_,_⟩:=hm1.live d2 n2 j k s h3
    exact ⟨q1,q2,fun hk=>hk.2.2 j s h3,_,hU1⟩
  ·obtain ⟨rfl,h3⟩:=px h1
   obtain ⟨rfl,h4⟩:=px h2
   refine ⟨rfl,?_⟩
   rcases h3 with ⟨rfl,h3⟩|⟨rfl,h3⟩<;>rcases h4 with ⟨rfl,h4⟩|⟨rfl,h4⟩
   ·exact ⟨rfl,(hm1.inj _ _ _ _ _ _ k s s' h3 h4).2.2⟩
   ·have e9:=hm1.inj _ _ _ _ _ _ k s s' h3 h4
    exact absurd ⟨e9.1,e9.2.1⟩ hne
   ·have e9:=hm1.inj _ _ _ _ _ _ k s' s h4 h3
    exact absurd ⟨e9.1,e9.2.1⟩ hne
   ·exact ⟨rfl,(hm1.inj _ _ _ _ _ _ k s s' h3 h4).2.2⟩
  ·have hlt:=zH hBx
   have hd:d'=0:=by simp at hlt;exact hlt
   subst hd
   rcases look0 n' Bx hBx with ⟨rfl,rfl⟩|⟨rfl,rfl⟩
   ·refine ⟨bb,ub,by rw [hil];exact p0.trans g1,g2',⟨by rw [hil];exact g3.1,fun j u c hu hc=>?_⟩,fun c hc=>?_⟩
    ·by_cases hj:j=i0
     ·subst hj
      rw [hi2] at hc
      cases hc
      obtain ⟨⟨q1,Bq,q2,q3,q4⟩,q5⟩:=g3.2 j u _ hu hi1
      rw [hR] at q2
      cases q2
      refine ⟨⟨q1,_,hU1,Nat.le_refl _,fun _=>?_⟩,.inr q1⟩
      rw [p1]
      exact q4 rfl
     ·rcases hio j hj with ⟨q1,q2⟩|⟨q1,q2⟩
      ·rw [q1] at hc
       have q3:=q2 c hc
       obtain ⟨q4,q5⟩:=g3.2 j u c hu hc
       cases c with
       |p x=>exact ⟨hP1 q4,q5⟩
       |_=>simp [isP] at q3
      ·rw [q2] at hc
       cases hc
       obtain ⟨⟨z1,Bq,z2,z3,z4⟩,z5⟩:=g3.2 j u _ hu q1
       rw [hB] at z2
       cases z2
       refine ⟨⟨z1,⟨0,sz,ty,.box l⟩,by simp [zB,look],Nat.le_refl _,fun _=>?_⟩,.inr z1⟩
       rw [p0]
       exact z4 rfl
    ·obtain ⟨j,hj,rfl⟩:=List.getElem_of_mem hc
     have hj2:=zb hj
     by_cases e:j=i0
     ·subst e
      rw [hi2] at hj2
      rw [←Option.some.inj hj2]
      simp [CV.dep]
     ·rcases hio j e with ⟨q1,q2⟩|⟨q1,q2⟩
      ·rw [q1] at hj2
       have q3:=q2 _ hj2
       cases hc2:l[j] with
       |p x=>rfl
       |_=>rw [hc2] at q3;simp [isP] at q3
      ·rw [q2] at hj2
       rw [←Option.some.inj hj2]
       simp [CV.dep]
   ·rcases hrow with ⟨q1,q2⟩|⟨b,s,us,q1,q2,q3,q4,q5,q6⟩
    ·exact .inl ⟨q1,p1.trans q2⟩
    ·exact .inr ⟨b,s,us,p1.trans q1,q2,q3,q4,q5,fun j e o x he hx=>by
      obtain ⟨v,hv,hrr⟩:=q6 j e o x he hx
      exact ⟨v,hv,hP1 hrr⟩⟩
  ·rcases hk.1 with h|⟨d',n',j,s,h⟩
   ·exact hm1.fsz k h
   ·exact (hm1.live d' n' j k s h).2.1
 have hargs:zAW F' [[(0,⟨0,sz,ty,.box l⟩),(1,⟨1,sz2,ty2,.row rows⟩)]] pB w (v0::vrest) (.c (.ptr 0 0 0 0 0)::rest'):=by
  refine ⟨by simp [ra.1],fun i u x hu hx=>?_⟩
  cases i with
  |zero=>
   cases hu;cases hx
   obtain ⟨q1,Bq,q2,q3,q4⟩:=rhead
   rw [hB] at q2
   cases q2
   refine ⟨q1,⟨0,sz,ty,.box l⟩,by simp [zB,look],Nat.le_refl _,fun _=>?_⟩
   obtain ⟨b,s,q5,q6⟩:=q4 rfl
   exact ⟨b,s,by rw [p0];exact q5,by simpa using q6⟩
  |succ i=>
   have hx:rest'[i]?=some x:=by simpa using hx
   exact zCZ (rp x (zn hx)) (fun h=>hP1 h) (ra.2 i u x (by simpa using hu) hx)
 refine (hS f _ _ res hrun F' N0 pB w _ hm2 hN hargs).mono fun u w' hret=>?_
 obtain ⟨⟨pl',r1,r2,r3⟩,r4,r5⟩:=hret
 obtain ⟨fr',szC,tyC,cellsC,gC,szD,tyD,rowsD,B0,R0,lc,hup,hL0,hL1,hG0,hG1,c1,c2,hrows,c4,hbk,rfl,rfl⟩:=zEq hxC
 clear hxC
 have hG0:zB d n (st1.fr::st1.up)=some B0:=hG0
 have hG1:zB d2 n2 (st1.fr::st1.up)=some R0:=hG1
 rw [hB] at hG0
 cases hG0
 rw [hR] at hG1
 cases hG1
 simp only at c1 c2 hbk
 subst c1
 subst c2
 rw [hup] at r1 r2 r3
 rw [hrows] at r1 r2
 obtain ⟨k1,k2⟩:=zCa hbk
 have hD:d<(st1.fr::st1.up).length:=zH hB
 have hD2:d2<(st1.fr::st1.up).length:=zH hR
 have top:∀n',zB 0 n' (za [] 0:: [fr'])=look n' fr':=fun n'=>by simp [zB,za]
 have q4E:Ext (pl1 d n) (pl' 0 0):=by
  obtain ⟨b',e1,e2⟩:=r3.later.blk 0 0 ⟨0,szC,tyC,.box l⟩ (by simp [zB,look])
  have e3:zB 0 0 [fr']=look 0 fr':=by simp [zB]
  rw [e3,hL0] at e1
  cases e1
  rw [←p0]
  exact (e2 rfl).2.1
 have q4:pl' 0 0=pl1 d n:=by
  obtain ⟨b,us,y1,_,_,_⟩:=r2.blk 0 0 _ ((top 0).trans hL0)
  exact zKF q4E g1 y1
 let pl2:Pl:=zx pl1 d2 n2 (pl' 0 1)
 have t2:pl2 d2 n2=pl' 0 1:=zF ..
 have t0:∀d' n',¬(d'=d2∧n'=n2)→pl2 d' n'=pl1 d' n':=fun d' n' e=>zr pl1 _ e
 have tb:pl2 d n=pl' 0 0:=(t0 d n hne).trans q4.symm
 have out:∀{d' n' j k s},pl1 d' n' j=some (k,s)→¬(d'=d∧n'=n)→¬(d'=d2∧n'=n2)→F' k:=fun {d' n' j k s} h e1 e2=>
  ⟨.inr ⟨d',n',j,s,h⟩,fun j' s' h'=>e1 (by have e9:=hm1.inj _ _ _ _ _ _ k s s' h h';exact ⟨e9.1,e9.2.1⟩),fun j' s' h'=>e2 (by have e9:=hm1.inj _ _ _ _ _ _ k s s' h h';exact ⟨e9.1,e9.2.1⟩)⟩
 have outF:∀{k},F k→F' k:=fun {k} h=>⟨.inl h,fun j s h'=>(hm1.live d n j k s h').2.2.1 h,fun j s h'=>(hm1.live d2 n2 j k s h').2.2.1 h⟩
 have own3:∀k,Own F pl2 k→Own F' pl' k:=fun k h=>by
  rcases h with h|⟨d',n',j,s,h⟩
  ·exact .inl (outF h)
  ·by_cases e2:d'=d2∧n'=n2
   ·obtain ⟨rfl,rfl⟩:=e2
    rw [t2] at h
    exact .inr ⟨0,1,j,s,h⟩
   ·by_cases e1:d'=d∧n'=n
    ·obtain ⟨rfl,rfl⟩:=e1
     rw [tb] at h
     exact .inr ⟨0,0,j,s,h⟩
    ·rw [t0 d' n' e2] at h
     exact .inl (out h e1 e2)
 have hP2:∀{u x},RepP (Own F' pl') w' u x→RepP (Own F pl2) w' u x:=fun {u x} h=>h.step (fun _ _ _=>rfl) (Nat.le_refl _) fun k hk=> .inl (own3 k hk)
 have hlive:∀{d' n' j k s},pl' d' n' j=some (k,s)→N0.n≤k∧k<w'.heap.size∧¬F' k:=fun {d' n' j k s} h=>by
  obtain ⟨e1,e2,e3,_⟩:=r2.live d' n' j k s h
  exact ⟨e1,e2,e3⟩
 have hstep:Step pl1 w w':=⟨r3.step.os,r3.step.tape,r3.step.output,r3.step.size,fun k hk hn=>r3.step.block k hk fun d' n' j s h=>by
  obtain ⟨d0,n0,h0⟩:=pw h
  exact hn d0 n0 j s h0⟩
 let R2:Blk:=⟨g2+1,szD,tyD,.row rowsD⟩
 let B2:Blk:=⟨g,szC,tyC,.box lc⟩
 have hgetS:∀d' n',zB d' n' (((st1.set d2 n2 R2).set d n B2).fr::((st1.set d2 n2 R2).set d n B2).up)=if d'=d∧n'=n then some B2 else if d'=d2∧n'=n2 then some R2 else zB d' n' (st1.fr::st1.up):=fun d' n'=>by
  rw [zAU (by simpa [zBO] using hD),zAU hD2]
 have hlenS:(((st1.set d2 n2 R2).set d n B2).fr::((st1.set d2 n2 R2).set d n B2).up).length=(st1.fr::st1.up).length:=by simp [zBO]
 have hK:Keep F (st1.fr::st1.up) (((st1.set d2 n2 R2).set d n B2).fr::((st1.set d2 n2 R2).set d n B2).up) pl1 pl2 w w':=by
  refine ⟨hstep,hlenS,fun d' n' b hb=>?_,fun d' n' j b s h=>?_⟩
  ·rw [hgetS]
   by_cases e1:d'=d∧n'=n
   ·obtain ⟨rfl,rfl⟩:=e1
    rw [hB] at hb
    cases hb
    exact ⟨B2,by rw [if_pos ⟨rfl,rfl⟩],Nat.le_refl _,fun _=>⟨Ext.of (t0 _ _ hne),rfl⟩⟩
   ·rw [if_neg e1]
    by_cases e2:d'=d2∧n'=n2
    ·obtain ⟨rfl,rfl⟩:=e2
     rw [hR] at hb
     cases hb
     exact ⟨R2,by rw [if_pos ⟨rfl,rfl⟩],Nat.le_succ _,fun e=>absurd e (Nat.succ_ne_self _)⟩
    ·exact ⟨b,by rw [if_neg e2];exact hb,Nat.le_refl _,fun _=>⟨Ext.of (t0 _ _ e2),rfl⟩⟩
  ·by_cases e2:d'=d2∧n'=n2
   ·obtain ⟨rfl,rfl⟩:=e2
    rw [t2] at h
    rcases r3.later.new 0 1 j b s h with ⟨d0,n0,j0,s0,h0⟩|h0
    ·obtain ⟨d3,n3,h3⟩:=pw h0
     exact .inl ⟨d3,n3,j0,s0,h3⟩
    ·exact .inr h0
   ·rw [t0 _ _ e2] at h
    exact .inl ⟨d',n',j,s,h⟩
 refine ⟨⟨pl2,?_,⟨fun d' n' j k s h=>?_,fun e1 m1 j1 e2 m2 j2 k s s' h1 h2=>?_,fun d' n' Bx hBx=>?_,fun k hk=>Nat.lt_of_lt_of_le (hm1.fsz k hk) hstep.size,zAr hm1 hstep.block⟩,s1.keep.trans hK⟩,by rw [zy,zy];exact s1.t⟩
 ·have e:∀m,res.v.map (zAg m)=res.v:=fun m=>zCY (fun x=>rfl) c4
  rw [e] at r1
  exact zCZ c4 (fun h=>hP2 h) r1
 ·rw [hgetS]
  by_cases e2:d'=d2∧n'=n2
  ·obtain ⟨rfl,rfl⟩:=e2
   rw [t2] at h
   obtain ⟨x1,x2,x3⟩:=hlive h
   refine ⟨x1,x2,fun hF=>x3 (outF hF),R2,?_⟩
   rw [if_neg (fun e=>hne ⟨e.1.symm,e.2.symm⟩),if_pos ⟨rfl,rfl⟩]
  ·rw [t0 _ _ e2] at h
   obtain ⟨x1,x2,x3,Bq,x4⟩:=hm1.live d' n' j k s h
   refine ⟨x1,Nat.lt_of_lt_of_le x2 hstep.size,x3,?_⟩
   by_cases e1:d'=d∧n'=n
   ·exact ⟨B2,by rw [if_pos e1]⟩
   ·exact ⟨Bq,by rw [if_neg e1,if_neg e2];exact x4⟩
 ·have mix:∀{d' n' j j' k s s'},pl' 0 1 j=some (k,s)→pl1 d' n' j'=some (k,s')→¬(d'=d2∧n'=n2)→False:=fun {d' n' j j' k s s'} h1 h2 e2=>by
   by_cases e1:d'=d∧n'=n
   ·obtain ⟨rfl,rfl⟩:=e1
    rw [←q4] at h2
    have:=(r2.inj _ _ _ _ _ _ k s s' h1 h2).2.1
    omega
   ·exact (hlive h1).2.2 (out h2 e1 e2)
  by_cases x1:e1=d2∧m1=n2<;>by_cases x2:e2=d2∧m2=n2
  ·obtain ⟨rfl,rfl⟩:=x1
   obtain ⟨rfl,rfl⟩:=x2
   rw [t2] at h1 h2
   exact ⟨rfl,rfl,(r2.inj _ _ _ _ _ _ k s s' h1 h2).2.2⟩
  ·obtain ⟨rfl,rfl⟩:=x1
   rw [t2] at h1
   rw [t0 _ _ x2] at h2
   exact (mix h1 h2 x2).elim
  ·obtain ⟨rfl,rfl⟩:=x2
   rw [t2] at h2
   rw [t0 _ _ x1] at h1
   exact (mix h2 h1 x1).elim
  ·rw [t0 _ _ x1] at h1
   rw [t0 _ _ x2] at h2
   exact hm1.inj _ _ _ _ _ _ k s s' h1 h2
 ·rw [hgetS] at hBx
  by_cases e1:d'=d∧n'=n
  ·rw [if_pos e1] at hBx
   obtain ⟨rfl,rfl⟩:=e1
   cases hBx
   have hb:=r2.blk 0 0 _ ((top 0).trans hL0)
   obtain ⟨b,us,y1,y2,y3,y4⟩:=hb
   simp only at y1 y2 y3 y4
   have hdep2:d2≤d':=by
    have:=g4 _ (zn hi1)
    simpa [CV.dep] using this
   refine ⟨b,us,by rw [tb,y1,k1],y2,⟨by rw [k1];exact y3.1,fun j u c hu hc=>?_⟩,fun c hc=>?_⟩
   ·have hj:j<cellsC.length:=by rw [←k1];exact (List.getElem?_eq_some_iff.1 hc).1
    rcases k2 j _ (zb hj) with ⟨x,e1,e2⟩|⟨m,e1,e2⟩|⟨e1,e2⟩
    ·rw [e2] at hc
     cases hc
     have e3:cellsC[j]?=some (.p x):=by rw [zb hj,e1]
     obtain ⟨z1,z2⟩:=y3.2 j u _ hu e3
     exact ⟨hP2 z1,.inr (RepP.one (show RepP _ w' u x from z1)).1⟩
    ·rw [e2] at hc
     cases hc
     have e3:cellsC[j]?=some (.own 0 1 gC m):=by rw [zb hj,e1]
     obtain ⟨⟨z1,Bq,z2,z3,z4⟩,z5⟩:=y3.2 j u _ hu e3
     rw [top,hL1] at z2
     cases z2
     refine ⟨⟨z1,R2,by rw [hgetS,if_neg (fun e=>hne ⟨e.1.symm,e.2.symm⟩),if_pos ⟨rfl,rfl⟩],Nat.le_refl _,fun _=>?_⟩,.inr z1⟩
     rw [t2]
     exact z4 rfl
    ·rw [e2] at hc
     cases hc
     have e3:cellsC[j]?=some (.ptr 0 0 0 0 KO):=by rw [zb hj,e1]
     obtain ⟨⟨z1,Bq,z2,z3,z4⟩,z5⟩:=y3.2 j u _ hu e3
     rw [top,hL0] at z2
     cases z2
     refine ⟨⟨z1,B2,by rw [hgetS,if_pos ⟨rfl,rfl⟩],Nat.le_refl _,fun _=>?_⟩,.inr z1⟩
     rw [tb]
     exact z4 rfl
   ·obtain ⟨j,hj,rfl⟩:=List.getElem_of_mem hc
    have hj2:=zb hj
    rcases k2 j _ (zb (by rw [←k1];exact hj)) with ⟨x,e1,e2⟩|⟨m,e1,e2⟩|⟨e1,e2⟩
    ·rw [hj2] at e2
     rw [Option.some.inj e2]
     rfl
    ·rw [hj2] at e2
     rw [Option.some.inj e2]
     simpa [CV.dep] using hdep2
    ·rw [hj2] at e2
     rw [Option.some.inj e2]
     simp [CV.dep]
  ·rw [if_neg e1] at hBx
   by_cases e2:d'=d2∧n'=n2
   ·rw [if_pos e2] at hBx
    obtain ⟨rfl,rfl⟩:=e2
    cases hBx
    have hb:=r2.blk 0 1 _ ((top 1).trans hL1)
    rcases hb with ⟨x1,x2⟩|⟨b,s,us,x1,x2,x3,x4,x5,x6⟩
    ·exact .inl ⟨x1,t2.trans x2⟩
    ·exact .inr ⟨b,s,us,t2.trans x1,x2,x3,x4,x5,fun j e o x he hx=>by
      obtain ⟨v,hv,hrr⟩:=x6 j e o x he hx
      exact ⟨v,hv,hP2 hrr⟩⟩
   ·rw [if_neg e2] at hBx
    refine zAN hK (t0 _ _ e2) (fun j b s h=>r3.step.block b (hm1.live d' n' j b s h).2.1 fun d3 n3 j3 s3 h3=>?_) (hm1.blk d' n' Bx hBx)
    rcases (px h3).2 with ⟨_,h4⟩|⟨_,h4⟩
    ·have e9:=hm1.inj _ _ _ _ _ _ b s s3 h h4
     exact e1 ⟨e9.1,e9.2.1⟩
    ·have e9:=hm1.inj _ _ _ _ _ _ b s s3 h h4
     exact e2 ⟨e9.1,e9.2.1⟩
theorem zH5 {x:AV} {r args':List AV} {d n:Nat} {q:Option (Nat×Nat)} {B:Blk} {ad:Addr} (hr:Rel F N0 T pl st a w) (h:zAp st (x::r)=some (args',d,n,q,B)) (hv:zd F (st.fr::st.up) pl w (.pointer (some ad)) x):∀j b s,pl d n j=some (b,s)→b=ad.block:=by
 simp only [zAp] at h
 split at h
 ·rename_i a' q' hb
  obtain ⟨r',_,h2⟩:=Option.map_eq_some_iff.1 h
  cases h2
  unfold zBA at hb
  split at hb
  ·split at hb
   ·split at hb
    ·rename_i g' sz ty rows hB hc
     cases hb
     obtain ⟨_,B1,h2,h3,h4⟩:=hv
     have h2:some B1=some _:=h2.symm.trans hB
     cases h2
     rcases h4 hc.1 with ⟨e,_⟩|⟨b,s,cap,_,e,_⟩<;>cases e
    ·cases hb
   ·split at hb
    ·rename_i g' sz ty cols rows hB hc
     cases hb
     obtain ⟨_,B1,h2,h3,h4⟩:=hv
     have h2:some B1=some _:=h2.symm.trans hB
     cases h2
     rcases h4 hc.1 with ⟨e,_⟩|⟨b,s,cap,_,e,_⟩<;>cases e
    ·cases hb
   ·cases hb
  ·obtain ⟨q2,hq,hb⟩:=Option.map_eq_some_iff.1 hb
   cases hb
   obtain ⟨sz,ty,cols,rows,e,hB,_⟩:=zBp hq
   obtain ⟨_,B1,h2,h3,h4⟩:=hv
   have h2:some B1=some _:=h2.symm.trans hB
   cases h2
   rcases h4 rfl with ⟨e,_⟩|⟨b,s,cap,_,e,_⟩<;>cases e
  ·split at hb
   ·split at hb
    ·rename_i g' sz ty cells hB hc
     cases hb
     obtain ⟨_,B1,h2,h3,h4⟩:=hv
     have h2:some B1=some _:=h2.symm.trans hB
     cases h2
     obtain ⟨b,s,hp,⟨_,e⟩|⟨e,_⟩⟩:=h4 hc.1
     ·cases e
      obtain ⟨b2,us,g1,_,_,_⟩:=hr.mem.blk d n _ hB
      intro j b3 s3 h5
      rw [(zAt hp g1).1.symm.symm] at g1
      rw [g1] at h5
      cases (zAE h5).2
      rfl
     ·exact absurd e (by decide)
    ·cases hb
   ·cases hb
  ·cases hb
 ·simp only [zN] at h
  obtain ⟨y,h1,_⟩:=h
  exfalso
  unfold zCq at h1
  split at h1
  ·split at h1
   ·cases h1
   ·rename_i hq
    cases hv
    exact absurd rfl hq
  ·obtain ⟨us,e,_⟩:=hv
   cases e
  ·cases h1
theorem zKG {run:zh} (hS:zA5 G P run) {o:Oper} {c:Call} {f:Operand} {g:KX} {ks:List KX} {borrow:Bool} {dst:Nat} {v:AV} (ho:o.op= .call c) (hc:c.callee= .value f) (hf:kx f=some g) (hx:c.args.toList.mapM kx=some ks) (hr:Rel F N0 T pl st a w)
  (h:zC run st dst (.call borrow g ks)=some (v,st')):Runs1 P o a w (fun u w'=>Post F N0 pl st w v st' u w'∧(borrow=true→Grow w w')∧(borrow=false→∀m r,ks= .t m::r→KeepB (fun b=>∃ad:Addr,a.tmps.getD m undef= .pointer (some ad)∧b≠ad.block) w w')):=by
 simp only [zC] at h
 split at h
 ·rename_i fid caps hg
  have e1:=zD hr hf
  rw [hg] at e1
  obtain ⟨vals,e1,hvl,hvc⟩:=e1
  obtain ⟨hl,hk⟩:=zAG hx
  have hargs:zAW F (st.fr::st.up) pl w (c.args.toList.map a.eval++vals) (ks.map st.eval++caps.map Cap.av):=by
   refine ⟨by simp [hl,hvl],fun i u x hu hx'=>?_⟩
   rw [List.getElem?_append] at hu hx'
   simp only [List.length_map] at hu hx'
   rw [hl] at hx'
   split at hu
   ·rename_i hi
    rw [if_pos hi] at hx'
    simp only [List.getElem?_map,zL] at hu hx'
    obtain ⟨p,hp,rfl⟩:=hu
    obtain ⟨q,hq,rfl⟩:=hx'
    exact zD hr (hk i p q hp hq)
   ·rename_i hi
    rw [if_neg hi] at hx'
    simp only [List.getElem?_map,zL] at hx'
    obtain ⟨q,hq,rfl⟩:=hx'
    exact zI7 (hvc _ _ _ hu hq)
  have harr:c.args.map a.eval++vals.toArray=(c.args.toList.map a.eval++vals).toArray:=by
   apply Array.toList_inj.1;simp
  refine zHZ (R:=fun u w'=>Post F N0 pl st w v st' u w'∧(borrow=true→Grow w w')∧(borrow=false→∀m r,ks= .t m::r→KeepB (fun b=>∃ad:Addr,a.tmps.getD m undef= .pointer (some ad)∧b≠ad.block) w w')) ho hc e1 ?_
  rw [harr]
  unfold zAq at h
  split at h
  ·rename_i hbt
   obtain ⟨⟨args',lent⟩,h1,h⟩:=Option.bind_eq_some_iff.1 h
   obtain ⟨r,h2,h⟩:=Option.bind_eq_some_iff.1 h
   split at h
   ·rename_i hcond
    obtain ⟨hcond,_⟩:=hcond
    simp only [zM,Prod.mk.injEq] at h
    obtain ⟨rfl,rfl⟩:=h
    let F':Nat→Prop:=fun k=>lent=false∧Own F pl k
    have hl1:=zEm (F':=F') hr.mem (fun k hk=>hk.2) h1 (fun e k hk=>by have:=hk.1;rw [e] at this;cases this) hargs
    have hm0:MemOK F' (⟨w.heap.size⟩:Base G) [] zAY w:=⟨fun d n j b s h=>(by cases h),fun d n j d' n' j' b s s' h=>(by cases h),fun d n B h=>(by cases h),fun k hk=>by
     rcases hk.2 with h|⟨d,n,j,s,h⟩
     ·exact hr.mem.fsz k h
     ·exact (hr.mem.live d n j k s h).2.1,fun k o h=>⟨(Array.getElem?_eq_some_iff.1 (hr.mem.fix k o h).2).1,(hr.mem.fix k o h).2⟩⟩
    refine (hS fid args' [] r h2 F' ⟨w.heap.size⟩ zAY w _ hm0 (Nat.le_refl _) hl1).mono fun u w' hret=>?_
    obtain ⟨⟨pl1,r1,r2,r3⟩,r4,r5⟩:=hret
    have hup:r.up= []:=zAQ r3.later.len
    rw [hup] at r1 r2 r3
    have hF1:(∀k,Own F pl k→F' k)∨∀B∈r.rows,zEZ B=true:=by
     rcases hcond with h|h
     ·exact .inl fun k hk=>⟨h,hk⟩
     ·simp only [zc,Bool.and_eq_true] at h
      exact .inr fun B hB=>List.all_eq_true.1 h.2 B hB
    have hF2:(∀k,Own F pl k→F' k)∨∀c∈r.v.cvs,zHD c=true:=by
     rcases hcond with h|h
     ·exact .inl fun k hk=>⟨h,hk⟩
     ·simp only [zc,Bool.and_eq_true] at h
      exact .inr fun c hc=>List.all_eq_true.1 h.1 c hc
    obtain ⟨pl2,p1,p2,p3⟩:=zKE hr.mem hr.low r2 r3 r5 hF1
    obtain ⟨pl3,q1,q2,q3⟩:=zI4 (n:=dst) p1 r5
    exact ⟨⟨⟨pl3,q3 r4 (p3 r4 hF2 r1),q1,p2.trans q2⟩,rfl⟩,fun _=>⟨r3.step.size,fun k hk=>r3.step.block k hk (fun _ _ _ _ h=>by cases h)⟩,fun e=>by rw [e] at hbt;cases hbt⟩
   ·cases h
  ·rename_i hb
   refine (zJB hS hr hargs h).mono fun u w' hp=>⟨hp.1,fun e=>absurd e hb,fun _ m r e=>?_⟩
   subst e
   obtain ⟨⟨args',d,n,q,B⟩,h1,_⟩:=Option.bind_eq_some_iff.1 h
   refine (hp.2 _ _ _ _ _ h1).sub fun b hb' j s hs=>?_
   obtain ⟨ad,e,hne⟩:=hb'
   have h3:=zD (x:= .tmp m) hr rfl
   simp only [Act.eval] at h3
   rw [e] at h3
   exact hne (zH5 hr h1 h3 j b s hs)
 ·cases h
theorem zJD {run:zh} (hS:zA5 G P run) {o:Oper} {c:Call} {f:Operand} {g:KX} {ks:List KX} {dst:Nat} {v:AV} (ho:o.op= .call c) (hc:c.callee= .value f) (hf:kx f=some g) (hx:c.args.toList.mapM kx=some ks) (hr:Rel F N0 T pl st a w)
  (h:zC run st dst (.callN g ks)=some (v,st')):Runs1 P o a w (Post F N0 pl st w v st'):=by
 simp only [zC] at h
 split at h
 ·rename_i fid caps hg
  have e1:=zD hr hf
  rw [hg] at e1
  obtain ⟨vals,e1,hvl,hvc⟩:=e1
  obtain ⟨hl,hk⟩:=zAG hx
  have hargs:zAW F (st.fr::st.up) pl w (c.args.toList.map a.eval++vals) (ks.map st.eval++caps.map Cap.av):=by
   refine ⟨by simp [hl,hvl],fun i u x hu hx'=>?_⟩
   rw [List.getElem?_append] at hu hx'
   simp only [List.length_map] at hu hx'
   rw [hl] at hx'
   split at hu
   ·rename_i hi
    rw [if_pos hi] at hx'
    simp only [List.getElem?_map,zL] at hu hx'
    obtain ⟨p,hp,rfl⟩:=hu
    obtain ⟨q,hq,rfl⟩:=hx'
    exact zD hr (hk i p q hp hq)
   ·rename_i hi
    rw [if_neg hi] at hx'
    simp only [List.getElem?_map,zL] at hx'
    obtain ⟨q,hq,rfl⟩:=hx'
    exact zI7 (hvc _ _ _ hu hq)
  have harr:c.args.map a.eval++vals.toArray=(c.args.toList.map a.eval++vals).toArray:=by
   apply Array.toList_inj.1;simp
  refine zHZ ho hc e1 ?_
  rw [harr]
  exact zJC hS hr hargs h
 ·cases h
end
end Go.Eng

