import Derived.Test.YtilkdjfhbahhdabGreatDoorE15
import Derived.Scope
import Derived.LoopN
import Derived.Still
import Derived.Lib.SliceRun
import Derived.WalkKit
import Derived.ChangeArms
import Derived.ChangeOld
import Derived.ReadAgain
import Derived.WideShapes
import Derived.SizedLaws
import Derived.ChangeBears
set_option linter.unusedVariables false
set_option linter.unusedSimpArgs false
namespace Go.Eng
open Go.RowKit
def cE:Pl:=λ_ _=>nop
section
variable {P:Program} {F F':Nat->Prop} {G:Nat->Option Obj} {N0:Base G} {T:Nat} {pl pl' pl1:Pl} {st st':St} {a:Act} {w w':World} {fs fs':List Frame} {f':Frame} {up:List Frame}
theorem jD {own own':Nat->Prop} {v:Value} {x:PV} (hf:(CV.p x).flat=true) (h:RepP own w v x):RepP own' w v x:=by
 cases h<;>first|(constructor;done)|simp [CV.flat] at hf
theorem oX {cols:List (Nat×Nat×TypeId)}:∀{e:List PV} {i o:Nat} {x:PV},rP cols i e=true->e[o]?=some x->(match zE (i+o) cols with|some _=>(match x with| .nl=>true| .ls l=>l.all λe=>e.all λy=>(CV.p y).flat|_=>false)|none=>(CV.p x).flat)=true
 | [],i,o,x,h,hx=>by simp at hx
 |y::e,i,0,x,h,hx=>by
  simp only [rP,zL] at h;simp only [List.getElem?_cons_zero,zS] at hx;subst hx;exact h.1
 |y::e,i,o+1,x,h,hx=>by
  simp only [rP,zL] at h;have:=oX h.2 (show e[o]?=some x by simpa using hx)
  rwa [show i+(o+1)=i+1+o by omega]
theorem CS {rows:List Blk} (hm:MemOK F N0 fs pl w) (hN:N0.n<=w.heap.size) (hm':MemOK F' (⟨w.heap.size⟩:Base G) (zq rows 0:: []) pl1 w') (hk:KeepU [] [] cE pl1 w w')
  (hrows:∀B∈rows,B.g=0/\B.k.okO=true) (hF:(∀k,Own F pl k->F' k)\/∀B∈rows,vZ B=true):
  ∃pl2,MemOK F N0 (zq rows 0::fs) pl2 w'/\Keep F fs fs pl pl2 w w'/\
   ∀{u:Value} {v:AV},(∀c∈v.cvs,c.po=true)->((∀k,Own F pl k->F' k)\/∀c∈v.cvs,AI c=true)->zf F' (zq rows 0:: []) pl1 w' u (v.map (dL 0))->zf F (zq rows 0::fs) pl2 w' u (v.map (dL fs.length)):=by
 let pl2:Pl:=λd n=>if d=fs.length then pl1 0 n else pl d n
 have hbd:∀d n j b s,pl d n j=some (b,s)->d<fs.length/\b<w.heap.size:=λd n j b s h=>by
  obtain ⟨_,h2,_,B,hB⟩:=hm.live d n j b s h;exact ⟨zO hB,h2⟩
 have q1:∀n,pl2 fs.length n=pl1 0 n:=λn=>by simp [pl2]
 have q2:∀d n,d≠fs.length->pl2 d n=pl d n:=λd n h=>by simp [pl2,h]
 have hge:∀n j b s,pl1 0 n j=some (b,s)->w.heap.size<=b/\b<w'.heap.size/\∃B,zE n (zq rows 0)=some B:=λn j b s h=>by
  obtain ⟨h1,h2,_,B,hB⟩:=hm'.live 0 n j b s h;exact ⟨h1,h2,B,by simpa [zA] using hB⟩
 have hstep:Step pl w w':=⟨hk.step.os,hk.step.tape,hk.step.output,hk.step.size,λk hk' _=>hk.step.block k hk' (λ_ _ _ _ h=>by cases h)⟩;have hK:Keep F fs fs pl pl2 w w':=by
  refine ⟨hstep,rfl,λd n b hb=>⟨b,hb,zH _,λ_=>⟨Ext.of (q2 d n (Nat.ne_of_lt (zO hb))),rfl⟩⟩,λd n j b s h=>?_⟩;by_cases hd:d=fs.length
  ·subst hd;rw [q1] at h;exact .inr (hge n j b s h).1
  ·rw [q2 d n hd] at h;exact .inl ⟨d,n,j,s,h⟩
 have hup:∀d n,d<fs.length->zA d n (zq rows 0::fs)=zA d n fs:=λd n hd=>by simp [zA,Nat.ne_of_lt hd]
 have htop:∀n,zA fs.length n (zq rows 0::fs)=zE n (zq rows 0):=λn=>by simp [zA]
 have htop':∀n,zA 0 n (zq rows 0:: [])=zE n (zq rows 0):=λn=>by simp [zA]
 have hlow:Low fs.length fs pl2 (zq rows 0::fs) pl2:=⟨λd n hd=>⟨hup d n hd,rfl⟩,λd n j b s h=>⟨d,n,j,h⟩⟩;have hP:(∀k,Own F pl k->F' k)->∀{u x},RepP (Own F' pl1) w' u x->RepP (Own F pl2) w' u x:=λhF {u x} h=>
  h.step (λ_ _ _=>rfl) (zH _) (λk hk'=>by
   rcases hk' with hk'|⟨d,n,j,s,hk'⟩
   ·exact .inl (.inl (hF k (.inl hk')))
   ·by_cases hd:d=fs.length
    ·subst hd;rw [q1] at hk';exact .inl (.inr ⟨0,n,j,s,hk'⟩)
    ·rw [q2 d n hd] at hk';exact .inl (.inl (hF k (.inr ⟨d,n,j,s,hk'⟩))))
 refine ⟨pl2,⟨λd n j b s h=>?_,λd n j d' n' j' b s s' h h'=>?_,λd n B hB=>?_,λk hF=>dV (hm.fsz k hF) hk.step.size,cU hm hstep.block⟩,hK,?_⟩
 ·by_cases hd:d=fs.length
  ·subst hd;rw [q1] at h;obtain ⟨h1,h2,B,hB⟩:=hge n j b s h;exact ⟨by omega,h2,λhF=>by have:=hm.fsz b hF;omega,B,by rw [htop];exact hB⟩
  ·rw [q2 d n hd] at h;obtain ⟨h1,h2,h3,B,hB⟩:=hm.live d n j b s h;exact ⟨h1,dV h2 hk.step.size,h3,B,by rw [hup d n (zO hB)];exact hB⟩
 ·by_cases hd:d=fs.length<;>by_cases hd':d'=fs.length
  ·subst hd;subst hd';rw [q1] at h h';exact ⟨rfl,(hm'.inj _ _ _ _ _ _ b s s' h h').2⟩
  ·subst hd;rw [q1] at h;rw [q2 d' n' hd'] at h';have h1:=(hge n j b s h).1;have h2:=(hbd d' n' j' b s' h').2;omega
  ·subst hd';rw [q1] at h';rw [q2 d n hd] at h;have h1:=(hge n' j' b s' h').1;have h2:=(hbd d n j b s h).2;omega
  ·rw [q2 d n hd] at h;rw [q2 d' n' hd'] at h';exact hm.inj _ _ _ _ _ _ b s s' h h'
 ·by_cases hd:d<fs.length
  ·rw [hup d n hd] at hB;refine hlow.blk hd (bZ hK (q2 d n (Nat.ne_of_lt hd)) (λj b s h=>hk.step.block b (hbd d n j b s h).2 (λ_ _ _ _ h=>by cases h)) (hm.blk d n B hB))
  ·have hlt:=zO hB;simp only [zamM] at hlt;have hd2:d=fs.length:=by omega
   subst hd2;rw [htop] at hB;have hB':=hB;rw [iL] at hB';simp only [Nat.zero_le,if_true,Nat.sub_zero] at hB';have hmem:=aC hB';rcases hF with hF|hF
   ·have hok:=(hrows B hmem).2;have hb:=hm'.blk 0 n B (by rw [htop'];exact hB);unfold zj at hb⊢;cases hrs:B.k with
    |row rs=>
     rw [hrs] at hb;rcases hb with ⟨h1,h2⟩|⟨b,s,us,h1,h2,h3,h4,h5,h6⟩
     ·exact .inl ⟨h1,(q1 n).trans h2⟩
     ·exact .inr ⟨b,s,us,(q1 n).trans h1,h2,h3,h4,h5,λj e o x he hx=>by
       obtain ⟨v,hv,hr⟩:=h6 j e o x he hx;exact ⟨v,hv,hP hF hr⟩⟩
    |box cells=>
     rw [hrs] at hb hok;obtain ⟨b,us,h1,h2,h3,h4⟩:=hb;exact ⟨b,us,(q1 n).trans h1,h2,eK (λh=>hP hF h) rfl rfl hok h3,gQ hok _⟩
    |deep cols rs=>
     rw [hrs] at hb;rcases hb with ⟨h1,h2⟩|⟨b,s,us,h1,h2,h3,h4,h5,h6,h7⟩
     ·exact .inl ⟨h1,(q1 n).trans h2⟩
     ·refine .inr ⟨b,s,us,by rw [q1];exact h1,h2,h3,h4,h5,λj e o x he hx=>?_,λj hj=>by rw [q1];exact h7 j hj⟩;obtain ⟨v,hv,hr⟩:=h6 j e o x he hx;refine ⟨v,hv,?_⟩;rw [q1];exact hr.keep (λh'=>hP hF h') (λ_ _ _ _=>rfl)
    |dead=>rw [hrs] at hok;cases hok
   ·have hfl:=hF B hmem;have hb:=hm'.blk 0 n B (by rw [htop'];exact hB);unfold vZ at hfl;unfold zj at hb⊢;cases hrs:B.k with
    |row rs=>
     rw [hrs] at hb hfl;rcases hb with ⟨h1,h2⟩|⟨b,s,us,h1,h2,h3,h4,h5,h6⟩
     ·exact .inl ⟨h1,(q1 n).trans h2⟩
     ·exact .inr ⟨b,s,us,(q1 n).trans h1,h2,h3,h4,h5,λj e o x he hx=>by
       obtain ⟨v,hv,hr⟩:=h6 j e o x he hx;exact ⟨v,hv,jD (zamK.1 (zamK.1 hfl e (aC he)) x (aC hx)) hr⟩⟩
    |deep cols rs=>
     rw [hrs] at hb hfl;rcases hb with ⟨h1,h2⟩|⟨b,s,us,h1,h2,h3,h4,h5,h6,h7⟩
     ·exact .inl ⟨h1,(q1 n).trans h2⟩
     ·refine .inr ⟨b,s,us,by rw [q1];exact h1,h2,h3,h4,h5,λj e o x he hx=>?_,λj hj=>by rw [q1];exact h7 j hj⟩;obtain ⟨v,hv,hr⟩:=h6 j e o x he hx;have hf:=oX (zamK.1 hfl e (aC he)) hx;rw [Nat.zero_add] at hf;refine ⟨v,hv,?_⟩;rw [q1];unfold DCell at hr⊢;cases hl:zE o cols with
      |some q=>
       rw [hl] at hr hf;rcases hr with hr|⟨inner,b2,s2,cap,us2,e1,r2⟩
       ·exact .inl hr
       ·rw [e1] at hf;obtain ⟨r3,r4,r5,r6,r7,r8,r9,r10,r11⟩:=r2;refine .inr ⟨inner,b2,s2,cap,us2,e1,r3,r4,r5,r6,r7,r8,r9,r10,λj2 e2 o2 y he2 hy=>?_⟩;obtain ⟨u,hu,hr2⟩:=r11 j2 e2 o2 y he2 hy;exact ⟨u,hu,jD (zamK.1 (zamK.1 hf e2 (aC he2)) y (aC hy)) hr2⟩
      |none=>
       rw [hl] at hr hf;exact jD hf hr
    |box cells=>rw [hrs] at hfl;cases hfl
    |dead=>rw [hrs] at hfl;cases hfl
 ·intro u v hpo hfl hr;have:v.map (dL fs.length)=(v.map (dL 0)).map (dL fs.length):=by
   rw [AV.map_map];exact AV.map_congr λc=>by cases c<;>rfl
  rw [this];refine eD (λx c hc h=>?_) (λc h=>by subst h;rfl) hr;obtain ⟨c0,h0,rfl⟩:=AV.mem_map hc;have h9:=hpo c0 h0;cases c0 with
  |p x=>
   rcases hfl with hfl|hfl
   ·exact hP hfl h
   ·exact jD (hfl _ h0) h
  |own d i g m=>
   obtain ⟨h1,B,h2,h3,h4⟩:=h;refine ⟨h1,B,by rw [htop];rw [htop'] at h2;exact h2,h3,λe=>?_⟩;rw [<-q1] at h4;exact h4 e
  |ptr d i g j o=>
   obtain ⟨h1,B,h2,h3,h4⟩:=h;refine ⟨h1,B,by rw [htop];rw [htop'] at h2;exact h2,h3,λe=>?_⟩;rw [<-q1] at h4;exact h4 e
  |_=>simp [CV.po] at h9
theorem Ay (hm:MemOK F N0 (st.fr::st.up) pl w) {v:Value} {x:CV} {y:PV} {lent:Bool} (h:kT st x=some (y,lent)) (hF:∀k,F' k->Own F pl k) (hl:lent=true->∀k,¬F' k) (hv:cM F (st.fr::st.up) pl w v x):RepP (Own F' cE) w v y:=by
 have own:∀k,Own F' cE k->F' k:=λk h=>h.elim id (λ⟨_,_,_,_,h⟩=>by cases h)
 have hP:∀{u x},RepP (Own F pl) w u x->RepP (Own F' cE) w u x:=fun {u x} h=>h.step (λ_ _ _=>rfl) (zH _) (λk hk=> .inl (hF k (own k hk)))
 unfold kT at h;split at h
 ·cases h;have hv:RepP (Own F pl) w v _:=hv;exact hP hv.weak
 ·rename_i d n g m;split at h
  ·rename_i g' sz ty rows hB;split at h
   ·rename_i hc;obtain ⟨rfl,rfl⟩:=hc;cases h;exact kE hm hv hB rfl (λb s _ hk=>hl rfl b (own b hk)) (λh=>hP h)
   ·cases h
  ·cases h
 ·cases h
theorem oY (hm:MemOK F N0 (st.fr::st.up) pl w) (hF:∀k,F' k->Own F pl k):∀{cs:List CV} {ps:List PV} {lent:Bool},eP st cs=some (ps,lent)->(lent=true->∀k,¬F' k)->
  ps.length=cs.length/\∀(i:Nat) p u c,ps[i]?=some p->cs[i]?=some c->cM F (st.fr::st.up) pl w u c->RepP (Own F' cE) w u p
 | [],ps,lent,h,hl=>by
  simp only [eP,zS,zamL] at h;obtain ⟨rfl,rfl⟩:=h;exact ⟨rfl,λi p u c hp=>by simp at hp⟩
 |x::r,ps,lent,h,hl=>by
  simp only [eP,zK] at h;obtain ⟨⟨a,p⟩,h1,⟨b,q⟩,h2,h3⟩:=h;simp only [zS,zamL] at h3;obtain ⟨rfl,rfl⟩:=h3;obtain ⟨k1,k2⟩:=oY hm hF h2 (λe=>hl (by simp [e]));refine ⟨by simp [k1],λi p' u c hp hc hr=>?_⟩;cases i with
  |zero=>
   simp only [List.getElem?_cons_zero,zS] at hp hc;subst hp;subst hc;exact Ay hm h1 hF (λe=>hl (by simp [e])) hr
  |succ i=>exact k2 i p' u c (by simpa using hp) (by simpa using hc) hr
theorem uT (hm:MemOK F N0 (st.fr::st.up) pl w) {v:Value} {x y:Cap} {lent:Bool} (h:eH st x=some (y,lent)) (hF:∀k,F' k->Own F pl k) (hl:lent=true->∀k,¬F' k) (hv:fE F (st.fr::st.up) pl w v x):fE F' [] cE w v y:=by
 have own:∀k,Own F' cE k->F' k:=λk h=>h.elim id (λ⟨_,_,_,_,h⟩=>by cases h)
 have hP:∀{u x},RepP (Own F pl) w u x->RepP (Own F' cE) w u x:=fun {u x} h=>h.step (λ_ _ _=>rfl) (zH _) (λk hk=> .inl (hF k (own k hk)))
 cases x with
 |p z=>cases h;exact hP hv
 |rp row=>cases h;exact RepR.same hv (λk d n j s hp=>by cases hp) hP
 |ptr d n g=>
  simp only [eH] at h;split at h
  ·rename_i g' sz ty cells hB;split at h
   ·rename_i hg;subst hg;obtain ⟨⟨r,q⟩,h1,h2⟩:=zD.1 h;cases h2;obtain ⟨k1,k2⟩:=oY hm hF h1 hl;obtain ⟨_,B,e1,e2,e3⟩:=hv;have e1:some B=some _:=e1.symm.trans hB;cases e1;obtain ⟨b,s,hp,rfl⟩:=e3 rfl;obtain ⟨b',us,m1,m2,m3,m4⟩:=hm.blk d n _ hB;have:b'=b:=(eB hp m1).1;subst this;refine ⟨⟨b',0,none⟩,by rw [cO],λ_=>⟨λd n j s hp=>(by cases hp),(zamX.1 m2).1⟩,λi x hx=>?_⟩;have hi:i<cells.length:=by rw [<-k1];exact (zamJ.1 hx).1
    obtain ⟨u,hu⟩:=aZ (l:=us.toList) (i:=i) (by rw [m3.1];exact hi);refine ⟨u,?_,k2 i x u _ hx (zh hi) (m3.2 i u _ hu (zh hi)).1⟩;rw [cO,dR m2,<-Array.getElem?_toList,Nat.zero_add];exact hu
   ·cases h
  ·cases h
theorem lC (hm:MemOK F N0 (st.fr::st.up) pl w) (hF:∀k,F' k->Own F pl k):∀{cs ds:List Cap} {lent:Bool},cK st cs=some (ds,lent)->(lent=true->∀k,¬F' k)->
  ds.length=cs.length/\∀(i:Nat) u c d,cs[i]?=some c->ds[i]?=some d->fE F (st.fr::st.up) pl w u c->fE F' [] cE w u d
 | [],ds,lent,h,hl=>by
  simp only [cK,zS,zamL] at h;obtain ⟨rfl,rfl⟩:=h;exact ⟨rfl,λi p u c hp=>by simp at hp⟩
 |x::r,ds,lent,h,hl=>by
  simp only [cK,zK] at h;obtain ⟨⟨a,p⟩,h1,⟨b,q⟩,h2,h3⟩:=h;simp only [zS,zamL] at h3;obtain ⟨rfl,rfl⟩:=h3;obtain ⟨k1,k2⟩:=lC hm hF h2 (λe=>hl (by simp [e]));refine ⟨by simp [k1],λi u c d hc hd hr=>?_⟩;cases i with
  |zero=>
   simp only [List.getElem?_cons_zero,zS] at hc hd;subst hc;subst hd;exact uT hm h1 hF (λe=>hl (by simp [e])) hr
  |succ i=>exact k2 i u c d (by simpa using hc) (by simpa using hd) hr
theorem gS {d n g j o m esz:Nat} {q:TypeId×List (List PV)} (h:st.subB d n g j o m esz=some q):∃sz ty cols rows e,st.get d n=some ⟨g,sz,ty,.deep cols rows⟩/\rows[j]?=some e/\e[o]?=some (.ls q.2)/\zE o cols=some (esz,q.1)/\o<sz/\m=q.2.length:=by
 unfold St.subB at h;split at h
 ·rename_i g' sz ty cols rows hB;split at h
  ·rename_i esz' ety e hl hj;split at h
   ·rename_i inner he;split at h
    ·rename_i hc;obtain ⟨rfl,rfl,c3,c4⟩:=hc;cases h;exact ⟨_,_,_,_,_,hB,hj,he,hl,c4,c3⟩
    ·cases h
   ·cases h
  ·cases h
 ·cases h
theorem qR {fs:List Frame} {d n g sz ty j o esz:Nat} {ety:TypeId} {cols:List (Nat×Nat×TypeId)} {rows:List (List PV)} {e:List PV} {x:PV} (hb:zj F fs pl w d n ⟨g,sz,ty,.deep cols rows⟩) (hj:rows[j]?=some e) (he:e[o]?=some x) (hl:zE o cols=some (esz,ety)):
  ∃v,DeepP F w pl (pl d n (j*sz+o+1)) esz ety v x:=by
 rcases hb with ⟨h1,h2⟩|⟨b,s,us,h1,h2,h3,h4,h5,h6,h7⟩
 ·have h1:rows= []:=h1;subst h1;simp at hj
 ·obtain ⟨v,_,hr⟩:=h6 j e o x hj he;unfold DCell at hr;rw [hl] at hr;exact ⟨v,hr⟩
theorem iM {own:Nat->Prop} {b m cap esz:Nat} {ety:TypeId} {us:Array Value} {inner:List (List PV)} (hm:m=inner.length) (hc:m<=cap) (hcm:cap<=maxLen) (hn:¬own b) (h7:w.heap[b]?=some (.cells us ety (0,0))) (h9:∀e∈inner,e.length=esz)
  (h10:∀(j:Nat) (e:List PV) (o:Nat) (y:PV),inner[j]?=some e->e[o]?=some y->∃u,us[j*esz+o]?=some u/\RepP own w u y):RepP own w (.slice (some ⟨b,0,none⟩) m cap) (.ls inner):=by
 refine .ls (sz:=esz) (λj o=>us.getD (j*esz+o) .nilIface) hm.symm hc (zU hc hcm) (λ_=>⟨hn,(zamX.1 h7).1⟩) (λj e he=>⟨h9 e (aC he),λo x hx=>?_⟩) (λj e o x he hx=>?_)
 ·obtain ⟨v,hv,_⟩:=h10 j e o x he hx;rw [cO,Nat.zero_add,dR h7,hv];simp [Array.getD_eq_getD_getElem?,hv]
 ·obtain ⟨v,hv,hr⟩:=h10 j e o x he hx;have:us.getD (j*esz+o) .nilIface=v:=by simp [Array.getD_eq_getD_getElem?,hv]
  rw [this];exact hr
theorem uU (hm:MemOK F N0 fs pl w) {v:Value} {d n g m:Nat} {sz ty:Nat} {cols:List (Nat×Nat×TypeId)} {rows:List (List PV)} (hv:cM F fs pl w v (.own d n g m)) (hB:zA d n fs=some ⟨g,sz,ty,.deep cols rows⟩) (hml:m=rows.length)
  {own':Nat->Prop} (h1:∀j b s,pl d n j=some (b,s)->¬own' b) (h2:∀{u x},RepP (Own F pl) w u x->RepP own' w u x):RepP own' w v (.ls rows):=by
 obtain ⟨h0,B,h3,h4,h5⟩:=hv;rw [hB] at h3;cases h3;have hb:=hm.blk d n _ hB;rcases h5 rfl with ⟨rfl,hm0,hp⟩|⟨b,s,cap,hp,rfl,hs,hmc,hcm⟩
 ·have:rows= []:=bR (by omega);subst this;exact .nls
 ·rcases hb with ⟨h6,h7⟩|⟨b',s',us,h6,h7,h8,h9,h10,h11,h12⟩
  ·exact (dS hp h7).elim
  ·have hbs:b'=b/\s'=s:=by rw [hp] at h6;cases h6;exact ⟨rfl,rfl⟩
   obtain ⟨rfl,rfl⟩:=hbs;simp only at h7 h9 h10 h11;refine iM hml hmc hcm (h1 _ _ _ hp) h7 h10 (λj e o x he hx=>?_);obtain ⟨v,hv,hr⟩:=h11 j e o x he hx;refine ⟨v,hv,?_⟩;unfold DCell at hr;cases hl:zE o cols with
   |none=>rw [hl] at hr;exact h2 hr
   |some q=>
    rw [hl] at hr;rcases hr with ⟨rfl|rfl,rfl,_⟩|⟨inner,b2,s2,cap2,us2,rfl,e2,rfl,e4,e5,e6,e7,e8,e9,e10⟩
    ·exact .nl
    ·exact .nls
    ·exact iM rfl e5 e6 (h1 _ _ _ e2) e7 e9 (λj e o y he hy=>by
      obtain ⟨u,hu,hr⟩:=e10 j e o y he hy;exact ⟨u,hu,h2 hr⟩)
theorem sK (hm:MemOK F N0 (st.fr::st.up) pl w) {v:Value} {x y:CV} {lent:Bool} (h:dW st x=some (y,lent)) (hF:∀k,F' k->Own F pl k) (hl:lent=true->∀k,¬F' k) (hv:cM F (st.fr::st.up) pl w v x):
  cM F' [] cE w v y/\(y= .u->x= .u):=by
 have own:∀k,Own F' cE k->F' k:=λk h=>h.elim id (λ⟨_,_,_,_,h⟩=>by cases h)
 have hP:∀{u x},RepP (Own F pl) w u x->RepP (Own F' cE) w u x:=fun {u x} h=>h.step (λ_ _ _=>rfl) (zH _) (λk hk=> .inl (hF k (own k hk)))
 unfold dW at h;split at h
 ·rename_i d n g m;split at h
  ·rename_i g' sz ty rows hB;split at h
   ·rename_i hc;obtain ⟨rfl,rfl⟩:=hc;cases h;exact ⟨kE hm hv hB rfl (λb s _ hk=>hl rfl b (own b hk)) (λh=>hP h),λh=>by cases h⟩
   ·cases h
  ·rename_i g' sz ty cols rows hB;split at h
   ·rename_i hc;obtain ⟨rfl,rfl⟩:=hc;cases h;exact ⟨uU hm hv hB rfl (λ_ b s _ hk=>hl rfl b (own b hk)) (λh=>hP h),λh=>by cases h⟩
   ·cases h
  ·cases h
 ·rename_i d n g j o m esz;obtain ⟨q,hq,h⟩:=zD.1 h;cases h;obtain ⟨sz,ty,cols,rows,e,hB,hj,he,hle,ho,hml⟩:=gS hq;obtain ⟨h1,B1,h2,h3,h4⟩:=hv;have h2:some B1=some _:=h2.symm.trans hB;cases h2;obtain ⟨v',hd⟩:=qR (hm.blk _ _ _ hB) hj he hle;refine ⟨?_,λh=>by cases h⟩;rcases h4 rfl with ⟨rfl,hm0⟩|⟨b,s,cap,a1,a2,a3,a4,a5⟩
  ·have hin:q.2= []:=bR (by omega);show RepP _ _ _ (.ls q.2);rw [hin];exact .nls
  ·simp only at a1;rcases hd with ⟨_,_,e3⟩|⟨inner,b',s',cap',us,e1,e2,e3,e4,e5,e6,e7,e8,e9,e10⟩
   ·rw [a1] at e3;cases e3
   ·cases e1;rw [a1] at e2;cases e2;subst a2;exact iM (by omega) a4 a5 (λhk=>hl rfl _ (own _ hk)) e7 e9 (λj e o y he hy=>by
     obtain ⟨u,hu,hr⟩:=e10 j e o y he hy;exact ⟨u,hu,hP hr⟩)
 ·cases h;have hv:RepP (Own F pl) w v _:=hv;exact ⟨hP hv.weak,λh=>by cases h⟩
 ·rename_i f caps;obtain ⟨⟨l,q⟩,h1,h2⟩:=zD.1 h;cases h2;obtain ⟨vals,e1,e2,e3⟩:=hv;obtain ⟨k1,k2⟩:=lC hm hF h1 hl;refine ⟨⟨vals,e1,e2.trans k1.symm,λi u c hu hc=>?_⟩,λh=>by cases h⟩;have hi:i<caps.length:=by rw [<-k1];exact (zamJ.1 hc).1
  exact k2 i u _ c (zh hi) hc (e3 i u _ hu (zh hi))
 ·split at h
  ·rename_i hp;cases h;refine ⟨?_,id⟩;cases x with
   |nfn=>exact hv
   |rp row o=>exact RepR.same hv (λk d n j s hp=>by cases hp) hP
   |_=>simp [CV.pure] at hp
  ·cases h
theorem sL (hm:MemOK F N0 (st.fr::st.up) pl w) (hF:∀k,F' k->Own F pl k):∀{us:List Value} {xs ys:List CV} {lent:Bool},hO st xs=some (ys,lent)->(lent=true->∀k,¬F' k)->zT F (st.fr::st.up) pl w us xs->zT F' [] cE w us ys
 |us,[],ys,lent,h,hl,hr=>by
  simp only [hO,zS,zamL] at h;obtain ⟨rfl,rfl⟩:=h;exact ⟨hr.1,λi u c hu hc=>by simp at hc⟩
 |us,x::xs,ys,lent,h,hl,hr=>by
  simp only [hO,zK] at h;obtain ⟨⟨y,p⟩,h1,⟨ys',q⟩,h2,h3⟩:=h;simp only [zS,zamL] at h3;obtain ⟨rfl,rfl⟩:=h3
  match us,hr with
  | [],hr=>exact absurd hr.1 (by simp)
  |u::us,hr=>
   have h4:=hr.2 0 u x rfl rfl;obtain ⟨h5,h6⟩:=sK hm h1 hF (λe=>hl (by simp [e])) h4.1;have h7:=sL hm hF h2 (λe=>hl (by simp [e])) (us:=us) ⟨by simpa using hr.1,λi u c hu hc=>hr.2 (i+1) u c (by simpa using hu) (by simpa using hc)⟩;refine ⟨by simp [h7.1],λi v c hv hc=>?_⟩;cases i with
   |zero=>
    simp only [List.getElem?_cons_zero,zS] at hv hc;subst hv;subst hc;refine ⟨h5,?_⟩;rcases h4.2 with e|e
    ·subst e;simp [dW,CV.pure] at h1
    ·exact .inr e
   |succ i=>exact h7.2 i v c (by simpa using hv) (by simpa using hc)
theorem Az (hm:MemOK F N0 (st.fr::st.up) pl w) (hF:∀k,F' k->Own F pl k) {v:Value} {x y:AV} {lent:Bool} (h:fO st x=some (y,lent)) (hl:lent=true->∀k,¬F' k) (hr:zf F (st.fr::st.up) pl w v x):zf F' [] cE w v y:=by
 cases x with
 |c x=>
  simp only [fO,zD] at h;obtain ⟨⟨z,p⟩,h1,h2⟩:=h;simp only [zamL] at h2;obtain ⟨rfl,rfl⟩:=h2;exact (sK hm h1 hF hl hr).1
 |agg cs=>
  simp only [fO,zD] at h;obtain ⟨⟨z,p⟩,h1,h2⟩:=h;simp only [zamL] at h2;obtain ⟨rfl,rfl⟩:=h2;obtain ⟨us,h3,h4⟩:=hr;exact ⟨us,h3,sL hm hF h1 hl h4⟩
 |tup vs=>simp [fO] at h
def cA (F:Nat->Prop) (fs:List Frame) (pl:Pl) (w:World) (us:List Value) (xs:List AV):Prop:=us.length=xs.length/\∀(i:Nat) u x,us[i]?=some u->xs[i]?=some x->zf F fs pl w u x
theorem oZ (hm:MemOK F N0 (st.fr::st.up) pl w) (hF:∀k,F' k->Own F pl k):∀{us:List Value} {xs ys:List AV} {lent:Bool},eQ st xs=some (ys,lent)->(lent=true->∀k,¬F' k)->cA F (st.fr::st.up) pl w us xs->cA F' [] cE w us ys
 |us,[],ys,lent,h,hl,hr=>by
  simp only [eQ,zS,zamL] at h;obtain ⟨rfl,rfl⟩:=h;exact ⟨hr.1,λi u c hu hc=>by simp at hc⟩
 |us,x::xs,ys,lent,h,hl,hr=>by
  simp only [eQ,zK] at h;obtain ⟨⟨y,p⟩,h1,⟨ys',q⟩,h2,h3⟩:=h;simp only [zS,zamL] at h3;obtain ⟨rfl,rfl⟩:=h3
  match us,hr with
  | [],hr=>exact absurd hr.1 (by simp)
  |u::us,hr=>
   have h5:=Az hm hF h1 (λe=>hl (by simp [e])) (hr.2 0 u x rfl rfl);have h7:=oZ hm hF h2 (λe=>hl (by simp [e])) (us:=us) ⟨by simpa using hr.1,λi u c hu hc=>hr.2 (i+1) u c (by simpa using hu) (by simpa using hc)⟩;refine ⟨by simp [h7.1],λi v c hv hc=>?_⟩;cases i with
   |zero=>
    simp only [List.getElem?_cons_zero,zS] at hv hc;subst hv;subst hc;exact h5
   |succ i=>exact h7.2 i v c (by simpa using hv) (by simpa using hc)
def eM (G:Nat->Option Obj) (P:Program) (run:zo):Prop:=
 ∀f args up r,run f args up=some r->∀F (N0:Base G) pl w vals,MemOK F N0 up pl w->N0.n<=w.heap.size->cA F up pl w vals args->Goes P f vals.toArray w (RetOK F N0 up pl w r)
theorem A0 {v:Value} {c:Cap} (h:fE F fs pl w v c):zf F fs pl w v c.av:=by
 cases c with
 |p x=>exact h
 |ptr d n g=>
  obtain ⟨h0,B,h1,h2,h3⟩:=h;exact ⟨h0,B,h1,h2,λe=>by
   obtain ⟨b,s,h4,h5⟩:=h3 e;exact ⟨b,s,h4,.inl ⟨by decide,by simpa using h5⟩⟩⟩
 |rp row=>exact h
theorem cS {st:St} {d n:Nat} {B:Blk} (hd:d<(st.fr::st.up).length) (d' m:Nat):zA d' m ((st.set d n B).fr::(st.set d n B).up)=if d'=d/\m=n then some B else zA d' m (st.fr::st.up):=by
 have:(st.set d n B).fr::(st.set d n B).up=bN d n B (st.fr::st.up):=by
  unfold St.set;split
  ·rename_i e;simp [bN,e]
  ·rename_i e;simp [bN,e]
 rw [this,zX _ _ hd]
theorem fI (st:St) (d n:Nat) (B:Blk):(st.set d n B).up.length=st.up.length:=by
 unfold St.set;split
 ·rfl
 ·exact zr _
theorem pA (hP:∀{u x},RepP (Own F pl) w u x->RepP (Own F' pl1) w u x):∀{cs ds:List CV} {us:List Value},uE cs=some ds->zT F fs pl w us cs->zT F' fs' pl1 w us ds
 | [],ds,us,h,hr=>by cases h;exact ⟨hr.1,λi u c hu hc=>by simp at hc⟩
 |c::cs,ds,us,h,hr=>by
  cases c with
  |p x=>
   obtain ⟨ds',h1,rfl⟩:=zD.1 h;cases us with
   |nil=>have:=hr.1;simp at this
   |cons u us=>
    have ih:=pA hP h1 (us:=us) ⟨by have:=hr.1;simpa using this,λi v d hv hd=>hr.2 (i+1) v d (by simpa using hv) (by simpa using hd)⟩;obtain ⟨h2,h3⟩:=hr.2 0 u _ rfl rfl;refine ⟨by have:=ih.1;simp [this],λi v d hv hd=>?_⟩;cases i with
    |zero=>
     cases hv;cases hd;have h2:RepP (Own F pl) w u x:=h2;exact ⟨(hP h2).weak,.inr h2.one.1⟩
    |succ i=>exact ih.2 i v d (by simpa using hv) (by simpa using hd)
  |_=>cases h
theorem pC (hP:∀{u x},RepP (Own F pl) w u x->RepP (Own F' pl1) w u x) {v:Value} {x y:AV} (h:jV x=some y) (hr:zf F fs pl w v x):zf F' fs' pl1 w v y:=by
 unfold jV at h;split at h
 ·split at h
  ·cases h
  cases h;have hr:RepP (Own F pl) w v _:=hr;exact (hP hr).weak
 ·obtain ⟨ds,h1,rfl⟩:=zD.1 h;obtain ⟨us,rfl,h2⟩:=hr;exact ⟨us,rfl,pA hP h1 h2⟩
 ·cases h
theorem mZ (hP:∀{u x},RepP (Own F pl) w u x->RepP (Own F' pl1) w u x):∀{us:List Value} {xs ys:List AV},iU xs=some ys->cA F fs pl w us xs->cA F' fs' pl1 w us ys
 |us,[],ys,h,hr=>by cases h;exact ⟨hr.1,λi u c hu hc=>by simp at hc⟩
 |us,x::xs,ys,h,hr=>by
  simp only [iU,zK,zD] at h;obtain ⟨a,h1,r,h2,rfl⟩:=h;cases us with
  |nil=>have:=hr.1;simp at this
  |cons u us=>
   have ih:=mZ hP h2 (us:=us) ⟨by have:=hr.1;simpa using this,λi v d hv hd=>hr.2 (i+1) v d (by simpa using hv) (by simpa using hd)⟩;refine ⟨by have:=ih.1;simp [this],λi v d hv hd=>?_⟩;cases i with
   |zero=>cases hv;cases hd;exact pC hP h1 (hr.2 0 u x rfl rfl)
   |succ i=>exact ih.2 i v d (by simpa using hv) (by simpa using hd)
def A1 (st:St) (pl:Pl) (d n:Nat) (B:Blk) (pc:Pc):Option (Nat×Nat)->Prop
 |none=>pc=pl d n
 |some (j,o)=>∃B0,st.get d n=some B0/\(pc=pcO (pl d n (j*B0.sz+o+1))\/(pc=nop/\B.k= .row []))
def A2 (st:St) (d n:Nat) (B:Blk):Option (Nat×Nat)->Prop
 |none=>∃B0,st.get d n=some B0/\B={B0 with g:=0}/\(match B0.k with| .row _=>True| .deep _ _=>True| .box cells=>cells.all isP=true| .dead=>False)
 |some (j,o)=>∃g sz ty cols rows e inner,st.get d n=some ⟨g,sz,ty,.deep cols rows⟩/\rows[j]?=some e/\e[o]?=some (.ls inner)/\zE o cols=some (B.sz,B.ty)/\o<sz/\B=⟨0,B.sz,B.ty,.row inner⟩
structure LentB (st:St) (a a':AV) (d n:Nat) (q:Option (Nat×Nat)) (B:Blk):Prop where
 blk:A2 st d n B q
 arg:∀{F:Nat->Prop} {pl:Pl} {w:World} {v:Value},(∀d n B,zA d n (st.fr::st.up)=some B->zj F (st.fr::st.up) pl w d n B)->zf F (st.fr::st.up) pl w v a->∃pc,A1 st pl d n B pc q/\∀{F':Nat->Prop} {pl1:Pl},pl1 0 0=pc->zf F' [[(0,B)]] pl1 w v a'
theorem A3 {x y:AV} {d n:Nat} {q:Option (Nat×Nat)} {B:Blk} (h:eT st x=some (y,d,n,q,B)):LentB st x y d n q B:=by
 unfold eT at h;split at h
 ·split at h
  ·rename_i g' sz ty rows hB;split at h
   ·rename_i hc;cases h;refine ⟨⟨_,hB,rfl,trivial⟩,fun {F pl w v} _ hr=>⟨_,rfl,fun {F' pl1} hp=>?_⟩⟩;obtain ⟨h1,B1,h2,h3,h4⟩:=hr;have h2:some B1=some _:=h2.symm.trans hB;cases h2;refine ⟨h1,⟨0,sz,ty,.row rows⟩,by simp [zA,zE],zH _,λ_=>?_⟩;rw [hp];exact h4 hc.1
   ·cases h
  ·rename_i g' sz ty cols rows hB;split at h
   ·rename_i hc;cases h;refine ⟨⟨_,hB,rfl,trivial⟩,fun {F pl w v} _ hr=>⟨_,rfl,fun {F' pl1} hp=>?_⟩⟩;obtain ⟨h1,B1,h2,h3,h4⟩:=hr;have h2:some B1=some _:=h2.symm.trans hB;cases h2;refine ⟨h1,⟨0,sz,ty,.deep cols rows⟩,by simp [zA,zE],zH _,λ_=>?_⟩;rw [hp];exact h4 hc.1
   ·cases h
  ·cases h
 ·rename_i d' n' g j o m esz;obtain ⟨q,hq,h⟩:=zD.1 h;cases h;obtain ⟨sz,ty,cols,rows,e,hB,hj,he,hl,ho,hm⟩:=gS hq;refine ⟨⟨g,sz,ty,cols,rows,e,q.2,hB,hj,he,hl,ho,rfl⟩,fun {F pl w v} hall hr=>?_⟩;obtain ⟨h1,B1,h2,h3,h4⟩:=hr;have h2:some B1=some _:=h2.symm.trans hB;cases h2;obtain ⟨v',hd⟩:=qR (hall _ _ _ hB) hj he hl;rcases h4 rfl with ⟨rfl,hm0⟩|⟨b,s,cap,a1,a2,a3,a4,a5⟩
  ·have hin:q.2= []:=bR (by omega);refine ⟨nop,⟨_,hB,.inr ⟨rfl,by rw [hin]⟩⟩,fun {F' pl1} hp=>⟨h1,⟨0,esz,q.1,.row q.2⟩,by simp [zA,zE],zH _,λ_=> .inl ⟨rfl,hm0,by rw [hp];rfl⟩⟩⟩
  ·refine ⟨_,⟨_,hB,.inl rfl⟩,fun {F' pl1} hp=>⟨h1,⟨0,esz,q.1,.row q.2⟩,by simp [zA,zE],zH _,λ_=> .inr ⟨b,s,cap,?_,a2,a3,a4,a5⟩⟩⟩;rw [hp];simp only at a1⊢;rw [a1];rfl
 ·split at h
  ·rename_i d' n' g g' sz ty cells hB;split at h
   ·rename_i hc;cases h;refine ⟨⟨_,hB,rfl,hc.2⟩,fun {F pl w v} _ hr=>⟨_,rfl,fun {F' pl1} hp=>?_⟩⟩;obtain ⟨h1,B1,h2,h3,h4⟩:=hr;have h2:some B1=some _:=h2.symm.trans hB;cases h2;refine ⟨h1,⟨0,sz,ty,.box cells⟩,by simp [zA,zE],zH _,λ_=>?_⟩;rw [hp];simpa using h4 hc.1
   ·cases h
  ·cases h
 ·cases h
theorem sM:∀{xs ys:List AV} {d n:Nat} {q:Option (Nat×Nat)} {B:Blk},dX st xs=some (ys,d,n,q,B)->A2 st d n B q/\
  ∀{F:Nat->Prop} {pl:Pl} {w:World} {us:List Value},(∀d n B,zA d n (st.fr::st.up)=some B->zj F (st.fr::st.up) pl w d n B)->cA F (st.fr::st.up) pl w us xs->∃pc,A1 st pl d n B pc q/\∀{F':Nat->Prop} {pl1:Pl},pl1 0 0=pc->(∀{u x},RepP (Own F pl) w u x->RepP (Own F' pl1) w u x)->cA F' [[(0,B)]] pl1 w us ys
 | [],ys,d,n,q,B,h=>by cases h
 |x::xs,ys,d,n,q,B,h=>by
  simp only [dX] at h;split at h
  ·rename_i a q' hx;obtain ⟨r,h1,h2⟩:=zD.1 h;cases h2;have hl:=A3 hx;refine ⟨hl.blk,fun {F pl w us} hall hr=>?_⟩;cases us with
   |nil=>have:=hr.1;simp at this
   |cons u us=>
    obtain ⟨pc,g1,g2⟩:=hl.arg hall (hr.2 0 u x rfl rfl);refine ⟨pc,g1,fun {F' pl1} hp hP=>?_⟩;have ih:=mZ hP (fs':= [[(0,B)]]) h1 (us:=us) ⟨by have:=hr.1;simpa using this,λi v d hv hd=>hr.2 (i+1) v d (by simpa using hv) (by simpa using hd)⟩;refine ⟨by have:=ih.1;simp [this],λi v e hv he=>?_⟩;cases i with
    |zero=>cases hv;cases he;exact g2 hp
    |succ i=>exact ih.2 i v e (by simpa using hv) (by simpa using he)
  ·simp only [zK,zD] at h;obtain ⟨a,h1,⟨r,q'⟩,h2,h3⟩:=h;cases h3;obtain ⟨g1,g2⟩:=sM h2;refine ⟨g1,fun {F pl w us} hall hr=>?_⟩;cases us with
   |nil=>have:=hr.1;simp at this
   |cons u us=>
    obtain ⟨pc,g3,g4⟩:=g2 hall (us:=us) ⟨by have:=hr.1;simpa using this,λi v d hv hd=>hr.2 (i+1) v d (by simpa using hv) (by simpa using hd)⟩;refine ⟨pc,g3,fun {F' pl1} hp hP=>?_⟩;have ih:=g4 hp hP;refine ⟨by have:=ih.1;simp [this],λi v e hv he=>?_⟩;cases i with
    |zero=>cases hv;cases he;exact pC hP h1 (hr.2 0 u x rfl rfl)
    |succ i=>exact ih.2 i v e (by simpa using hv) (by simpa using he)
theorem gT {φ:CV->CV} (hφ:∀x,φ (.p x)= .p x) {v:AV} (h:∀c∈v.cvs,isP c=true):v.map φ=v:=by
 have key:∀cs:List CV,(∀c∈cs,isP c=true)->cs.map φ=cs:=λcs h=>by
  conv=>rhs;rw [<-List.map_id cs]
  refine List.map_congr_left λc hc=>?_
  have:=h c hc;cases c with
  |p x=>exact hφ x
  |_=>simp [isP] at this
 cases v with
 |c x=>
  have:=key [x] (λc hc=>h c hc);simp only [zanE,List.map_nil,List.cons.injEq,and_true] at this;simp [AV.map,this]
 |agg cs=>simp only [AV.map];rw [key cs h]
 |tup vs=>
  simp only [AV.map]
  congr 1
  conv=>rhs;rw [<-List.map_id vs]
  refine List.map_congr_left λp hp=>?_
  obtain ⟨b,cs⟩:=p;simp only [id];rw [key cs λc hc=>h c (by simp only [AV.cvs,zamP];exact ⟨_,hp,hc⟩)]
theorem jE {u:Value} {v:AV} (hv:∀c∈v.cvs,isP c=true) {ww ww':World} (hP:∀{u p},RepP (Own F pl) ww u p->RepP (Own F' pl') ww' u p) (h:zf F fs pl ww u v):zf F' fs' pl' ww' u v:=by
 have:=eD (φ:=id) (F':=F') (fs':=fs') (pl':=pl') (ww':=ww') (λu c hc h=>by
  have hp:=hv c hc;cases c with
  |p x=>exact hP h
  |_=>simp [isP] at hp) (λc h=>h) h
 have e:v.map id=v:=by cases v<;>simp [AV.map]
 rwa [e] at this
theorem pD (hm:MemOK F N0 (st.fr::st.up) pl w) {d n:Nat} {q:Option (Nat×Nat)} {B:Blk} {pc:Pc} (hK:A2 st d n B q) (hg:A1 st pl d n B pc q) {fs':List Frame} {pl1:Pl} (p0:pl1 0 0=pc) (hP1:∀{u x},RepP (Own F pl) w u x->RepP (Own F' pl1) w u x):
  zj F' fs' pl1 w 0 0 B/\B.g=0/\(∃B0,zA d n (st.fr::st.up)=some B0)/\(∀j x,pc j=some x->∃j',pl d n j'=some x)/\(∀j j' b s s',pc j=some (b,s)->pc j'=some (b,s')->j=j'):=by
 cases q with
 |none=>
  have hg:pc=pl d n:=hg;subst hg;obtain ⟨B0,hB0,rfl,hkind⟩:=hK;have hB0:zA d n (st.fr::st.up)=some B0:=hB0;refine ⟨?_,rfl,⟨B0,hB0⟩,λj x h=>⟨j,h⟩,λj j' b s s' h h'=>(hm.inj _ _ _ _ _ _ _ _ _ h h').2.2⟩;have hb:=hm.blk d n B0 hB0;unfold zj at hb⊢;simp only;cases hk:B0.k with
  |box cells=>
   rw [hk] at hb hkind;obtain ⟨b,us,g1,g2,g3,g4⟩:=hb;exact ⟨b,us,p0.trans g1,g2,eK (λh=>hP1 h) rfl rfl hkind g3,gQ hkind _⟩
  |row rows=>
   rw [hk] at hb;rcases hb with ⟨g1,g2⟩|⟨b,s,us,g1,g2,g3,g4,g5,g6⟩
   ·exact .inl ⟨g1,p0.trans g2⟩
   ·exact .inr ⟨b,s,us,p0.trans g1,g2,g3,g4,g5,λj e o x he hx=>by
     obtain ⟨v,hv,hrr⟩:=g6 j e o x he hx;exact ⟨v,hv,hP1 hrr⟩⟩
  |deep cols rows=>
   rw [hk] at hb;rcases hb with ⟨g1,g2⟩|⟨b,s,us,g1,g2,g3,g4,g5,g6,g7⟩
   ·exact .inl ⟨g1,p0.trans g2⟩
   ·refine .inr ⟨b,s,us,by rw [p0];exact g1,g2,g3,g4,g5,λj e o x he hx=>?_,λc hc=>by rw [p0];exact g7 c hc⟩;obtain ⟨v,hv,hrr⟩:=g6 j e o x he hx;rw [p0];exact ⟨v,hv,hrr.keep (λh=>hP1 h) (λ_ _ _ _=>rfl)⟩
  |dead=>rw [hk] at hkind;exact hkind.elim
 |some t=>
  obtain ⟨j,o⟩:=t;obtain ⟨g,sz,ty,cols,rows,e,inner,hB,hj,he,hl,ho,hBe⟩:=hK;obtain ⟨B0,hB0,hpc⟩:=hg;rw [hB] at hB0;cases hB0;have hB:zA d n (st.fr::st.up)=some ⟨g,sz,ty,.deep cols rows⟩:=hB;refine ⟨?_,by rw [hBe],⟨_,hB⟩,?_,?_⟩
  ·rw [hBe];rcases hpc with rfl|⟨rfl,hk⟩
   ·obtain ⟨v,hd⟩:=qR (hm.blk _ _ _ hB) hj he hl;rcases hd with ⟨h1,_,h3⟩|⟨inner',b,s,cap,us,h1,h2,h3,h4,h5,h6,h7,h8,h9,h10⟩
    ·refine .inl ⟨?_,by rw [p0];simp only;rw [h3];rfl⟩;rcases h1 with h1|h1<;>cases h1
     rfl
    ·cases h1;refine .inr ⟨b,s,us,by rw [p0];simp only;rw [h2];rfl,h7,h8,by rw [h4];exact dN _ h5,h9,λj e o x he hx=>?_⟩;obtain ⟨u,hu,hr⟩:=h10 j e o x he hx;exact ⟨u,hu,hP1 hr⟩
   ·rw [hBe] at hk;simp only [BK.row.injEq] at hk;exact .inl ⟨hk,p0⟩
  ·intro j' x hx;rcases hpc with rfl|⟨rfl,_⟩
   ·simp only at hx;cases hq:pl d n (j*sz+o+1) with
    |none=>rw [hq] at hx;cases hx
    |some y=>
     rw [hq] at hx;obtain ⟨_,rfl⟩:=aW hx;exact ⟨_,hq⟩
   ·cases hx
  ·rcases hpc with rfl|⟨rfl,_⟩
   ·exact wP _
   ·exact gP
theorem DCell.keep1 {F':Nat->Prop} {p:Pc} {cols:List (Nat×Nat×TypeId)} {sz j o:Nat} {v:Value} {x:PV} (h:DCell F w pl p cols sz j o v x) (hP:∀{u y},RepP (Own F pl) w u y->RepP (Own F' pl') w' u y) (hw:∀b s,p (j*sz+o+1)=some (b,s)->w'.heap[b]?=w.heap[b]?):DCell F' w' pl' p cols sz j o v x:=by
 unfold DCell at h⊢;cases hl:zE o cols with
 |some q=>
  rw [hl] at h;exact DeepP.keep h hP (λb s e=>hw b s e)
 |none=>
  rw [hl] at h;exact hP h
theorem A4 {run:zo} (hS:eM G P run) (hr:Rel F N0 T pl st a w) {f:FuncId} {args:List AV} {vals:List Value} {dst:Nat} {v:AV} (ha:cA F (st.fr::st.up) pl w vals args) (h:((dX st args).bind λ(args',d,n,q,B)=>(run f args' [[(0,B)]]).bind λr=>fU st dst d n q B r)=some (v,st')):
  Goes P f vals.toArray w λu w'=>Post F N0 pl st w v st' u w'/\∀args' d n q B,dX st args=some (args',d,n,q,B)->KeepB (λk=>∀j s,pl d n j≠some (k,s)) w w':=by
 obtain ⟨⟨args',d,n,q,B⟩,h1,h⟩:=zK.1 h;obtain ⟨r,h2,h⟩:=zK.1 h;obtain ⟨hLK,hLA⟩:=sM h1;obtain ⟨pc,hgp,hLA⟩:=hLA hr.mem.blk ha
 let pl1:Pl:=λd' n'=>if d'=0/\n'=0 then pc else nop
 let F':Nat->Prop:=λk=>Own F pl k/\∀j s,pc j≠some (k,s)
 have p0:pl1 0 0=pc:=by simp [pl1]
 have p1:∀{d' n' j x},pl1 d' n' j=some x->d'=0/\n'=0/\pc j=some x:=fun {d' n' j x} h=>by
  simp only [pl1] at h;split at h
  ·rename_i e;exact ⟨e.1,e.2,h⟩
  ·cases h
 obtain ⟨_,_,⟨B0,hB0⟩,hin,hinj⟩:=pD (fs':= []) (pl1:=pl1) (F':=Own F pl) hr.mem hLK hgp p0 (fun {u x} h=>h.step (λ_ _ _=>rfl) (zH _) λk hk=>by
  rcases hk with hk|⟨d',n',j,s,hk⟩
  ·exact .inl hk
  ·cases q with
   |none=>
    have hgp:pc=pl d n:=hgp;have:=(p1 hk).2.2;rw [hgp] at this;exact .inl (.inr ⟨_,_,_,_,this⟩)
   |some t=>
    obtain ⟨B9,_,h9⟩:=hgp;have h8:=(p1 hk).2.2;rcases h9 with h9|⟨h9,_⟩
    ·rw [h9] at h8;cases hq:pl d n (t.1*B9.sz+t.2+1) with
     |none=>rw [hq] at h8;cases h8
     |some y=>
      rw [hq] at h8;obtain ⟨_,h7⟩:=aW h8;exact .inl (.inr ⟨d,n,_,s,hq.trans (congrArg some h7.symm)⟩)
    ·rw [h9] at h8;cases h8)
 have own1:∀k,Own F' pl1 k->Own F pl k:=λk h=>by
  rcases h with h|⟨d',n',j,s,h⟩
  ·exact h.1
  ·obtain ⟨j',hj'⟩:=hin _ _ (p1 h).2.2;exact .inr ⟨d,n,j',s,hj'⟩
 have hP1:∀{u x},RepP (Own F pl) w u x->RepP (Own F' pl1) w u x:=fun {u x} h=>h.step (λ_ _ _=>rfl) (zH _) λk hk=> .inl (own1 k hk)
 obtain ⟨hBK,hBg,_,_,_⟩:=pD (fs':= [[(0,B)]]) (pl1:=pl1) (F':=F') hr.mem hLK hgp p0 hP1;have hm1:MemOK F' N0 [[(0,B)]] pl1 w:=by
  refine ⟨λd' n' j k s h=>?_,λd1 n1 j1 d2 n2 j2 k s s' h1 h2=>?_,λd' n' B' hB=>?_,λk hk=>?_,hr.mem.fix⟩
  ·obtain ⟨rfl,rfl,h3⟩:=p1 h;obtain ⟨j',hj'⟩:=hin _ _ h3;obtain ⟨g1,g2,_,_⟩:=hr.mem.live d n j' k s hj';exact ⟨g1,g2,λhk=>hk.2 j s h3,B,by simp [zA,zE]⟩
  ·obtain ⟨rfl,rfl,e1⟩:=p1 h1;obtain ⟨rfl,rfl,e2⟩:=p1 h2;exact ⟨rfl,rfl,hinj _ _ k s s' e1 e2⟩
  ·have hlt:=zO hB;have hd:d'=0:=by simp at hlt;exact hlt
   subst hd;simp only [zA,zanD,if_true,zE] at hB;split at hB
   ·rename_i e;subst e;cases hB;exact hBK
   ·cases hB
  ·rcases hk.1 with h|⟨d',n',j,s,h⟩
   ·exact hr.mem.fsz k h
   ·exact (hr.mem.live d' n' j k s h).2.1
 refine (hS f args' _ r h2 F' N0 pl1 w _ hm1 hr.low (hLA p0 hP1)).mono λu w' hret=>?_
 obtain ⟨⟨pl',r1,r2,r3⟩,r4,r5⟩:=hret;have hD:d<(st.fr::st.up).length:=zO hB0;have hkb:KeepB (λk=>∀j s,pl d n j≠some (k,s)) w w':=⟨r3.step.size,λk hk hn=>r3.step.block k hk λd' n' j s h=>by
  obtain ⟨j',hj'⟩:=hin _ _ (p1 h).2.2;exact hn j' s hj'⟩
 have hstep:Step pl w w':=⟨r3.step.os,r3.step.tape,r3.step.output,r3.step.size,λk hk hn=>hkb.2 k hk λj s=>hn d n j s⟩;have outF:∀{k},F k->F' k:=fun {k} h=>⟨.inl h,λj s e=>by
  obtain ⟨j',hj'⟩:=hin _ _ e;exact (hr.mem.live _ _ _ _ _ hj').2.2.1 h⟩
 have outO:∀{d' n' j k s},pl d' n' j=some (k,s)->¬(d'=d/\n'=n)->F' k:=fun {d' n' j k s} h e=>⟨.inr ⟨d',n',j,s,h⟩,λj' s' h'=>by
  obtain ⟨j2,hj2⟩:=hin _ _ h';have e9:=hr.mem.inj _ _ _ _ _ _ k s s' h hj2;exact e ⟨e9.1,e9.2.1⟩⟩
 have other:∀{d' n' j b s},pl d' n' j=some (b,s)->¬(d'=d/\n'=n)->w'.heap[b]?=w.heap[b]?:=fun {d' n' j b s} h e=>hkb.2 b (hr.mem.live _ _ _ _ _ h).2.1 λj' s' h'=>by
  have e9:=hr.mem.inj _ _ _ _ _ _ b s s' h h';exact e ⟨e9.1,e9.2.1⟩
 refine ⟨?_,λargs2 d2 n2 q2 B2 h12=>by rw [h1] at h12;cases h12;exact hkb⟩;unfold fU at h;cases q with
 |none=>
  simp only at h;have hgp:pc=pl d n:=hgp;obtain ⟨B0',hB0',rfl,hkind⟩:=hLK;have hB0':zA d n (st.fr::st.up)=some B0':=hB0';rw [hB0] at hB0';cases hB0';split at h
  ·rename_i fr' hup;split at h
   ·rename_i B1 B0' hB' hB0';have hB0':zA d n (st.fr::st.up)=some B0':=hB0';rw [hB0] at hB0';cases hB0';split at h
    ·rename_i hc;obtain ⟨c1,cty,csz,c2,c3,c4⟩:=hc;cases h;have hrows:r.rows= []:=by simpa using c2
     rw [hup] at r1 r2 r3;rw [hrows] at r1 r2;have q4:Ext (pl d n) (pl' 0 0):=by
      obtain ⟨B2,q1,q3⟩:=r3.later.blk 0 0 {B0 with g:=0} (by simp [zA,zE]);have q1:zE 0 fr'=some B2:=by simpa [zA] using q1
      rw [hB'] at q1;cases q1;have:=(q3 c1).2.1;rw [p0,hgp] at this;exact this
     have t2:aX pl d n (pl' 0 0) d n=pl' 0 0:=zJ ..;have t0:∀d' n',¬(d'=d/\n'=n)->aX pl d n (pl' 0 0) d' n'=pl d' n':=λd' n' e=>aQ pl _ e
     have own3:∀k,Own F (aX pl d n (pl' 0 0)) k->Own F' pl' k:=λk h=>by
      rcases h with h|⟨d',n',j,s,h⟩
      ·exact .inl (outF h)
      ·by_cases e:d'=d/\n'=n
       ·obtain ⟨rfl,rfl⟩:=e;rw [t2] at h;exact .inr ⟨0,0,j,s,h⟩
       ·rw [t0 d' n' e] at h;exact .inl (outO h e)
     have hP2:∀{u x},RepP (Own F' pl') w' u x->RepP (Own F (aX pl d n (pl' 0 0))) w' u x:=fun {u x} h=>h.step (λ_ _ _=>rfl) (zH _) λk hk=> .inl (own3 k hk)
     have hnew:∀{j b s},pl' 0 0 j=some (b,s)->(∃j0 s0,pl d n j0=some (b,s0))\/w.heap.size<=b:=fun {j b s} h=>by
      rcases r3.later.new 0 0 j b s h with ⟨d0,n0,j0,s0,h0⟩|h0
      ·obtain ⟨j',hj'⟩:=hin _ _ (p1 h0).2.2;exact .inl ⟨j',s0,hj'⟩
      ·exact .inr h0
     have hK:Keep F (st.fr::st.up) ((st.set d n {B0 with k:=B1.k}).fr::(st.set d n {B0 with k:=B1.k}).up) pl (aX pl d n (pl' 0 0)) w w':=by
      refine ⟨hstep,by simp [fI],λd' n' b hb=>?_,λd' n' j b s h=>?_⟩
      ·rw [cS hD];by_cases e:d'=d/\n'=n
       ·obtain ⟨rfl,rfl⟩:=e;rw [hB0] at hb;cases hb;exact ⟨{B0 with k:=B1.k},by rw [if_pos ⟨rfl,rfl⟩],zH _,λ_=>⟨by rw [t2];exact q4,rfl⟩⟩
       ·exact ⟨b,by rw [if_neg e];exact hb,zH _,λ_=>⟨Ext.of (t0 d' n' e),rfl⟩⟩
      ·by_cases e:d'=d/\n'=n
       ·obtain ⟨rfl,rfl⟩:=e;rw [t2] at h;exact (hnew h).imp (λ⟨j0,s0,h0⟩=>⟨_,_,j0,s0,h0⟩) id
       ·rw [t0 d' n' e] at h;exact .inl ⟨d',n',j,s,h⟩
     have hblk:=r2.blk 0 0 B1 (by simp only [zq,zA,zamM,zanD,Nat.zero_add,Nat.zero_ne_one,if_false,if_true];exact hB');have mix:∀{d' n' j j' k s s'},pl' 0 0 j=some (k,s)->pl d' n' j'=some (k,s')->¬(d'=d/\n'=n)->False:=fun {d' n' j j' k s s'} h1 h2 e=>by
      rcases hnew h1 with ⟨j0,s0,h0⟩|h0
      ·have e9:=hr.mem.inj _ _ _ _ _ _ k s' s0 h2 h0;exact e ⟨e9.1,e9.2.1⟩
      ·have:=(hr.mem.live _ _ _ _ _ h2).2.1;omega
     refine ⟨⟨aX pl d n (pl' 0 0),?_,⟨λd' n' j k s h=>?_,λd1 n1 j1 d2 n2 j2 k s s' h1 h2=>?_,λd' n' Bx hBx=>?_,λk hk=>dV (hr.mem.fsz k hk) hstep.size,cU hr.mem hstep.block⟩,hK⟩,aY _ _ _ _⟩
     ·have hfl:∀c∈r.v.cvs,isP c=true:=λc hc=>zamK.1 c3 c hc
      rw [gT (λx=>rfl) hfl];rw [gT (λx=>rfl) hfl] at r1;exact jE hfl (λh=>hP2 h) r1
     ·rw [cS hD];by_cases e:d'=d/\n'=n
      ·obtain ⟨rfl,rfl⟩:=e;rw [t2] at h;obtain ⟨g1,g2,g3,_⟩:=r2.live 0 0 j k s h;exact ⟨g1,g2,λhF=>g3 (outF hF),{B0 with k:=B1.k},by rw [if_pos ⟨rfl,rfl⟩]⟩
      ·rw [t0 d' n' e] at h;obtain ⟨g1,g2,g3,Bq,g4⟩:=hr.mem.live d' n' j k s h;exact ⟨g1,dV g2 hstep.size,g3,Bq,by rw [if_neg e];exact g4⟩
     ·by_cases x1:d1=d/\n1=n<;>by_cases x2:d2=d/\n2=n
      ·obtain ⟨rfl,rfl⟩:=x1;obtain ⟨rfl,rfl⟩:=x2;rw [t2] at h1 h2;exact ⟨rfl,rfl,(r2.inj _ _ _ _ _ _ k s s' h1 h2).2.2⟩
      ·obtain ⟨rfl,rfl⟩:=x1;rw [t2] at h1;rw [t0 _ _ x2] at h2;exact (mix h1 h2 x2).elim
      ·obtain ⟨rfl,rfl⟩:=x2;rw [t2] at h2;rw [t0 _ _ x1] at h1;exact (mix h2 h1 x1).elim
      ·rw [t0 _ _ x1] at h1;rw [t0 _ _ x2] at h2;exact hr.mem.inj _ _ _ _ _ _ k s s' h1 h2
     ·rw [cS hD] at hBx;split at hBx
      ·rename_i e;obtain ⟨rfl,rfl⟩:=e;cases hBx;unfold zj at hblk⊢;simp only;cases hk:B1.k with
       |box cells=>
        rw [hk] at hblk c4;obtain ⟨b,us,g1,g2,g3,g4⟩:=hblk;have hp:cells.all isP=true:=by
         cases hk0:B0.k with
         |box c0=>rw [hk0] at c4;exact c4
         |row r0=>rw [hk0] at c4;cases c4
         |deep c r0=>rw [hk0] at c4;cases c4
         |dead=>rw [hk0] at c4;cases c4
        exact ⟨b,us,t2.trans g1,by rw [<-cty];exact g2,eK (λh=>hP2 h) rfl rfl hp g3,gQ hp _⟩
       |row rows=>
        rw [hk] at hblk;rcases hblk with ⟨g1,g2⟩|⟨b,s,us,g1,g2,g3,g4,g5,g6⟩
        ·exact .inl ⟨g1,t2.trans g2⟩
        ·exact .inr ⟨b,s,us,t2.trans g1,by rw [<-cty];exact g2,g3,by rw [<-csz];exact g4,λe he=>by rw [<-csz];exact g5 e he,λj e o x he hx=>by
          obtain ⟨v,hv,hrr⟩:=g6 j e o x he hx;exact ⟨v,by rw [<-csz];exact hv,hP2 hrr⟩⟩
       |deep cols rows=>
        rw [hk] at hblk;rcases hblk with ⟨g1,g2⟩|⟨b,s,us,g1,g2,g3,g4,g5,g6,g7⟩
        ·exact .inl ⟨g1,t2.trans g2⟩
        ·refine .inr ⟨b,s,us,by rw [t2];exact g1,by rw [<-cty];exact g2,g3,by rw [<-csz];exact g4,λe he=>by rw [<-csz];exact g5 e he,λj e o x he hx=>?_,λc hc=>by rw [t2];exact g7 c (by rw [csz];exact hc)⟩;obtain ⟨v,hv,hrr⟩:=g6 j e o x he hx;refine ⟨v,by rw [<-csz];exact hv,?_⟩;rw [t2];rw [csz] at hrr;exact hrr.keep (λh=>hP2 h) (λ_ _ _ _=>rfl)
       |dead=>
        rw [hk] at c4;cases hk0:B0.k<;>(rw [hk0] at c4;cases c4)
      ·rename_i e;exact bZ hK (t0 _ _ e) (λj b s h=>other h e) (hr.mem.blk d' n' Bx hBx)
    ·cases h
   ·cases h
  ·cases h
 |some t=>
  obtain ⟨j0,o0⟩:=t;obtain ⟨g,sz,ty,cols,rows,e,inner,hB,hj,he,hl,ho,hBe⟩:=hLK;obtain ⟨B9,hB9,hpc⟩:=hgp;rw [hB] at hB9;cases hB9;have hBd:zA d n (st.fr::st.up)=some ⟨g,sz,ty,.deep cols rows⟩:=hB;simp only at hpc;have hpx:∀{j x},pc j=some x->j=0/\pl d n (j0*sz+o0+1)=some x:=fun {j x} h=>by
   rcases hpc with h9|⟨h9,_⟩
   ·rw [h9] at h;cases hq:pl d n (j0*sz+o0+1) with
    |none=>rw [hq] at h;cases h
    |some y=>
     rw [hq] at h;obtain ⟨e1,e2⟩:=aW h;exact ⟨e1,congrArg some e2.symm⟩
   ·rw [h9] at h;cases h
  have hsame:∀{i b s},pl d n i=some (b,s)->i≠j0*sz+o0+1->w'.heap[b]?=w.heap[b]?:=fun {i b s} h hne=>r3.step.block b (hr.mem.live _ _ _ _ _ h).2.1 λd' n' j s' h'=>by
   have h8:=(hpx (p1 h').2.2).2;exact hne (hr.mem.inj _ _ _ _ _ _ _ _ _ h h8).2.2
  simp only at h;split at h
  ·rename_i fr' hup;split at h
   ·rename_i sz' ty' inner' g9 sz9 ty9 cols9 rows9 inner9 hB' hB9 hk9;rw [hB] at hB9;cases hB9;rw [hBe] at hk9;cases hk9;split at h
    ·rename_i e9 hj9;rw [hj] at hj9;cases hj9;split at h
     ·rename_i hc;obtain ⟨rfl,rfl,c2,c3,c4⟩:=hc;cases h;have hrows:r.rows= []:=by simpa using c2
      rw [hup] at r1 r2 r3;rw [hrows] at r1 r2;have q4:Ext pc (pl' 0 0):=by
       obtain ⟨B2,q1,q3⟩:=r3.later.blk 0 0 B (by simp [zA,zE]);have q1:zE 0 fr'=some B2:=by simpa [zA] using q1
       rw [hB'] at q1;cases q1;have:=(q3 rfl).2.1;rw [p0] at this;exact this
      have own3:∀k,Own F pl k->Own F' pl' k:=λk hx=>by
       rcases hx with hx|⟨d',n',j,s,hx⟩
       ·exact .inl (outF hx)
       ·by_cases ed:d'=d/\n'=n
        ·obtain ⟨rfl,rfl⟩:=ed;by_cases ep:∃j' s',pc j'=some (k,s')
         ·obtain ⟨j',s',ep⟩:=ep;exact .inr ⟨0,0,j',s',q4.2 j' _ ep⟩
         ·exact .inl ⟨.inr ⟨_,_,j,s,hx⟩,λj' s' h'=>ep ⟨j',s',h'⟩⟩
        ·exact .inl (outO hx ed)
      have hP2:∀{u x},RepP (Own F' pl') w' u x->RepP (Own F pl) w' u x:=fun {u x} h=>h.step (λ_ _ _=>rfl) (zH _) λk hk=> .inl (own3 k hk)
      have hK:Keep F (st.fr::st.up) ((st.set d n ⟨g,sz,ty,.deep cols (rows.set j0 (e.set o0 (.ls inner')))⟩).fr::(st.set d n ⟨g,sz,ty,.deep cols (rows.set j0 (e.set o0 (.ls inner')))⟩).up) pl pl w w':=by
       refine ⟨hstep,by simp [fI],λd' n' b hb=>?_,λd' n' j b s h=> .inl ⟨d',n',j,s,h⟩⟩;rw [cS hD];by_cases ed:d'=d/\n'=n
       ·obtain ⟨rfl,rfl⟩:=ed;rw [hBd] at hb;cases hb;exact ⟨⟨g,sz,ty,.deep cols (rows.set j0 (e.set o0 (.ls inner')))⟩,by rw [if_pos ⟨rfl,rfl⟩],zH _,λ_=>⟨Ext.refl _,rfl⟩⟩
       ·exact ⟨b,by rw [if_neg ed];exact hb,zH _,λ_=>⟨Ext.refl _,rfl⟩⟩
      have hblk:=r2.blk 0 0 _ (by simp only [zq,zA,zamM,zanD,Nat.zero_add,Nat.zero_ne_one,if_false,if_true];exact hB');have hjl:j0<rows.length:=(zamJ.1 hj).1;refine ⟨⟨pl,?_,⟨λd' n' j k s h=>?_,hr.mem.inj,λd' n' Bx hBx=>?_,λk hk=>dV (hr.mem.fsz k hk) hstep.size,cU hr.mem hstep.block⟩,hK⟩,aY _ _ _ _⟩
      ·have hfl:∀c∈r.v.cvs,isP c=true:=λc hc=>zamK.1 c3 c hc
       rw [gT (λx=>rfl) hfl];rw [gT (λx=>rfl) hfl] at r1;exact jE hfl (λh=>hP2 h) r1
      ·rw [cS hD];obtain ⟨g1,g2,g3,Bq,g4⟩:=hr.mem.live d' n' j k s h;refine ⟨g1,dV g2 hstep.size,g3,?_⟩;by_cases ed:d'=d/\n'=n
       ·exact ⟨⟨g,sz,ty,.deep cols (rows.set j0 (e.set o0 (.ls inner')))⟩,by rw [if_pos ed]⟩
       ·exact ⟨Bq,by rw [if_neg ed];exact g4⟩
      ·rw [cS hD] at hBx;split at hBx
       ·rename_i ed;obtain ⟨rfl,rfl⟩:=ed;cases hBx;rcases hr.mem.blk _ _ _ hBd with ⟨g1,g2⟩|⟨b,s,us,g1,g2,g3,g4,g5,g6,g7⟩
        ·have g1:rows= []:=g1;rw [g1] at hj;simp at hj
        simp only at g2 g4 g5 g6 g7;refine .inr ⟨b,s,us,g1,(hsame g1 (Ne.symm (Nat.succ_ne_zero _))).trans g2,g3,by simpa using g4,λe2 he2=>?_,λj' e2 o' x' hj' hx'=>?_,by simpa using g7⟩
        ·rcases List.mem_or_eq_of_mem_set he2 with h8|rfl
         ·exact g5 _ h8
         ·simpa using g5 e (aC hj)
        ·simp only at hj' hx'⊢;by_cases e1:j'=j0/\o'=o0
         ·obtain ⟨rfl,rfl⟩:=e1;rw [List.getElem?_set_self hjl] at hj';cases hj';have hol:=(zamJ.1 he).1;rw [List.getElem?_set_self hol] at hx';cases hx';obtain ⟨v,hv,hd⟩:=g6 j' e o' _ hj he;refine ⟨v,hv,?_⟩;unfold DCell at hd⊢;rw [hl] at hd⊢;simp only at hd⊢;rcases hd with ⟨k1,k2,k3⟩|⟨in2,b2,s2,cap,us2,k1,k2,k3,k4,k5,k6,k7,k8,k9,k10⟩
          ·have:inner= []:=by rcases k1 with k1|k1<;>cases k1;rfl
           rw [this] at c4;exact .inl ⟨.inr (by rw [bR (c4.trans rfl)]),k2,k3⟩
          ·cases k1;rcases hpc with h9|⟨h9,h10⟩
           ·have h11:pl' 0 0 0=some (b2,s2):=by rw [q4.1,h9,k2];rfl
            rcases hblk with ⟨m1,m2⟩|⟨b3,s3,us3,m1,m2,m3,m4,m5,m6⟩
            ·exact (dS h11 m2).elim
            ·obtain ⟨rfl,rfl⟩:=eB h11 m1;refine .inr ⟨inner',b3,s3,cap,us3,rfl,k2,by rw [c4];exact k3,k4,by rw [c4];exact k5,k6,m2,m3,m5,λj2 e2 o2 y he2 hy=>?_⟩;obtain ⟨u,hu,hru⟩:=m6 j2 e2 o2 y he2 hy;exact ⟨u,hu,hP2 hru⟩
           ·have h12:inner= []:=by rw [hBe] at h10;cases h10;rfl
            rw [h12] at c4;have h13:inner'= []:=bR (c4.trans rfl);rw [h13,<-h12];have h14:w'.heap[b2]?=w.heap[b2]?:=r3.step.block b2 (hr.mem.live _ _ _ _ _ k2).2.1 λd' n' j s' h'=>by
             have:=(p1 h').2.2;rw [h9] at this;cases this
            exact .inr ⟨inner,b2,s2,cap,us2,rfl,k2,k3,k4,k5,k6,h14.trans k7,k8,k9,λj2 e2 o2 y he2 hy=>by
             rw [h12] at he2;simp at he2⟩
         ·have hold:∃e2',rows[j']?=some e2'/\e2'[o']?=some x':=by
           by_cases ej:j'=j0
           ·subst ej;rw [List.getElem?_set_self hjl] at hj';cases hj';rw [List.getElem?_set_ne (λh=>e1 ⟨rfl,h.symm⟩)] at hx';exact ⟨e,hj,hx'⟩
           ·rw [List.getElem?_set_ne (Ne.symm ej)] at hj';exact ⟨e2,hj',hx'⟩
          obtain ⟨e2',h8,h9⟩:=hold;obtain ⟨v,hv,hd⟩:=g6 j' e2' o' x' h8 h9;have ho2:o'<sz:=by
           rw [<-g5 e2' (aC h8)];exact (zamJ.1 h9).1
          refine ⟨v,hv,hd.keep1 (λh=>hK.repP h) (λb2 s2 h=>hsame h ?_)⟩;have:=sB (j:=j0) (j':=j') ho ho2 e1;omega
       ·rename_i ed;exact bZ hK rfl (λj b s h=>other h ed) (hr.mem.blk d' n' Bx hBx)
     ·cases h
    ·cases h
   ·cases h
  ·cases h
theorem qT {p p':Pc} {b s b' s':Nat} (h:Ext p p') (h1:p=one b s) (h2:p'=one b' s'):p'=p:=by
 have h3:=h.1;rw [h1,h2,rW,rW] at h3;rw [h1,h2];cases h3;rfl
theorem nA {d0 n0 g0:Nat}:∀{cells l:List CV} {d n g m:Nat},fP d0 n0 g0 cells=some (l,d,n,g,m)->∃i:Nat,cells[i]?=some (.own d n g m)/\l[i]?=some (.own 0 1 1 m)/\l.length=cells.length/\∀j,j≠i->(l[j]?=cells[j]?/\∀c,cells[j]?=some c->isP c=true)\/(cells[j]?=some (.ptr d0 n0 g0 0 KO)/\l[j]?=some (.ptr 0 0 0 0 KO))
 | [],l,d,n,g,m,h=>by cases h
 |c::r,l,d,n,g,m,h=>by
  cases c with
  |p x=>
   simp only [fP,zD] at h;obtain ⟨⟨l',q⟩,h1,h2⟩:=h;simp only [zamL] at h2;obtain ⟨rfl,rfl⟩:=h2;obtain ⟨i,h3,h4,h5,h6⟩:=nA h1;refine ⟨i+1,by simpa using h3,by simpa using h4,by simp [h5],λj hj=>?_⟩;cases j with
   |zero=>exact .inl ⟨rfl,λc hc=>by simp at hc;subst hc;rfl⟩
   |succ j=>
    rcases h6 j (by omega) with ⟨h7,h8⟩|⟨h7,h8⟩
    ·exact .inl ⟨by simpa using h7,λc hc=>h8 c (by simpa using hc)⟩
    ·exact .inr ⟨by simpa using h7,by simpa using h8⟩
  |ptr d' n' g' j' o'=>
   simp only [fP] at h;split at h
   ·rename_i he;obtain ⟨rfl,rfl,rfl,rfl,rfl⟩:=he;obtain ⟨⟨l',q⟩,h1,h2⟩:=zD.1 h;simp only [zamL] at h2;obtain ⟨rfl,rfl⟩:=h2;obtain ⟨i,h3,h4,h5,h6⟩:=nA h1;refine ⟨i+1,by simpa using h3,by simpa using h4,by simp [h5],λj hj=>?_⟩;cases j with
    |zero=>exact .inr ⟨rfl,rfl⟩
    |succ j=>
     rcases h6 j (by omega) with ⟨h7,h8⟩|⟨h7,h8⟩
     ·exact .inl ⟨by simpa using h7,λc hc=>h8 c (by simpa using hc)⟩
     ·exact .inr ⟨by simpa using h7,by simpa using h8⟩
   ·cases h
  |own d' n' g' m'=>
   simp only [fP] at h;split at h
   ·rename_i hr;cases h;refine ⟨0,rfl,rfl,by simp,λj hj=>?_⟩;cases j with
    |zero=>exact absurd rfl hj
    |succ j=>exact .inl ⟨by simp,λc hc=>zamK.1 hr c (aC (by simpa using hc))⟩
   ·cases h
  |_=>cases h
theorem jF {d0 n0 g0 d n g g1:Nat}:∀{cells l:List CV},mG d0 n0 g0 d n g g1 cells=some l->l.length=cells.length/\∀(j:Nat) c,cells[j]?=some c->(∃x,c= .p x/\l[j]?=some (.p x))\/(∃m,c= .own 0 1 g1 m/\l[j]?=some (.own d n g m))\/(c= .ptr 0 0 0 0 KO/\l[j]?=some (.ptr d0 n0 g0 0 KO))
 | [],l,h=>by cases h;exact ⟨rfl,λj c hc=>by simp at hc⟩
 |c::r,l,h=>by
  unfold mG at h;split at h
  ·rename_i e;cases e
  ·rename_i x r' e;cases e;obtain ⟨l',h1,rfl⟩:=zD.1 h;obtain ⟨h2,h3⟩:=jF h1;refine ⟨by simp [h2],λj c hc=>?_⟩;cases j with
   |zero=>simp at hc;subst hc;exact .inl ⟨x,rfl,rfl⟩
   |succ j=>simpa using h3 j c (by simpa using hc)
  ·rename_i g' m r' e;cases e;split at h
   ·rename_i eg;subst eg;obtain ⟨l',h1,rfl⟩:=zD.1 h;obtain ⟨h2,h3⟩:=jF h1;refine ⟨by simp [h2],λj c hc=>?_⟩;cases j with
    |zero=>simp at hc;subst hc;exact .inr (.inl ⟨m,rfl,rfl⟩)
    |succ j=>simpa using h3 j c (by simpa using hc)
   ·cases h
  ·rename_i o r' e;cases e;split at h
   ·rename_i eo;subst eo;obtain ⟨l',h1,rfl⟩:=zD.1 h;obtain ⟨h2,h3⟩:=jF h1;refine ⟨by simp [h2],λj c hc=>?_⟩;cases j with
    |zero=>simp at hc;subst hc;exact .inr (.inr ⟨rfl,rfl⟩)
    |succ j=>simpa using h3 j c (by simpa using hc)
   ·cases h
  ·cases h
theorem uV (hm:MemOK F N0 (st.fr::st.up) pl w) (hN:N0.n<=w.heap.size) {v:Value} {x y:AV} (h:bB st x=some (y,st')) (hv:zf F (st.fr::st.up) pl w v x):
  ∃pl',Same F N0 pl st st' w pl'/\zf F (st'.fr::st'.up) pl' w v y/\∀c∈y.cvs,isP c=true:=by
 cases x with
 |c x=>
  simp only [bB,zD,zamL,Prod.exists] at h;obtain ⟨p,s,h1,rfl,rfl⟩:=h;obtain ⟨pl',h2,h3⟩:=iJ hm hN h1 hv;exact ⟨pl',h2,h3,λc hc=>by simp [AV.cvs] at hc;subst hc;rfl⟩
 |agg cs=>
  simp only [bB,zD,zamL,Prod.exists] at h;obtain ⟨ps,s,h1,rfl,rfl⟩:=h;obtain ⟨us,rfl,h4⟩:=hv;obtain ⟨pl',h2,h3⟩:=eC hm hN h1 h4;exact ⟨pl',h2,⟨us,rfl,h3.cs⟩,λc hc=>by
   simp only [AV.cvs,List.mem_map] at hc;obtain ⟨p,_,rfl⟩:=hc;rfl⟩
 |tup vs=>cases h
theorem lD:∀{xs ys:List AV} {st st':St} {pl:Pl} {us:List Value},MemOK F N0 (st.fr::st.up) pl w->N0.n<=w.heap.size->aV st xs=some (ys,st')->cA F (st.fr::st.up) pl w us xs->
  ∃pl',Same F N0 pl st st' w pl'/\cA F (st'.fr::st'.up) pl' w us ys/\∀y∈ys,∀c∈y.cvs,isP c=true
 | [],ys,st,st',pl,us,hm,hN,h,hv=>by
  simp only [aV,zS,zamL] at h;obtain ⟨rfl,rfl⟩:=h;exact ⟨pl,Same.refl hm,hv,λy hy=>by cases hy⟩
 |x::xs,ys,st,st',pl,us,hm,hN,h,hv=>by
  simp only [aV,zK,zD,zamL,Prod.exists] at h;obtain ⟨y,st1,h1,ys',st2,h2,rfl,rfl⟩:=h;cases us with
  |nil=>have:=hv.1;simp at this
  |cons u us=>
   obtain ⟨pl1,s1,r1,p1⟩:=uV hm hN h1 (hv.2 0 u x rfl rfl);obtain ⟨pl2,s2,r2,p2⟩:=lD s1.mem hN h2 (us:=us) ⟨by simpa using hv.1,λi u' x' hu hx=>s1.keep.repA (hv.2 (i+1) u' x' (by simpa using hu) (by simpa using hx))⟩;refine ⟨pl2,s1.trans s2,⟨by simp [r2.1],λi u' x' hu hx=>?_⟩,λy' hy c hc=>?_⟩
   ·cases i with
    |zero=>cases hu;cases hx;exact s2.keep.repA r1
    |succ i=>exact r2.2 i u' x' (by simpa using hu) (by simpa using hx)
   ·rcases zamT.1 hy with rfl|hy
    ·exact p1 c hc
    ·exact p2 y' hy c hc
theorem yA {x a':AV} {d n d2 n2:Nat} {B R:Blk} (h:iV st x=some (a',(d,n,B),d2,n2,R)):∃g sz ty cells l g2 m2 sz2 ty2 rows,x= .c (.ptr d n g 0 0)/\st.get d n=some ⟨g,sz,ty,.box cells⟩/\fP d n g cells=some (l,d2,n2,g2,m2)/\
  st.get d2 n2=some ⟨g2,sz2,ty2,.row rows⟩/\a'= .c (.ptr 0 0 0 0 0)/\B=⟨0,sz,ty,.box l⟩/\R=⟨1,sz2,ty2,.row rows⟩:=by
 unfold iV at h;split at h
 ·split at h
  ·rename_i d0 n0 g0 gB sz ty cells hB;obtain ⟨⟨l,d3,n3,g2,m2⟩,hg,h1⟩:=zK.1 h;simp only at h1;split at h1
   ·rename_i gR sz2 ty2 rows hR;split at h1
    ·rename_i hgg;obtain ⟨rfl,rfl⟩:=hgg;cases h1;exact ⟨_,_,_,_,_,_,_,_,_,_,rfl,hB,hg,hR,rfl,rfl,rfl⟩
    ·cases h1
   ·cases h1
  ·cases h
 ·cases h
theorem pE {q q2:Nat×Nat×Blk} {r:Res} {v:AV} (h:kU st q q2 r=some (v,st')):∃fr' sz ty cells g1 sz2 ty2 rows B0 R0 l,r.up= [fr']/\zE 0 fr'=some ⟨0,sz,ty,.box cells⟩/\zE 1 fr'=some ⟨g1,sz2,ty2,.row rows⟩/\st.get q.1 q.2.1=some B0/\st.get q2.1 q2.2.1=some R0/\
  sz=B0.sz/\ty=B0.ty/\r.rows= []/\(∀c∈r.v.cvs,isP c=true)/\mG q.1 q.2.1 B0.g q2.1 q2.2.1 (R0.g+1) g1 cells=some l/\v=r.v/\st'=(st.set q2.1 q2.2.1 ⟨R0.g+1,sz2,ty2,.row rows⟩).set q.1 q.2.1 {B0 with k:= .box l}:=by
 unfold kU at h;split at h
 ·rename_i fr' hup;split at h
  ·rename_i sz ty cells g1 sz2 ty2 rows B0 R0 h0 h1 hG0 hG1;split at h
   ·rename_i hc;obtain ⟨c1,c2,c3,c4⟩:=hc;obtain ⟨l,hl,h2⟩:=zD.1 h;simp only [zamL] at h2;exact ⟨_,_,_,_,_,_,_,_,_,_,_,hup,h0,h1,hG0,hG1,c1,c2,by simpa using c3,λc hc=>zamK.1 c4 c hc,hl,h2.1.symm,h2.2.symm⟩
   ·cases h
  ·cases h
 ·cases h
theorem A5 {run:zo} (hS:eM G P run) (hr:Rel F N0 T pl st a w) {f:FuncId} {args:List AV} {vals:List Value} {v:AV} (ha:cA F (st.fr::st.up) pl w vals args) (h:callN run st f args=some (v,st')):
  Goes P f vals.toArray w λu w'=>Post F N0 pl st w v st' u w':=by
 cases args with
 |nil=>cases h
 |cons a0 rest=>
 cases vals with
 |nil=>have:=ha.1;simp at this
 |cons v0 vrest=>
 simp only [callN] at h;obtain ⟨⟨rest',st1⟩,hfr,hxA⟩:=zK.1 h
 clear h
 obtain ⟨⟨a',⟨d,n,B⟩,d2,n2,R⟩,hln,hxB⟩:=zK.1 hxA
 clear hxA
 obtain ⟨res,hrun,hxC⟩:=zK.1 hxB
 clear hxB
 obtain ⟨pl1,s1,ra,rp⟩:=lD hr.mem hr.low hfr (us:=vrest) ⟨by simpa using ha.1,λi u x hu hx=>ha.2 (i+1) u x (by simpa using hu) (by simpa using hx)⟩;have rhead:=s1.keep.repA (ha.2 0 v0 a0 rfl rfl);have hm1:=s1.mem;have hN:=hr.low;obtain ⟨g,sz,ty,cells,l,g2,m2,sz2,ty2,rows,rfl,hB,hgr,hR,rfl,rfl,rfl⟩:=yA hln;obtain ⟨i0,hi1,hi2,hil,hio⟩:=nA hgr;have hB:zA d n (st1.fr::st1.up)=some ⟨g,sz,ty,.box cells⟩:=hB;have hR:zA d2 n2 (st1.fr::st1.up)=some ⟨g2,sz2,ty2,.row rows⟩:=hR;have hne:¬(d=d2/\n=n2):=λe=>by
  obtain ⟨rfl,rfl⟩:=e;rw [hB] at hR;cases hR
 let pB:Pl:=λd' n'=>if d'=0/\n'=0 then pl1 d n else if d'=0/\n'=1 then pl1 d2 n2 else nop
 let F':Nat->Prop:=λk=>Own F pl1 k/\(∀j s,pl1 d n j≠some (k,s))/\∀j s,pl1 d2 n2 j≠some (k,s)
 have p0:pB 0 0=pl1 d n:=by simp [pB]
 have p1:pB 0 1=pl1 d2 n2:=by simp [pB]
 have px:∀{d' n' j x},pB d' n' j=some x->d'=0/\((n'=0/\pl1 d n j=some x)\/(n'=1/\pl1 d2 n2 j=some x)):=fun {d' n' j x} h=>by
  simp only [pB] at h;split at h
  ·rename_i e;exact ⟨e.1,.inl ⟨e.2,h⟩⟩
  ·split at h
   ·rename_i e;exact ⟨e.1,.inr ⟨e.2,h⟩⟩
   ·cases h
 have pw:∀{d' n' j x},pB d' n' j=some x->∃d0 n0,pl1 d0 n0 j=some x:=fun {d' n' j x} h=>by
  rcases (px h).2 with ⟨_,h⟩|⟨_,h⟩
  ·exact ⟨_,_,h⟩
  ·exact ⟨_,_,h⟩
 have own1:∀k,Own F' pB k->Own F pl1 k:=λk h=>by
  rcases h with h|⟨d',n',j,s,h⟩
  ·exact h.1
  ·obtain ⟨d0,n0,h0⟩:=pw h;exact .inr ⟨d0,n0,j,s,h0⟩
 have hP1:∀{u x},RepP (Own F pl1) w u x->RepP (Own F' pB) w u x:=fun {u x} h=>h.step (λ_ _ _=>rfl) (zH _) λk hk=> .inl (own1 k hk)
 have hbox:=hm1.blk d n _ hB;have hrow:=hm1.blk d2 n2 _ hR;obtain ⟨bb,ub,g1,g2',g3,g4⟩:=hbox;simp only at g1 g2' g3 g4;have look0:∀n' Bx,zA 0 n' ([[(0,⟨0,sz,ty,.box l⟩),(1,⟨1,sz2,ty2,.row rows⟩)]]:List Go.Eng.Frame)=some Bx->(n'=0/\Bx=⟨0,sz,ty,.box l⟩)\/(n'=1/\Bx=⟨1,sz2,ty2,.row rows⟩):=λn' Bx h=>by
  simp only [zA,zanD,if_true,zE] at h;split at h
  ·rename_i e;cases h;exact .inl ⟨e.symm,rfl⟩
  ·split at h
   ·rename_i e;cases h;exact .inr ⟨e.symm,rfl⟩
   ·cases h
 have hU1:zA 0 1 ([[(0,⟨0,sz,ty,.box l⟩),(1,⟨1,sz2,ty2,.row rows⟩)]]:List Go.Eng.Frame)=some ⟨1,sz2,ty2,.row rows⟩:=by simp [zA,zE]
 have hm2:MemOK F' N0 [[(0,⟨0,sz,ty,.box l⟩),(1,⟨1,sz2,ty2,.row rows⟩)]] pB w:=by
  refine ⟨λd' n' j k s h=>?_,λe1 m1 j1 e2 m2 j2 k s s' h1 h2=>?_,λd' n' Bx hBx=>?_,λk hk=>?_,hm1.fix⟩
  ·obtain ⟨rfl,h3⟩:=px h;rcases h3 with ⟨rfl,h3⟩|⟨rfl,h3⟩
   ·obtain ⟨q1,q2,_,_⟩:=hm1.live d n j k s h3;exact ⟨q1,q2,λhk=>hk.2.1 j s h3,⟨0,sz,ty,.box l⟩,by simp [zA,zE]⟩
   ·obtain ⟨q1,q2,_,_⟩:=hm1.live d2 n2 j k s h3;exact ⟨q1,q2,λhk=>hk.2.2 j s h3,_,hU1⟩
  ·obtain ⟨rfl,h3⟩:=px h1;obtain ⟨rfl,h4⟩:=px h2;refine ⟨rfl,?_⟩;rcases h3 with ⟨rfl,h3⟩|⟨rfl,h3⟩<;>rcases h4 with ⟨rfl,h4⟩|⟨rfl,h4⟩
   ·exact ⟨rfl,(hm1.inj _ _ _ _ _ _ k s s' h3 h4).2.2⟩
   ·have e9:=hm1.inj _ _ _ _ _ _ k s s' h3 h4;exact absurd ⟨e9.1,e9.2.1⟩ hne
   ·have e9:=hm1.inj _ _ _ _ _ _ k s' s h4 h3;exact absurd ⟨e9.1,e9.2.1⟩ hne
   ·exact ⟨rfl,(hm1.inj _ _ _ _ _ _ k s s' h3 h4).2.2⟩
  ·have hlt:=zO hBx;have hd:d'=0:=by simp at hlt;exact hlt
   subst hd;rcases look0 n' Bx hBx with ⟨rfl,rfl⟩|⟨rfl,rfl⟩
   ·refine ⟨bb,ub,by rw [hil];exact p0.trans g1,g2',⟨by rw [hil];exact g3.1,λj u c hu hc=>?_⟩,λc hc=>?_⟩
    ·by_cases hj:j=i0
     ·subst hj;rw [hi2] at hc;cases hc;obtain ⟨⟨q1,Bq,q2,q3,q4⟩,q5⟩:=g3.2 j u _ hu hi1;rw [hR] at q2;cases q2;refine ⟨⟨q1,_,hU1,zH _,λ_=>?_⟩,.inr q1⟩;rw [p1];exact q4 rfl
     ·rcases hio j hj with ⟨q1,q2⟩|⟨q1,q2⟩
      ·rw [q1] at hc;have q3:=q2 c hc;obtain ⟨q4,q5⟩:=g3.2 j u c hu hc;cases c with
       |p x=>exact ⟨hP1 q4,q5⟩
       |_=>simp [isP] at q3
      ·rw [q2] at hc;cases hc;obtain ⟨⟨z1,Bq,z2,z3,z4⟩,z5⟩:=g3.2 j u _ hu q1;rw [hB] at z2;cases z2;refine ⟨⟨z1,⟨0,sz,ty,.box l⟩,by simp [zA,zE],zH _,λ_=>?_⟩,.inr z1⟩;rw [p0];exact z4 rfl
    ·obtain ⟨j,hj,rfl⟩:=List.getElem_of_mem hc;have hj2:=zh hj;by_cases e:j=i0
     ·subst e;rw [hi2] at hj2;rw [<-Option.some.inj hj2];simp [CV.dep]
     ·rcases hio j e with ⟨q1,q2⟩|⟨q1,q2⟩
      ·rw [q1] at hj2;have q3:=q2 _ hj2;cases hc2:l[j] with
       |p x=>rfl
       |_=>rw [hc2] at q3;simp [isP] at q3
      ·rw [q2] at hj2;rw [<-Option.some.inj hj2];simp [CV.dep]
   ·rcases hrow with ⟨q1,q2⟩|⟨b,s,us,q1,q2,q3,q4,q5,q6⟩
    ·exact .inl ⟨q1,p1.trans q2⟩
    ·exact .inr ⟨b,s,us,p1.trans q1,q2,q3,q4,q5,λj e o x he hx=>by
      obtain ⟨v,hv,hrr⟩:=q6 j e o x he hx;exact ⟨v,hv,hP1 hrr⟩⟩
  ·rcases hk.1 with h|⟨d',n',j,s,h⟩
   ·exact hm1.fsz k h
   ·exact (hm1.live d' n' j k s h).2.1
 have hargs:cA F' [[(0,⟨0,sz,ty,.box l⟩),(1,⟨1,sz2,ty2,.row rows⟩)]] pB w (v0::vrest) (.c (.ptr 0 0 0 0 0)::rest'):=by
  refine ⟨by simp [ra.1],λi u x hu hx=>?_⟩;cases i with
  |zero=>
   cases hu;cases hx;obtain ⟨q1,Bq,q2,q3,q4⟩:=rhead;rw [hB] at q2;cases q2;refine ⟨q1,⟨0,sz,ty,.box l⟩,by simp [zA,zE],zH _,λ_=>?_⟩;obtain ⟨b,s,q5,q6⟩:=q4 rfl;exact ⟨b,s,by rw [p0];exact q5,by simpa using q6⟩
  |succ i=>
   have hx:rest'[i]?=some x:=by simpa using hx
   exact jE (rp x (aC hx)) (λh=>hP1 h) (ra.2 i u x (by simpa using hu) hx)
 refine (hS f _ _ res hrun F' N0 pB w _ hm2 hN hargs).mono λu w' hret=>?_
 obtain ⟨⟨pl',r1,r2,r3⟩,r4,r5⟩:=hret;obtain ⟨fr',szC,tyC,cellsC,gC,szD,tyD,rowsD,B0,R0,lc,hup,hL0,hL1,hG0,hG1,c1,c2,hrows,c4,hbk,rfl,rfl⟩:=pE hxC
 clear hxC
 have hG0:zA d n (st1.fr::st1.up)=some B0:=hG0;have hG1:zA d2 n2 (st1.fr::st1.up)=some R0:=hG1;rw [hB] at hG0;cases hG0;rw [hR] at hG1;cases hG1;simp only at c1 c2 hbk;subst c1;subst c2;rw [hup] at r1 r2 r3;rw [hrows] at r1 r2;obtain ⟨k1,k2⟩:=jF hbk;have hD:d<(st1.fr::st1.up).length:=zO hB;have hD2:d2<(st1.fr::st1.up).length:=zO hR;have top:∀n',zA 0 n' (zq [] 0:: [fr'])=zE n' fr':=λn'=>by simp [zA,zq]
 have q4E:Ext (pl1 d n) (pl' 0 0):=by
  obtain ⟨b',e1,e2⟩:=r3.later.blk 0 0 ⟨0,szC,tyC,.box l⟩ (by simp [zA,zE]);have e3:zA 0 0 [fr']=zE 0 fr':=by simp [zA]
  rw [e3,hL0] at e1;cases e1;rw [<-p0];exact (e2 rfl).2.1
 have q4:pl' 0 0=pl1 d n:=by
  obtain ⟨b,us,y1,_,_,_⟩:=r2.blk 0 0 _ ((top 0).trans hL0);exact qT q4E g1 y1
 let pl2:Pl:=aX pl1 d2 n2 (pl' 0 1)
 have t2:pl2 d2 n2=pl' 0 1:=zJ ..;have t0:∀d' n',¬(d'=d2/\n'=n2)->pl2 d' n'=pl1 d' n':=λd' n' e=>aQ pl1 _ e
 have tb:pl2 d n=pl' 0 0:=(t0 d n hne).trans q4.symm;have out:∀{d' n' j k s},pl1 d' n' j=some (k,s)->¬(d'=d/\n'=n)->¬(d'=d2/\n'=n2)->F' k:=fun {d' n' j k s} h e1 e2=>
  ⟨.inr ⟨d',n',j,s,h⟩,λj' s' h'=>e1 (by have e9:=hm1.inj _ _ _ _ _ _ k s s' h h';exact ⟨e9.1,e9.2.1⟩),λj' s' h'=>e2 (by have e9:=hm1.inj _ _ _ _ _ _ k s s' h h';exact ⟨e9.1,e9.2.1⟩)⟩
 have outF:∀{k},F k->F' k:=fun {k} h=>⟨.inl h,λj s h'=>(hm1.live d n j k s h').2.2.1 h,λj s h'=>(hm1.live d2 n2 j k s h').2.2.1 h⟩
 have own3:∀k,Own F pl2 k->Own F' pl' k:=λk h=>by
  rcases h with h|⟨d',n',j,s,h⟩
  ·exact .inl (outF h)
  ·by_cases e2:d'=d2/\n'=n2
   ·obtain ⟨rfl,rfl⟩:=e2;rw [t2] at h;exact .inr ⟨0,1,j,s,h⟩
   ·by_cases e1:d'=d/\n'=n
    ·obtain ⟨rfl,rfl⟩:=e1;rw [tb] at h;exact .inr ⟨0,0,j,s,h⟩
    ·rw [t0 d' n' e2] at h;exact .inl (out h e1 e2)
 have hP2:∀{u x},RepP (Own F' pl') w' u x->RepP (Own F pl2) w' u x:=fun {u x} h=>h.step (λ_ _ _=>rfl) (zH _) λk hk=> .inl (own3 k hk)
 have hlive:∀{d' n' j k s},pl' d' n' j=some (k,s)->N0.n<=k/\k<w'.heap.size/\¬F' k:=fun {d' n' j k s} h=>by
  obtain ⟨e1,e2,e3,_⟩:=r2.live d' n' j k s h;exact ⟨e1,e2,e3⟩
 have hstep:Step pl1 w w':=⟨r3.step.os,r3.step.tape,r3.step.output,r3.step.size,λk hk hn=>r3.step.block k hk λd' n' j s h=>by
  obtain ⟨d0,n0,h0⟩:=pw h;exact hn d0 n0 j s h0⟩
 let R2:Blk:=⟨g2+1,szD,tyD,.row rowsD⟩
 let B2:Blk:=⟨g,szC,tyC,.box lc⟩
 have hgetS:∀d' n',zA d' n' (((st1.set d2 n2 R2).set d n B2).fr::((st1.set d2 n2 R2).set d n B2).up)=if d'=d/\n'=n then some B2 else if d'=d2/\n'=n2 then some R2 else zA d' n' (st1.fr::st1.up):=λd' n'=>by
  rw [cS (by simpa [fI] using hD),cS hD2]
 have hlenS:(((st1.set d2 n2 R2).set d n B2).fr::((st1.set d2 n2 R2).set d n B2).up).length=(st1.fr::st1.up).length:=by simp [fI]
 have hK:Keep F (st1.fr::st1.up) (((st1.set d2 n2 R2).set d n B2).fr::((st1.set d2 n2 R2).set d n B2).up) pl1 pl2 w w':=by
  refine ⟨hstep,hlenS,λd' n' b hb=>?_,λd' n' j b s h=>?_⟩
  ·rw [hgetS];by_cases e1:d'=d/\n'=n
   ·obtain ⟨rfl,rfl⟩:=e1;rw [hB] at hb;cases hb;exact ⟨B2,by rw [if_pos ⟨rfl,rfl⟩],zH _,λ_=>⟨Ext.of (t0 _ _ hne),rfl⟩⟩
   ·rw [if_neg e1];by_cases e2:d'=d2/\n'=n2
    ·obtain ⟨rfl,rfl⟩:=e2;rw [hR] at hb;cases hb;exact ⟨R2,by rw [if_pos ⟨rfl,rfl⟩],Nat.le_succ _,λe=>absurd e (Nat.succ_ne_self _)⟩
    ·exact ⟨b,by rw [if_neg e2];exact hb,zH _,λ_=>⟨Ext.of (t0 _ _ e2),rfl⟩⟩
  ·by_cases e2:d'=d2/\n'=n2
   ·obtain ⟨rfl,rfl⟩:=e2;rw [t2] at h;rcases r3.later.new 0 1 j b s h with ⟨d0,n0,j0,s0,h0⟩|h0
    ·obtain ⟨d3,n3,h3⟩:=pw h0;exact .inl ⟨d3,n3,j0,s0,h3⟩
    ·exact .inr h0
   ·rw [t0 _ _ e2] at h;exact .inl ⟨d',n',j,s,h⟩
 refine ⟨⟨pl2,?_,⟨λd' n' j k s h=>?_,λe1 m1 j1 e2 m2 j2 k s s' h1 h2=>?_,λd' n' Bx hBx=>?_,λk hk=>dV (hm1.fsz k hk) hstep.size,cU hm1 hstep.block⟩,s1.keep.trans hK⟩,by rw [aY,aY];exact s1.t⟩
 ·have e:∀m,res.v.map (dL m)=res.v:=λm=>gT (λx=>rfl) c4
  rw [e] at r1;exact jE c4 (λh=>hP2 h) r1
 ·rw [hgetS];by_cases e2:d'=d2/\n'=n2
  ·obtain ⟨rfl,rfl⟩:=e2;rw [t2] at h;obtain ⟨x1,x2,x3⟩:=hlive h;refine ⟨x1,x2,λhF=>x3 (outF hF),R2,?_⟩;rw [if_neg (λe=>hne ⟨e.1.symm,e.2.symm⟩),if_pos ⟨rfl,rfl⟩]
  ·rw [t0 _ _ e2] at h;obtain ⟨x1,x2,x3,Bq,x4⟩:=hm1.live d' n' j k s h;refine ⟨x1,dV x2 hstep.size,x3,?_⟩;by_cases e1:d'=d/\n'=n
   ·exact ⟨B2,by rw [if_pos e1]⟩
   ·exact ⟨Bq,by rw [if_neg e1,if_neg e2];exact x4⟩
 ·have mix:∀{d' n' j j' k s s'},pl' 0 1 j=some (k,s)->pl1 d' n' j'=some (k,s')->¬(d'=d2/\n'=n2)->False:=fun {d' n' j j' k s s'} h1 h2 e2=>by
   by_cases e1:d'=d/\n'=n
   ·obtain ⟨rfl,rfl⟩:=e1;rw [<-q4] at h2;have:=(r2.inj _ _ _ _ _ _ k s s' h1 h2).2.1;omega
   ·exact (hlive h1).2.2 (out h2 e1 e2)
  by_cases x1:e1=d2/\m1=n2<;>by_cases x2:e2=d2/\m2=n2
  ·obtain ⟨rfl,rfl⟩:=x1;obtain ⟨rfl,rfl⟩:=x2;rw [t2] at h1 h2;exact ⟨rfl,rfl,(r2.inj _ _ _ _ _ _ k s s' h1 h2).2.2⟩
  ·obtain ⟨rfl,rfl⟩:=x1;rw [t2] at h1;rw [t0 _ _ x2] at h2;exact (mix h1 h2 x2).elim
  ·obtain ⟨rfl,rfl⟩:=x2;rw [t2] at h2;rw [t0 _ _ x1] at h1;exact (mix h2 h1 x1).elim
  ·rw [t0 _ _ x1] at h1;rw [t0 _ _ x2] at h2;exact hm1.inj _ _ _ _ _ _ k s s' h1 h2
 ·rw [hgetS] at hBx;by_cases e1:d'=d/\n'=n
  ·rw [if_pos e1] at hBx;obtain ⟨rfl,rfl⟩:=e1;cases hBx;have hb:=r2.blk 0 0 _ ((top 0).trans hL0);obtain ⟨b,us,y1,y2,y3,y4⟩:=hb;simp only at y1 y2 y3 y4;have hdep2:d2<=d':=by
    have:=g4 _ (aC hi1);simpa [CV.dep] using this
   refine ⟨b,us,by rw [tb,y1,k1],y2,⟨by rw [k1];exact y3.1,λj u c hu hc=>?_⟩,λc hc=>?_⟩
   ·have hj:j<cellsC.length:=by rw [<-k1];exact (zamJ.1 hc).1
    rcases k2 j _ (zh hj) with ⟨x,e1,e2⟩|⟨m,e1,e2⟩|⟨e1,e2⟩
    ·rw [e2] at hc;cases hc;have e3:cellsC[j]?=some (.p x):=by rw [zh hj,e1]
     obtain ⟨z1,z2⟩:=y3.2 j u _ hu e3;exact ⟨hP2 z1,.inr (RepP.one (show RepP _ w' u x from z1)).1⟩
    ·rw [e2] at hc;cases hc;have e3:cellsC[j]?=some (.own 0 1 gC m):=by rw [zh hj,e1]
     obtain ⟨⟨z1,Bq,z2,z3,z4⟩,z5⟩:=y3.2 j u _ hu e3;rw [top,hL1] at z2;cases z2;refine ⟨⟨z1,R2,by rw [hgetS,if_neg (λe=>hne ⟨e.1.symm,e.2.symm⟩),if_pos ⟨rfl,rfl⟩],zH _,λ_=>?_⟩,.inr z1⟩;rw [t2];exact z4 rfl
    ·rw [e2] at hc;cases hc;have e3:cellsC[j]?=some (.ptr 0 0 0 0 KO):=by rw [zh hj,e1]
     obtain ⟨⟨z1,Bq,z2,z3,z4⟩,z5⟩:=y3.2 j u _ hu e3;rw [top,hL0] at z2;cases z2;refine ⟨⟨z1,B2,by rw [hgetS,if_pos ⟨rfl,rfl⟩],zH _,λ_=>?_⟩,.inr z1⟩;rw [tb];exact z4 rfl
   ·obtain ⟨j,hj,rfl⟩:=List.getElem_of_mem hc;have hj2:=zh hj;rcases k2 j _ (zh (by rw [<-k1];exact hj)) with ⟨x,e1,e2⟩|⟨m,e1,e2⟩|⟨e1,e2⟩
    ·rw [hj2] at e2;rw [Option.some.inj e2];rfl
    ·rw [hj2] at e2;rw [Option.some.inj e2];simpa [CV.dep] using hdep2
    ·rw [hj2] at e2;rw [Option.some.inj e2];simp [CV.dep]
  ·rw [if_neg e1] at hBx;by_cases e2:d'=d2/\n'=n2
   ·rw [if_pos e2] at hBx;obtain ⟨rfl,rfl⟩:=e2;cases hBx;have hb:=r2.blk 0 1 _ ((top 1).trans hL1);rcases hb with ⟨x1,x2⟩|⟨b,s,us,x1,x2,x3,x4,x5,x6⟩
    ·exact .inl ⟨x1,t2.trans x2⟩
    ·exact .inr ⟨b,s,us,t2.trans x1,x2,x3,x4,x5,λj e o x he hx=>by
      obtain ⟨v,hv,hrr⟩:=x6 j e o x he hx;exact ⟨v,hv,hP2 hrr⟩⟩
   ·rw [if_neg e2] at hBx;refine bZ hK (t0 _ _ e2) (λj b s h=>r3.step.block b (hm1.live d' n' j b s h).2.1 λd3 n3 j3 s3 h3=>?_) (hm1.blk d' n' Bx hBx);rcases (px h3).2 with ⟨_,h4⟩|⟨_,h4⟩
    ·have e9:=hm1.inj _ _ _ _ _ _ b s s3 h h4;exact e1 ⟨e9.1,e9.2.1⟩
    ·have e9:=hm1.inj _ _ _ _ _ _ b s s3 h h4;exact e2 ⟨e9.1,e9.2.1⟩
theorem yB {x:AV} {r args':List AV} {d n:Nat} {q:Option (Nat×Nat)} {B:Blk} {ad:Addr} (hr:Rel F N0 T pl st a w) (h:dX st (x::r)=some (args',d,n,q,B)) (hv:zf F (st.fr::st.up) pl w (.pointer (some ad)) x):∀j b s,pl d n j=some (b,s)->b=ad.block:=by
 simp only [dX] at h;split at h
 ·rename_i a' q' hb;obtain ⟨r',_,h2⟩:=zD.1 h;cases h2;unfold eT at hb;split at hb
  ·split at hb
   ·split at hb
    ·rename_i g' sz ty rows hB hc;cases hb;obtain ⟨_,B1,h2,h3,h4⟩:=hv;have h2:some B1=some _:=h2.symm.trans hB;cases h2;rcases h4 hc.1 with ⟨e,_⟩|⟨b,s,cap,_,e,_⟩<;>cases e
    ·cases hb
   ·split at hb
    ·rename_i g' sz ty cols rows hB hc;cases hb;obtain ⟨_,B1,h2,h3,h4⟩:=hv;have h2:some B1=some _:=h2.symm.trans hB;cases h2;rcases h4 hc.1 with ⟨e,_⟩|⟨b,s,cap,_,e,_⟩<;>cases e
    ·cases hb
   ·cases hb
  ·obtain ⟨q2,hq,hb⟩:=zD.1 hb;cases hb;obtain ⟨sz,ty,cols,rows,e,hB,_⟩:=gS hq;obtain ⟨_,B1,h2,h3,h4⟩:=hv;have h2:some B1=some _:=h2.symm.trans hB;cases h2;rcases h4 rfl with ⟨e,_⟩|⟨b,s,cap,_,e,_⟩<;>cases e
  ·split at hb
   ·split at hb
    ·rename_i g' sz ty cells hB hc;cases hb;obtain ⟨_,B1,h2,h3,h4⟩:=hv;have h2:some B1=some _:=h2.symm.trans hB;cases h2;obtain ⟨b,s,hp,⟨_,e⟩|⟨e,_⟩⟩:=h4 hc.1
     ·cases e;obtain ⟨b2,us,g1,_,_,_⟩:=hr.mem.blk d n _ hB;intro j b3 s3 h5;rw [(eB hp g1).1.symm.symm] at g1;rw [g1] at h5;cases (aW h5).2;rfl
     ·exact absurd e (by decide)
    ·cases hb
   ·cases hb
  ·cases hb
 ·simp only [zK] at h;obtain ⟨y,h1,_⟩:=h;exfalso;unfold jV at h1;split at h1
  ·split at h1
   ·cases h1
   ·rename_i hq;cases hv;exact absurd rfl hq
  ·obtain ⟨us,e,_⟩:=hv;cases e
  ·cases h1
theorem CU {run:zo} (hS:eM G P run) {o:Oper} {c:Call} {f:Operand} {g:KX} {ks:List KX} {borrow:Bool} {dst:Nat} {v:AV} (ho:o.op= .call c) (hc:c.callee= .value f) (hf:kx f=some g) (hx:c.args.toList.mapM kx=some ks) (hr:Rel F N0 T pl st a w)
  (h:zB run st dst (.call borrow g ks)=some (v,st')):Runs1 P o a w (λu w'=>Post F N0 pl st w v st' u w'/\(borrow=true->Grow w w')/\(borrow=false->∀m r,ks= .t m::r->KeepB (λb=>∃ad:Addr,a.tmps.getD m undef= .pointer (some ad)/\b≠ad.block) w w')):=by
 simp only [zB] at h;split at h
 ·rename_i fid caps hg;have e1:=zG hr hf;rw [hg] at e1;obtain ⟨vals,e1,hvl,hvc⟩:=e1;obtain ⟨hl,hk⟩:=bY hx;have hargs:cA F (st.fr::st.up) pl w (c.args.toList.map a.eval++vals) (ks.map st.eval++caps.map Cap.av):=by
   refine ⟨by simp [hl,hvl],λi u x hu hx'=>?_⟩;rw [List.getElem?_append] at hu hx';simp only [zamV] at hu hx';rw [hl] at hx';split at hu
   ·rename_i hi;rw [if_pos hi] at hx';simp only [zamS,zD] at hu hx';obtain ⟨p,hp,rfl⟩:=hu;obtain ⟨q,hq,rfl⟩:=hx';exact zG hr (hk i p q hp hq)
   ·rename_i hi;rw [if_neg hi] at hx';simp only [zamS,zD] at hx';obtain ⟨q,hq,rfl⟩:=hx';exact A0 (hvc _ _ _ hu hq)
  have harr:c.args.map a.eval++vals.toArray=(c.args.toList.map a.eval++vals).toArray:=by
   apply Array.toList_inj.1;simp
  refine wV (R:=λu w'=>Post F N0 pl st w v st' u w'/\(borrow=true->Grow w w')/\(borrow=false->∀m r,ks= .t m::r->KeepB (λb=>∃ad:Addr,a.tmps.getD m undef= .pointer (some ad)/\b≠ad.block) w w')) ho hc e1 ?_;rw [harr];unfold dY at h;split at h
  ·rename_i hbt;obtain ⟨⟨args',lent⟩,h1,h⟩:=zK.1 h;obtain ⟨r,h2,h⟩:=zK.1 h;split at h
   ·rename_i hcond;obtain ⟨hcond,_⟩:=hcond;simp only [zS,zamL] at h;obtain ⟨rfl,rfl⟩:=h
    let F':Nat->Prop:=λk=>lent=false/\Own F pl k
    have hl1:=oZ (F':=F') hr.mem (λk hk=>hk.2) h1 (λe k hk=>by have:=hk.1;rw [e] at this;cases this) hargs;have hm0:MemOK F' (⟨w.heap.size⟩:Base G) [] cE w:=⟨λd n j b s h=>(by cases h),λd n j d' n' j' b s s' h=>(by cases h),λd n B h=>(by cases h),λk hk=>by
     rcases hk.2 with h|⟨d,n,j,s,h⟩
     ·exact hr.mem.fsz k h
     ·exact (hr.mem.live d n j k s h).2.1,λk o h=>⟨(zamX.1 (hr.mem.fix k o h).2).1,(hr.mem.fix k o h).2⟩⟩
    refine (hS fid args' [] r h2 F' ⟨w.heap.size⟩ cE w _ hm0 (zH _) hl1).mono λu w' hret=>?_
    obtain ⟨⟨pl1,r1,r2,r3⟩,r4,r5⟩:=hret;have hup:r.up= []:=bR r3.later.len;rw [hup] at r1 r2 r3;have hF1:(∀k,Own F pl k->F' k)\/∀B∈r.rows,vZ B=true:=by
     rcases hcond with h|h
     ·exact .inl λk hk=>⟨h,hk⟩
     ·simp only [cI,zL] at h;exact .inr λB hB=>zamK.1 h.2 B hB
    have hF2:(∀k,Own F pl k->F' k)\/∀c∈r.v.cvs,AI c=true:=by
     rcases hcond with h|h
     ·exact .inl λk hk=>⟨h,hk⟩
     ·simp only [cI,zL] at h;exact .inr λc hc=>zamK.1 h.1 c hc
    obtain ⟨pl2,p1,p2,p3⟩:=CS hr.mem hr.low r2 r3 r5 hF1;obtain ⟨pl3,q1,q2,q3⟩:=Ax (n:=dst) p1 r5;exact ⟨⟨⟨pl3,q3 r4 (p3 r4 hF2 r1),q1,p2.trans q2⟩,rfl⟩,λ_=>⟨r3.step.size,λk hk=>r3.step.block k hk (λ_ _ _ _ h=>by cases h)⟩,λe=>by rw [e] at hbt;cases hbt⟩
   ·cases h
  ·rename_i hb;refine (A4 hS hr hargs h).mono λu w' hp=>⟨hp.1,λe=>absurd e hb,λ_ m r e=>?_⟩
   subst e;obtain ⟨⟨args',d,n,q,B⟩,h1,_⟩:=zK.1 h;refine (hp.2 _ _ _ _ _ h1).sub λb hb' j s hs=>?_
   obtain ⟨ad,e,hne⟩:=hb';have h3:=zG (x:= .tmp m) hr rfl;simp only [Act.eval] at h3;rw [e] at h3;exact hne (yB hr h1 h3 j b s hs)
 ·cases h
theorem A6 {run:zo} (hS:eM G P run) {o:Oper} {c:Call} {f:Operand} {g:KX} {ks:List KX} {dst:Nat} {v:AV} (ho:o.op= .call c) (hc:c.callee= .value f) (hf:kx f=some g) (hx:c.args.toList.mapM kx=some ks) (hr:Rel F N0 T pl st a w)
  (h:zB run st dst (.callN g ks)=some (v,st')):Runs1 P o a w (Post F N0 pl st w v st'):=by
 simp only [zB] at h;split at h
 ·rename_i fid caps hg;have e1:=zG hr hf;rw [hg] at e1;obtain ⟨vals,e1,hvl,hvc⟩:=e1;obtain ⟨hl,hk⟩:=bY hx;have hargs:cA F (st.fr::st.up) pl w (c.args.toList.map a.eval++vals) (ks.map st.eval++caps.map Cap.av):=by
   refine ⟨by simp [hl,hvl],λi u x hu hx'=>?_⟩;rw [List.getElem?_append] at hu hx';simp only [zamV] at hu hx';rw [hl] at hx';split at hu
   ·rename_i hi;rw [if_pos hi] at hx';simp only [zamS,zD] at hu hx';obtain ⟨p,hp,rfl⟩:=hu;obtain ⟨q,hq,rfl⟩:=hx';exact zG hr (hk i p q hp hq)
   ·rename_i hi;rw [if_neg hi] at hx';simp only [zamS,zD] at hx';obtain ⟨q,hq,rfl⟩:=hx';exact A0 (hvc _ _ _ hu hq)
  have harr:c.args.map a.eval++vals.toArray=(c.args.toList.map a.eval++vals).toArray:=by
   apply Array.toList_inj.1;simp
  refine wV ho hc e1 ?_;rw [harr];exact A5 hS hr hargs h
 ·cases h
end
section
variable {P:Program} {F F':Nat->Prop} {G:Nat->Option Obj} {N0:Base G} {T:Nat} {pl pl' pl1:Pl} {st st':St} {a:Act} {w w':World} {fs fs':List Frame} {f':Frame} {up:List Frame}
theorem wX {d n g:Nat} (h:(st.get d n).map (·.g)=some g):∃B,st.get d n=some B/\B.g=g:=by
 obtain ⟨B,h1,h2⟩:=zD.1 h;exact ⟨B,h1,h2⟩
theorem uW {e:TypeId} {i:TypeInfo} {z:Value} (hi:P.info? e=some i) (hz:i.zero=some z):(Instr.alloc e true (.tuple #[])).run P w= .ok (.pointer (some ⟨w.heap.size,0,none⟩)) {w with heap:=w.heap.push (.cells z.cells e)}:=by
 simp [Instr.alloc,zeroValue,typeInfo,hi,hz,newVar,newRow]
theorem sN {e:TypeId} {v:Value}:(Instr.box e v).run P w= .ok (.pointer (some ⟨w.heap.size,0,none⟩)) {w with heap:=w.heap.push (.cells v.cells e)}:=by
 simp [Instr.box,newVar,newRow]
theorem qU {e:TypeId} {x:KX} {k:KOp} (h:lU P e x=some k):∃col t sz2,k= .boxN e (P.cellsOf e) x col t sz2:=by
 unfold lU at h;split at h
 ·simp only [zK] at h;obtain ⟨z,hz,col,hcol,f,hf,h⟩:=h;split at h
  ·cases h;exact ⟨col,_,_,rfl⟩
  ·cases h
 ·cases h
theorem qV {run:zo} {o:Oper} {e:TypeId} {x:Operand} {kx':KX} {k:KOp} {dst:Nat} {v:AV} (ho:o.op= .box e x) (hx:kx x=some kx') (hc:lU P e kx'=some k) (hr:Rel F N0 T pl st a w)
  (he:zB run st dst k=some (v,st')):Runs1 P o a w (rX F N0 pl st w v st'):=by
 obtain ⟨col,t,sz2,rfl⟩:=qU hc;simp only [zB] at he;split at he
 ·cases he
 rename_i hnt;split at he
 ·rename_i hcond;simp only [zS,zamL] at he;obtain ⟨rfl,rfl⟩:=he;obtain ⟨r1,k1,g1⟩:=rZ hr (dst*64+1) sz2 t;have hrep:=dD (zG hr hx) hnt (fF hcond.2.2);refine (CL (n:=dst*64) (sz:=P.cellsOf e) (v:=a.eval x) (by simp only [execOp,ho,Sem.run_bind,sN,Result.andThen_ok];rfl) r1 (sA hrep k1 hcond.2.1 g1 (zJ ..)) (Al hcond.2.2)).mono λu w' hp=>?_
  obtain ⟨⟨⟨pl',p1,p2,p3⟩,p4⟩,hg⟩:=hp;exact ⟨⟨⟨pl',p1,p2,k1.trans p3⟩,p4⟩,hg⟩
 ·cases he
theorem pF {s s':St} (h:s'.t=s.t) (k:KX):s'.eval k=s.eval k:=by
 cases k with
 |t n=>simp only [St.eval,h]
 |k v=>rfl
theorem fJ {base:Nat} {us:List Value} {fs0:List Frame} {pl0:Pl}:∀(l:List (Nat×TypeId×Nat)) (i:Nat) (cs:List CV) (st:St) (pl:Pl),Rel F N0 T pl st a w->Keep F fs0 (st.fr::st.up) pl0 pl w w->zT F (st.fr::st.up) pl w us cs->
  ∃pl1,Rel F N0 T pl1 (zZ base l i cs st).2 a w/\Keep F fs0 ((zZ base l i cs st).2.fr::(zZ base l i cs st).2.up) pl0 pl1 w w/\zT F ((zZ base l i cs st).2.fr::(zZ base l i cs st).2.up) pl1 w us (zZ base l i cs st).1/\(zZ base l i cs st).2.t=st.t
 | [],i,cs,st,pl,hr,hk,hc=>⟨pl,hr,hk,hc,rfl⟩
 |(col,ty,sz)::r,i,cs,st,pl,hr,hk,hc=>by
  unfold zZ;split
  ·rename_i hn;obtain ⟨r1,k1,g1⟩:=rZ hr (base+i) sz ty;exact fJ r (i+1) _ _ _ r1 (hk.trans k1) (sA hc k1 hn g1 (zJ ..))
  ·exact fJ r (i+1) cs st pl hr hk hc
theorem yC {o:Oper} {t:TypeId} {x y:Operand} {kx' ky:KX} {base:Nat} {cols:List (Nat×TypeId×Nat)} (ho:o.op= .store t x y) (hx:kx x=some kx') (hy:kx y=some ky) (hi:∃i,P.info? t=some i) (hr:Rel F N0 T pl st a w)
  (ht:∀vs,st.eval ky≠ .tup vs) (hl:(st.eval ky).cvs.length=P.cellsOf t) (hk:(st.eval ky).cvs.all (·.known)=true) (hw:(zZ base cols 1 (st.eval ky).cvs st).2.write (st.eval kx') (zZ base cols 1 (st.eval ky).cvs st).1=some st'):Runs1 P o a w (λu w'=>Post F N0 pl st w (.c .u) st' u w'):=by
 obtain ⟨i,hi⟩:=hi;have hc:=dD (zG hr hy) ht hk;obtain ⟨pl1,r1,k1,c1,e1⟩:=fJ (base:=base) (fs0:=st.fr::st.up) (pl0:=pl) cols 1 _ st pl hr Keep.refl hc;have hev:(zZ base cols 1 (st.eval ky).cvs st).2.eval kx'=st.eval kx':=pF e1 kx';obtain ⟨ad,w',pl',h1,h2,h3,h4,h5,h6⟩:=mT (P:=P) r1.mem r1.low hw (hev▸zG r1 hx) c1;refine kF (w':=w') ?_ ⟨⟨pl',trivial,h3,k1.trans h4⟩,h5.trans e1⟩;have hsz:(a.eval y).cells.size=P.cellsOf t:=by rw [<-hl,<-hc.1];simp
 simp [execOp,ho,Instr.storeAt,h1,Instr.sureAddr,storeVar,run_sizeOf _ hi,hsz,h2]
theorem yD {o:Oper} {t:TypeId} {x y:Operand} {kx' ky:KX} {base ety d n g:Nat} (ho:o.op= .store t x y) (hx:kx x=some kx') (hy:kx y=some ky) (hi:∃i,P.info? t=some i) (hr:Rel F N0 T pl st a w) (hsz0:P.cellsOf t=2)
  (ha:st.eval kx'= .c (.ptr d n g 0 0)) (hv:st.eval ky= .agg [.p .np,.p .nl]) (hw:(zZ base [(1,ety,1)] 1 [.p .np,.p .nl] st).2.write (.c (.ptr d n g 0 0)) ((zZ base [(1,ety,1)] 1 [.p .np,.p .nl] st).1.set 0 (.ptr d n g 0 KO))=some st'):Runs1 P o a w (λu w'=>Post F N0 pl st w (.c .u) st' u w'):=by
 obtain ⟨i,hi⟩:=hi;have hc:=dD (zG hr hy) (by rw [hv];simp) (by rw [hv];rfl);rw [hv] at hc;have hc:zT F (st.fr::st.up) pl w (a.eval y).cells.toList [.p .np,.p .nl]:=hc;obtain ⟨pl1,r1,k1,c1,e1⟩:=fJ (base:=base) (fs0:=st.fr::st.up) (pl0:=pl) [(1,ety,1)] 1 _ st pl hr Keep.refl hc;have hev:(zZ base [(1,ety,1)] 1 [.p .np,.p .nl] st).2.eval kx'= .c (.ptr d n g 0 0):=(pF e1 kx').trans ha;have hra:=zG r1 hx;rw [hev] at hra;have c2:zT F ((zZ base [(1,ety,1)] 1 [.p .np,.p .nl] st).2.fr::(zZ base [(1,ety,1)] 1 [.p .np,.p .nl] st).2.up) pl1 w (a.eval y).cells.toList ((zZ base [(1,ety,1)] 1 [.p .np,.p .nl] st).1.set 0 (.ptr d n g 0 KO)):=by
  refine ⟨by rw [List.length_set];exact c1.1,λj u c hu hc'=>?_⟩;by_cases hj:j=0
  ·subst hj;have h0:RepP (Own F pl) w u .np:=(hc.2 0 u _ hu rfl).1;cases h0;have h1:c= .ptr d n g 0 KO:=by
    rw [List.getElem?_set_self (by rw [<-c1.1];exact (zamJ.1 hu).1)] at hc';exact (Option.some.inj hc').symm
   subst h1;obtain ⟨_,B,h2,h3,h4⟩:=hra;refine ⟨⟨rfl,B,h2,h3,λe=>?_⟩,.inr rfl⟩;obtain ⟨b,s,h5,_⟩:=h4 e;exact ⟨b,s,h5,.inr ⟨rfl,.inl rfl⟩⟩
  ·rw [List.getElem?_set_ne (Ne.symm hj)] at hc';exact c1.2 j u c hu hc'
 obtain ⟨ad,w',pl',h1,h2,h3,h4,h5,h6⟩:=mT (P:=P) r1.mem r1.low hw hra c2;refine kF (w':=w') ?_ ⟨⟨pl',trivial,h3,k1.trans h4⟩,h5.trans e1⟩;have hsz:(a.eval y).cells.size=P.cellsOf t:=by rw [hsz0,<-Array.length_toList,hc.1];rfl
 simp [execOp,ho,Instr.storeAt,h1,Instr.sureAddr,storeVar,run_sizeOf _ hi,hsz,h2]
def lQ (pl:Pl) (D n k:Nat):Pl:=λd' n'=>if d'=D/\n'=k then pl D n else if d'=D/\n'=n then nop else pl d' n'
theorem lZ {pl:Pl} {D n k d' n' j:Nat} {x:Nat×Nat} (h:lQ pl D n k d' n' j=some x):
  (d'=D/\n'=k/\pl D n j=some x)\/(pl d' n' j=some x/\¬(d'=D/\n'=n)/\¬(d'=D/\n'=k)):=by
 unfold lQ at h;by_cases e1:d'=D/\n'=k
 ·rw [if_pos e1] at h;exact .inl ⟨e1.1,e1.2,h⟩
 ·rw [if_neg e1] at h;by_cases e2:d'=D/\n'=n
  ·rw [if_pos e2] at h;cases h
  ·rw [if_neg e2] at h;exact .inr ⟨h,e2,e1⟩
theorem wY (pl:Pl) (D n k:Nat):lQ pl D n k D k=pl D n:=by simp [lQ]
theorem CW (pl:Pl) {D n k:Nat} (hne:n≠k):lQ pl D n k D n=nop:=by simp [lQ,hne]
theorem sO (pl:Pl) {D n k d' n':Nat} (h1:¬(d'=D/\n'=k)) (h2:¬(d'=D/\n'=n)):lQ pl D n k d' n'=pl d' n':=by
 unfold lQ;rw [if_neg h1,if_neg h2]
theorem yE (hm:MemOK F N0 fs pl w) {D n k:Nat} (hne:n≠k) {B B1 B2:Blk} (hB:zA D n fs=some B1) (hk:B1.k.okO=true) (hBk:B.k=B1.k) (hBs:B.sz=B1.sz) (hBt:B.ty=B1.ty) (hd:B2.k= .dead) (hg:B1.g<B2.g)
  (hgk:∀B0,zA D k fs=some B0->B0.g<B.g) (hlen:fs'.length=fs.length) (hfs:∀d' n',zA d' n' fs'=if d'=D/\n'=k then some B else if d'=D/\n'=n then some B2 else zA d' n' fs):
  MemOK F N0 fs' (lQ pl D n k) w/\Keep F fs fs' pl (lQ pl D n k) w w:=by
 have hLow:Low 0 fs pl fs' (lQ pl D n k):=⟨λd n h=>absurd h (Nat.not_lt_zero _),λd' n' j b s h=>by
  rcases lZ h with ⟨_,_,h1⟩|⟨h1,_⟩
  ·exact ⟨_,_,_,h1⟩
  ·exact ⟨_,_,_,h1⟩⟩
 have hK:Keep F fs fs' pl (lQ pl D n k) w w:=by
  refine ⟨⟨rfl,rfl,rfl,zH _,λ_ _ _=>rfl⟩,hlen,λd' n' b hb=>?_,λd' n' j b s h=>?_⟩
  ·rw [hfs];by_cases e1:d'=D/\n'=k
   ·rw [if_pos e1];obtain ⟨rfl,rfl⟩:=e1;have:=hgk b hb;exact ⟨B,rfl,Nat.le_of_lt this,λe=>by omega⟩
   ·rw [if_neg e1];by_cases e2:d'=D/\n'=n
    ·rw [if_pos e2];obtain ⟨rfl,rfl⟩:=e2;rw [hB] at hb;cases hb;exact ⟨B2,rfl,Nat.le_of_lt hg,λe=>by omega⟩
    ·rw [if_neg e2];exact ⟨b,hb,zH _,λ_=>⟨Ext.of (sO pl e1 e2),rfl⟩⟩
  ·obtain ⟨d0,n0,j0,h0⟩:=hLow.own d' n' j b s h;exact .inl ⟨d0,n0,j0,s,h0⟩
 refine ⟨⟨λd' n' j b s h=>?_,λd1 n1 j1 d2 n2 j2 b s s' h1 h2=>?_,λd' n' Bx hBx=>?_,hm.fsz,hm.fix⟩,hK⟩
 ·rcases lZ h with ⟨rfl,rfl,h1⟩|⟨h1,e2,e1⟩
  ·obtain ⟨a1,a2,a3,_⟩:=hm.live _ _ _ _ _ h1;exact ⟨a1,a2,a3,B,by rw [hfs,if_pos ⟨rfl,rfl⟩]⟩
  ·obtain ⟨a1,a2,a3,Bq,a4⟩:=hm.live _ _ _ _ _ h1;exact ⟨a1,a2,a3,Bq,by rw [hfs,if_neg e1,if_neg e2];exact a4⟩
 ·rcases lZ h1 with ⟨rfl,rfl,g1⟩|⟨g1,k1,k2⟩<;>rcases lZ h2 with ⟨rfl,rfl,g2⟩|⟨g2,k3,k4⟩
  ·obtain ⟨_,_,e⟩:=hm.inj _ _ _ _ _ _ _ _ _ g1 g2;exact ⟨rfl,rfl,e⟩
  ·obtain ⟨rfl,rfl,_⟩:=hm.inj _ _ _ _ _ _ _ _ _ g1 g2;exact absurd ⟨rfl,rfl⟩ k3
  ·obtain ⟨rfl,rfl,_⟩:=hm.inj _ _ _ _ _ _ _ _ _ g2 g1;exact absurd ⟨rfl,rfl⟩ k1
  ·exact hm.inj _ _ _ _ _ _ _ _ _ g1 g2
 ·rw [hfs] at hBx;by_cases e1:d'=D/\n'=k
  ·rw [if_pos e1] at hBx;cases hBx;obtain ⟨rfl,rfl⟩:=e1;exact kG hLow (hm.blk _ _ _ hB) hk hBk hBs hBt (wY ..)
  ·rw [if_neg e1] at hBx;by_cases e2:d'=D/\n'=n
   ·rw [if_pos e2] at hBx;cases hBx;obtain ⟨rfl,rfl⟩:=e2;unfold zj;rw [hd];exact CW pl hne
   ·rw [if_neg e2] at hBx;exact bZ hK (sO pl e1 e2) (λ_ _ _ _=>rfl) (hm.blk d' n' Bx hBx)
theorem DK {run:zo} {o:Oper} {x:Operand} {kx':KX} {dst:Nat} {v:AV} (ho:o.op= .assign x) (hx:kx x=some kx') (hr:Rel F N0 T pl st a w) (he:zB run st dst (.mvR kx')=some (v,st')):
  Runs1 P o a w (Post F N0 pl st w v st'):=by
 have same:some (st.eval kx',st)=some (v,st')->Runs1 P o a w (Post F N0 pl st w v st'):=λh=>by
  cases h;exact (Ae (.inr ho) hx hr).r1
 simp only [zB] at he;split at he
 ·rename_i d n g m hk;split at he
  ·rename_i hc;obtain ⟨rfl,hne⟩:=hc;split at he
   ·rename_i g' sz ty kk hB;split at he
    ·rename_i hc;obtain ⟨rfl,hrow⟩:=hc;simp only [zS,zamL] at he;obtain ⟨rfl,rfl⟩:=he;have hv:=zG hr hx;rw [hk] at hv;have hB':zA st.up.length n (st.fr::st.up)=some ⟨g,sz,ty,kk⟩:=hB;have hD:st.up.length<(st.fr::st.up).length:=by simp
     have hs1:(st.set st.up.length n ⟨g+1,sz,ty,.dead⟩).up=st.up:=by simp [St.set]
     have hfr:(st.set st.up.length n ⟨g+1,sz,ty,.dead⟩).fresh (dst*64)=st.fresh (dst*64):=by
      simp [St.set,St.fresh,eV,Ne.symm hne]
     have hfs:∀d' n',zA d' n' (((st.set st.up.length n ⟨g+1,sz,ty,.dead⟩).new (dst*64) sz ty kk).2.fr::((st.set st.up.length n ⟨g+1,sz,ty,.dead⟩).new (dst*64) sz ty kk).2.up)=
       if d'=st.up.length/\n'=dst*64 then some ⟨st.fresh (dst*64),sz,ty,kk⟩ else if d'=st.up.length/\n'=n then some ⟨g+1,sz,ty,.dead⟩ else zA d' n' (st.fr::st.up):=λd' n'=>by
      have e:((st.set st.up.length n ⟨g+1,sz,ty,.dead⟩).new (dst*64) sz ty kk).2.fr::((st.set st.up.length n ⟨g+1,sz,ty,.dead⟩).new (dst*64) sz ty kk).2.up=bN st.up.length (dst*64) ⟨st.fresh (dst*64),sz,ty,kk⟩ (bN st.up.length n ⟨g+1,sz,ty,.dead⟩ (st.fr::st.up)):=by
       rw [<-zR,<-hfr];simp [St.new,St.set,bN]
      rw [e,zX d' n' (by rw [zr];exact hD),zX d' n' hD]
     have hok:kk.okO=true:=by cases kk<;>first|rfl|cases hrow
     obtain ⟨h1,h2⟩:=yE (fs':=(((st.set st.up.length n ⟨g+1,sz,ty,.dead⟩).new (dst*64) sz ty kk).2.fr::((st.set st.up.length n ⟨g+1,sz,ty,.dead⟩).new (dst*64) sz ty kk).2.up)) (B:=⟨st.fresh (dst*64),sz,ty,kk⟩) (B2:=⟨g+1,sz,ty,.dead⟩) hr.mem hne hB' hok rfl rfl rfl rfl (Nat.lt_succ_self _) (λB0 h0=>by
      have h0:zE (dst*64) st.fr=some B0:=by simpa [zA] using h0
      show B0.g<st.fresh (dst*64);simp [St.fresh,h0]) (by simp [St.new,St.set]) hfs
     refine zg (u:=a.eval x) (w':=w) (by simp [execOp,ho]) ⟨⟨_,?_,h1,h2⟩,by simp [St.new,St.set]⟩;obtain ⟨r1,Bq,r2,r3,r4⟩:=hv;rw [hB'] at r2;cases r2;refine ⟨r1,⟨st.fresh (dst*64),sz,ty,kk⟩,?_,by rw [hfr];exact zH _,λ_=>?_⟩
     ·rw [hfs,if_pos ⟨rfl,rfl⟩]
     ·rw [wY];exact r4 rfl
    ·cases he
   ·cases he
  ·exact same (by rw [hk];exact he)
 ·rename_i hno;exact same he
theorem Cy {run:zo} (hS:eM G P run) {o:Oper} {h:Hints} {self:FuncId} {k:KOp} {dst:Nat} {v:AV} (hc:dT P h self o=some k) (hr:Rel F N0 T pl st a w)
  (he:zB run st dst k=some (v,st')):Runs1 P o a w (Post F N0 pl st w v st'):=by
 unfold dT at hc;split at hc
 ·--a nil slice
  rename_i ho;split at hc
  ·cases hc;simp only [zB,zS,zamL] at he;obtain ⟨rfl,rfl⟩:=he;exact C9 (t:=0) ho hr
  ·cases hc
 ·rename_i x ho;obtain ⟨kx',hx,rfl⟩:=zD.1 hc;simp only [zB,zS,zamL] at he;obtain ⟨rfl,rfl⟩:=he;exact (Ae (.inl ho) hx hr).r1
 ·rename_i x _ ho;obtain ⟨kx',hx,hc⟩:=zD.1 hc;split at hc
  ·cases hc;exact DK ho hx hr he
  ·cases hc;simp only [zB,zS,zamL] at he;obtain ⟨rfl,rfl⟩:=he;exact (Ae (.inr ho) hx hr).r1
 ·rename_i c x y ho;simp only [zK,zD] at hc;obtain ⟨kc,h1,ka,h2,kb,h3,rfl⟩:=hc;simp only [zB] at he;split at he
  ·rename_i t ht;simp only [zS,zamL] at he;obtain ⟨rfl,rfl⟩:=he;exact (CJ ho h1 h2 h3 hr ht).r1
  ·cases he
 ·rename_i e ho;simp only [zK,zD] at hc;obtain ⟨i,hi,z,hz,x,hx,rfl⟩:=hc;simp only [zB,St.eval] at he;split at he
  ·cases he
  ·rename_i hnt;split at he
   ·rename_i hcond;simp only [zS,zamL] at he;obtain ⟨rfl,rfl⟩:=he;exact (Ak (by simp only [execOp,ho,Sem.run_bind,uW hi hz,Result.andThen_ok];rfl) hr (Ac hx) hnt hcond.1 hcond.2).mono λ_ _ h=>h.1
   ·cases he
 ·rename_i e x ho;obtain ⟨kx',hx,hc⟩:=zK.1 hc;split at hc
  ·exact (qV ho hx hc hr he).mono λ_ _ h=>h.1
  cases hc;simp only [zB] at he;split at he
  ·cases he
  ·rename_i hnt;split at he
   ·rename_i hcond;simp only [zS,zamL] at he;obtain ⟨rfl,rfl⟩:=he;exact (Ak (by simp only [execOp,ho,Sem.run_bind,sN,Result.andThen_ok];rfl) hr (zG hr hx) hnt hcond.1 hcond.2).mono λ_ _ h=>h.1
   ·cases he
 ·rename_i t parts ho;split at hc
  ·rename_i fds hu;split at hc
   ·cases hc
   ·rename_i hall;simp only [zK,zD] at hc;obtain ⟨z,hz,ks,hks,rfl⟩:=hc;simp only [zB,zD,zamL] at he;obtain ⟨cs,h1,rfl,rfl⟩:=he;exact (Ar ho hu (by simpa only [Bool.not_eq_false] using hall) hz (by simpa using hks) hr h1).r1
  ·cases hc
 ·rename_i t len parts ho;split at hc
  ·rename_i e hu;split at hc
   ·cases hc
   ·rename_i hcond;simp only [not_or] at hcond;split at hc
    ·cases hc
    simp only [zK,zD] at hc;obtain ⟨z,hz,ks,hks,rfl⟩:=hc;simp only [zB,zK] at he;obtain ⟨rows,h1,he⟩:=he;refine (xX (cols:=AR P h self e parts) ho hu (by simpa using hcond.1) hcond.2 hz hks hr h1 ?_ (dst:=dst)).mono λ_ _ h=>h.1
    split at he
    ·rename_i rs st1 hfr;simp only [zS,zamL] at he;obtain ⟨rfl,rfl⟩:=he;unfold frz at hfr;split at hfr
     ·exact .inl ⟨rs,st1,hfr,rfl,rfl⟩
     ·cases hfr
    ·split at he
     ·rename_i hd;simp only [zS,zamL] at he;obtain ⟨rfl,rfl⟩:=he;exact .inr ⟨hd,rfl,rfl⟩
     ·cases he
  ·cases hc
 ·rename_i t x ho;simp only [zK,zD] at hc;obtain ⟨kx',hx,g,hg,rfl⟩:=hc;simp only [zB,zK,zD,zamL] at he;obtain ⟨cs,h1,v',h2,rfl,rfl⟩:=he;exact (CK ho hx hg hr h1 h2).r1
 ·rename_i t x y ho;simp only [zK,zD] at hc;obtain ⟨kx',hx,ky,hy,i,hi,rfl⟩:=hc;have key:∀k,(k= .store (P.cellsOf t) kx' ky\/(∃b c,k= .storeN (P.cellsOf t) b c kx' ky)\/∃b c,k= .storeB b c kx' ky/\P.cellsOf t=2)->zB run st dst k=some (v,st')->Runs1 P o a w (Post F N0 pl st w v st'):=by
   rintro k (rfl|⟨b,c,rfl⟩|⟨b,c,rfl,hsz0⟩) he
   ·simp only [zB] at he;split at he
    ·cases he
    ·rename_i hnt;split at he
     ·rename_i hcond;simp only [zD,zamL] at he;obtain ⟨st1,h1,rfl,rfl⟩:=he;exact (An ho hx hy ⟨i,hi⟩ hr hnt hcond.1 hcond.2 h1).mono λu w' hp=>hp.1
     ·cases he
   ·simp only [zB] at he;split at he
    ·cases he
    ·rename_i hnt;split at he
     ·rename_i hcond;simp only [zD,zamL] at he;obtain ⟨st1,h1,rfl,rfl⟩:=he;exact yC ho hx hy ⟨i,hi⟩ hr hnt hcond.1 hcond.2 h1
     ·cases he
   ·simp only [zB] at he;split at he
    ·rename_i hea hev;simp only [zD,zamL] at he;obtain ⟨st1,h1,rfl,rfl⟩:=he;exact yD ho hx hy ⟨i,hi⟩ hr hsz0 hea hev h1
    ·cases he
  refine key _ ?_ he;unfold wC;split
  ·split
   ·exact .inr (.inl ⟨_,_,rfl⟩)
   ·split
    ·rename_i hg;split
     ·exact .inr (.inr ⟨_,_,rfl,hg.2⟩)
     ·exact .inl rfl
    ·exact .inl rfl
  ·exact .inl rfl
 ·rename_i x ho;obtain ⟨kx',hx,rfl⟩:=zD.1 hc;simp only [zB] at he;split at he
  ·rename_i d n g j q hk;split at he
   ·rename_i hg;cases he;obtain ⟨B,h1,h2⟩:=wX hg.1;exact (uP ho hx hr (.inr (.inr ⟨d,n,g,j,q,B,hk,rfl,h1,h2,hg.2⟩))).r1
   ·cases he
  ·rename_i e q hk;cases he;exact (uP ho hx hr (.inl ⟨e,q,hk,rfl⟩)).r1
  ·rename_i f cs hk;cases he;exact (uP ho hx hr (.inr (.inl ⟨f,cs,hk,rfl⟩))).r1
  ·cases he
 ·rename_i op xt x y yt ho;simp only [zK] at hc;obtain ⟨kx',hx,ky,hy,hc⟩:=hc;have bin:some (KOp.bin op kx' ky)=some k->Runs1 P o a w (Post F N0 pl st w v st'):=by
   intro hc;cases hc;simp only [zB] at he;split at he
   ·rename_i p q h1 h2;simp only [zD,zamL] at he;obtain ⟨r,h3,rfl,rfl⟩:=he;exact (DC ho hx hy hr h1 h2 h3).r1
   ·cases he
  split at hc
  ·rename_i fds hu;split at hc
   ·rename_i hcond;obtain ⟨tags,ht,rfl⟩:=zD.1 hc;simp only [zB] at he;split at he
    ·rename_i cs ds h1 h2;simp only [zD,zamL] at he;obtain ⟨r,h3,rfl,rfl⟩:=he;exact DJ ho hcond.1 hcond.2 ht hu hx hy hr h1 h2 h3
    ·cases he
   ·cases hc
  ·exact bin hc
  ·exact bin hc
  ·rename_i hu;split at hc
   ·rename_i hop;cases hc;simp only [zB] at he;split at he
    ·rename_i p q h1 h2;cases he;exact (DD ho hu hop hx hy hr h1 h2).r1
    ·cases he
   ·cases hc
  ·rename_i ms hu;split at hc
   ·split at hc
    ·rename_i hop;cases hc;simp only [zB] at he;split at he
     ·rename_i h1;cases he;exact (wL ho hu hop hx hr (.inl ⟨h1,rfl⟩)).r1
     ·rename_i h1;cases he;exact (wL ho hu hop hx hr (.inr ⟨h1,rfl⟩)).r1
     ·cases he
    ·cases hc
   ·cases hc
  ·cases hc
 ·rename_i op t x ho;obtain ⟨kx',hx,rfl⟩:=zD.1 hc;simp only [zB] at he;split at he
  ·rename_i p h1;simp only [zD,zamL] at he;obtain ⟨r,h2,rfl,rfl⟩:=he;exact (Dj ho hx hr h1 h2).r1
  ·cases he
 ·rename_i src dst' x ho;split at hc
  ·rename_i k1 k2 hs hd;obtain ⟨kx',hx,rfl⟩:=zD.1 hc;simp only [zB] at he;split at he
   ·rename_i q n h1;cases he;exact (CM ho hs hd hx hr h1).r1
   ·cases he
  ·rename_i hs hd;obtain ⟨kx',hx,rfl⟩:=zD.1 hc;simp only [zB] at he;split at he
   ·rename_i q h1;cases he;exact (Ao ho hs hd hx hr h1).r1
   ·cases he
  ·rename_i e hs hd;split at hc
   ·rename_i hu8;obtain ⟨kx',hx,rfl⟩:=zD.1 hc;simp only [zB,zK,zD,zamL] at he;obtain ⟨rows,h1,l,h2,rfl,rfl⟩:=he;exact Aw ho hs hu8 hd hx hr h1 h2
   ·cases hc
  ·cases hc
 ·rename_i f first caps ho
  split at hc
  ·rename_i hf;obtain ⟨ks,hks,rfl⟩:=zD.1 hc;simp only [zB,zD,zamL] at he;obtain ⟨cs,h1,rfl,rfl⟩:=he;exact (CN ho hf hks hr h1).r1
  ·cases hc
 ·rename_i t l c ho;split at hc
  ·rename_i e hu;split at hc
   ·cases hc
   ·rename_i hok;simp only [zK,zD] at hc;obtain ⟨z,hz,kl,hl,kc,hcc,rfl⟩:=hc;simp only [zB,zK] at he;obtain ⟨l',h1,c',h2,he⟩:=he;split at he
    ·rename_i hcond;obtain ⟨c1,rfl,c3,c4,c5,c6⟩:=hcond;cases he;exact (CO ho hu (by simpa using hok) hz hl hcc hr c6 h1 h2 c1 c3 c4).mono λ_ _ h=>h.1
    ·cases he
  ·cases hc
 ·rename_i t x lo hi ho;split at hc
  ·rename_i hu;simp only [zK,zD] at hc;obtain ⟨kx',hx,klo,hlo,khi,hhi,rfl⟩:=hc;simp only [zB] at he;split at he
   ·rename_i s h1;simp only [zK] at he;obtain ⟨l,h2,h',h3,he⟩:=he;split at he
    ·rename_i hcond;cases he;exact (CQ ho hu hx hlo hhi hr h1 h2 h3 hcond.1 hcond.2.1 hcond.2.2).r1
    ·cases he
   ·cases he
  ·rename_i e hu;simp only [zK,zD] at hc;obtain ⟨i,hi',kx',hx,klo,hlo,khi,hhi,rfl⟩:=hc;simp only [zB] at he;split at he
   ·rename_i rows h1;simp only [zK] at he;obtain ⟨l,h2,h',h3,he⟩:=he;split at he
    ·rename_i hcond;cases he;exact DI ho hu ⟨i,hi'⟩ hx hlo hhi hr h1 h2 h3 hcond.1 hcond.2.1 hcond.2.2.1 (by simpa using hcond.2.2.2)
    ·cases he
   ·cases he
  ·cases hc
 ·rename_i s x f ho;split at hc
  ·rename_i fds hu;simp only [zK] at hc;obtain ⟨g,hg,hc⟩:=hc;split at hc
   ·cases hc
   ·rename_i hz;obtain ⟨kx',hx,rfl⟩:=zD.1 hc;simp only [zB] at he;split at he
    ·rename_i d n g' j q hk;split at he
     ·rename_i hg';cases he;obtain ⟨B,h1,h2⟩:=wX hg'.1;exact (sC ho hu hg hz hx hr (.inr ⟨d,n,g',j,q,B,hk,rfl,h1,h2,hg'.2.1,hg'.2.2⟩)).r1
     ·cases he
    ·rename_i e q hk;cases he;exact (sC ho hu hg hz hx hr (.inl ⟨e,q,hk,rfl⟩)).r1
    ·cases he
  ·cases hc
 ·rename_i s x f ho;split at hc
  ·rename_i fds hu;simp only [zK,zD] at hc;obtain ⟨g,hg,q,hq,kx',hx,rfl⟩:=hc;simp only [zB] at he;split at he
   ·rename_i cs h1;split at he
    ·rename_i hl;simp only [zD,zamL] at he;obtain ⟨v',h2,rfl,rfl⟩:=he;exact (Ap ho hu hg hq hx hr h1 hl h2).r1
    ·cases he
   ·cases he
  ·cases hc
 ·rename_i t x i ho;split at hc
  ·rename_i e hu;simp only [zK,zD] at hc;obtain ⟨ie,hie,kx',hx,ky,hy,rfl⟩:=hc;simp only [zB,zK] at he;obtain ⟨n,hn,he⟩:=he;split at he
   ·rename_i rows h1;split at he
    ·rename_i hcond;split at he
     ·rename_i row hrow;split at he
      ·rename_i hlen;cases he;exact (jC ho hu ⟨ie,hie⟩ hx hy hr hn hcond.1 (.inl ⟨rows,row,h1,hcond.2,hrow,hlen,rfl⟩)).r1
      ·cases he
     ·cases he
    ·cases he
   ·rename_i d m g q h1;split at he
    ·rename_i g' sz' ty rows hB;split at he
     ·rename_i hcond;obtain ⟨rfl,c2,c3,c4,c5⟩:=hcond;cases he;exact (jC ho hu ⟨ie,hie⟩ hx hy hr hn c4 (.inr ⟨d,m,g,q,_,h1,hB,rfl,c2,c5,rfl⟩)).r1
     ·cases he
    ·rename_i g' sz' ty cols rows hB;split at he
     ·rename_i hcond;obtain ⟨rfl,c2,c3,c4,c5⟩:=hcond;cases he;exact (jC ho hu ⟨ie,hie⟩ hx hy hr hn c4 (.inr ⟨d,m,g,q,_,h1,hB,rfl,c2,c5,rfl⟩)).r1
     ·cases he
    ·rename_i g' sz' ty cells hB;split at he
     ·rename_i hcond;obtain ⟨rfl,c2,c3,c4,c5⟩:=hcond;cases he;exact (jC ho hu ⟨ie,hie⟩ hx hy hr hn c4 (.inr ⟨d,m,g,q,_,h1,hB,rfl,c2,c5,rfl⟩)).r1
     ·cases he
    ·cases he
   ·cases he
  ·cases hc
 ·rename_i t x i ho;split at hc
  ·rename_i hu;simp only [zK,zD] at hc;obtain ⟨kx',hx,ky,hy,rfl⟩:=hc;simp only [zB,zK] at he;obtain ⟨n,hn,he⟩:=he;split at he
   ·rename_i s h1;split at he
    ·rename_i h0;split at he
     ·rename_i c hcc;cases he;exact (Aq ho hu hx hy hr h1 hn h0 hcc).r1
     ·cases he
    ·cases he
   ·cases he
  ·cases hc
 ·rename_i x i ho;obtain ⟨kx',hx,rfl⟩:=zD.1 hc;simp only [zB] at he;split at he
  ·rename_i vs h1;split at he
   ·rename_i g cs h2;simp only [zD,zamL] at he;obtain ⟨v',h3,rfl,rfl⟩:=he;exact (DF ho hx hr h1 h2 h3).r1
   ·cases he
  ·cases he
 ·rename_i c ho;split at hc
  ·rename_i hcal;split at hc
   ·rename_i s x t1 t2 tl hargs htys;split at hc
    ·rename_i e e' hu _;split at hc
     ·rename_i hcond;obtain ⟨rfl,hsz,hok⟩:=hcond;simp only [zK,zD] at hc;obtain ⟨ks,hs,kx',hx,rfl⟩:=hc;have htl:c.argTypes= #[t1,t1]:=by
       have hl:c.argTypes.toList.length=2:=by simpa using hsz
       rw [htys] at hl;have:tl= []:=bR (by simpa using hl);subst this;rw [<-Array.toArray_toList (xs:=c.argTypes),htys]
      exact DG ho hcal hargs htl hu hok hs hx hr he
     ·cases hc
    ·cases hc
   ·cases hc
  ·rename_i hcal;split at hc
   ·rename_i x t tl hargs htys;have hargs':c.args= #[x]:=by rw [<-Array.toArray_toList (xs:=c.args),hargs]
    have hty':c.argTypes[0]?=some t:=by
     rw [<-Array.getElem?_toList,htys];rfl
    split at hc
    ·rename_i hu;obtain ⟨kx',hx,rfl⟩:=zD.1 hc;simp only [zB] at he;split at he
     ·rename_i s h1;cases he;exact (mV ⟨c,ho,hcal,hargs',hty'⟩ hx hr (.inl ⟨hu,s,h1,rfl⟩)).r1
     ·cases he
    ·rename_i e hu;obtain ⟨kx',hx,rfl⟩:=zD.1 hc;simp only [zB] at he;split at he
     ·rename_i h1;cases he;exact (mV ⟨c,ho,hcal,hargs',hty'⟩ hx hr (.inr ⟨⟨e,hu⟩,.inr (.inl ⟨h1,rfl⟩)⟩)).r1
     ·rename_i rows h1;cases he;exact (mV ⟨c,ho,hcal,hargs',hty'⟩ hx hr (.inr ⟨⟨e,hu⟩,.inl ⟨rows,h1,rfl⟩⟩)).r1
     ·rename_i d n g m h1;split at he
      ·rename_i hg;cases he;obtain ⟨B,h2,h3⟩:=wX hg;exact (mV ⟨c,ho,hcal,hargs',hty'⟩ hx hr (.inr ⟨⟨e,hu⟩,.inr (.inr (.inl ⟨d,n,g,m,B,h1,h2,h3,rfl⟩))⟩)).r1
      ·cases he
     ·rename_i d n g j o m z h1;split at he
      ·rename_i hg;cases he;obtain ⟨B,h2,h3⟩:=wX hg;exact (mV ⟨c,ho,hcal,hargs',hty'⟩ hx hr (.inr ⟨⟨e,hu⟩,.inr (.inr (.inr ⟨d,n,g,j,o,m,z,B,h1,h2,h3,rfl⟩))⟩)).r1
      ·cases he
     ·cases he
    ·cases hc
   ·cases hc
  ·rename_i hcal;obtain ⟨ks,hks,rfl⟩:=zD.1 hc;simp only [zB,zD,zamL] at he;obtain ⟨n,h1,rfl,rfl⟩:=he;exact Cx (mx:=true) ho hcal hks hr h1
  ·rename_i hcal;obtain ⟨ks,hks,rfl⟩:=zD.1 hc;simp only [zB,zD,zamL] at he;obtain ⟨n,h1,rfl,rfl⟩:=he;exact Cx (mx:=false) ho hcal hks hr h1
  ·rename_i f hcal;simp only [zK,zD] at hc;obtain ⟨g,hg,ks,hks,rfl⟩:=hc;unfold AS at he;split at he
   ·exact A6 hS ho hcal hg hks hr he
   ·exact (CU hS ho hcal hg hks hr he).mono λ_ _ h=>h.1
  ·cases hc
 ·cases hc
end
section
variable {P:Program} {F F':Nat->Prop} {G:Nat->Option Obj} {N0:Base G} {T:Nat} {pl pl' pl1:Pl} {st st':St} {a:Act} {w w':World} {fs fs':List Frame} {fr f':Frame} {up:List Frame}
theorem iN {d:Nat} {kb:List Nat} (n:Nat):∀l:List Nat,zE n (iW d fr kb l)=if n∈l then (zE n fr).map (mJ d fr kb) else none
 | []=>by simp [iW,zE]
 |m::r=>by
  simp only [iW];have ih:=iN (d:=d) (kb:=kb) n r;by_cases h:m=n
  ·subst h;cases hl:zE m fr with
   |none=>rw [ih,hl];simp
   |some B=>simp [zE]
  ·have hne:¬n=m:=λe=>h e.symm
   cases hl:zE m fr with
   |none=>rw [ih];simp [hne]
   |some B=>simp only [zE,if_neg h,ih];simp [hne]
theorem sQ {d:Nat} {kb:List Nat} (B:Blk):(mJ d fr kb B).sz=B.sz/\(mJ d fr kb B).ty=B.ty:=by
 unfold mJ;split
 ·split<;>exact ⟨rfl,rfl⟩
 ·exact ⟨rfl,rfl⟩
theorem CX (hm:MemOK F N0 (fr::up) pl w) (kb:List Nat):
  ∃pl',MemOK F N0 (iW up.length fr kb kb::up) pl' w/\Keep F up up pl pl' w w/\∀{v:Value} {x:AV},zf F (fr::up) pl w v x->zf F (iW up.length fr kb kb::up) pl' w v (AL up.length fr kb x):=by
 let f1:=iW up.length fr kb kb
 let pl2:Pl:=λd n=>if d=up.length then (match zE n f1 with|some B=>if B.g=0 then pl d n else nop|none=>nop) else if d<up.length then pl d n else nop
 have p1:∀d n,d<up.length->pl2 d n=pl d n:=λd n hd=>by simp [pl2,Nat.ne_of_lt hd,hd]
 have p4:∀d n,up.length<d->pl2 d n=nop:=λd n hd=>by simp [pl2,Nat.ne_of_gt hd,Nat.lt_asymm hd]
 have p2:∀n B,zE n f1=some B->B.g=0->pl2 up.length n=pl up.length n:=λn B h hg=>by simp [pl2,h,hg]
 have p3:∀n j b s,pl2 up.length n j=some (b,s)->∃B,zE n f1=some B/\B.g=0/\pl up.length n j=some (b,s):=λn j b s h=>by
  simp only [pl2,if_true] at h;cases hB:zE n f1 with
  |none=>rw [hB] at h;cases h
  |some B=>
   rw [hB] at h;simp only at h;by_cases hg:B.g=0
   ·rw [if_pos hg] at h;exact ⟨B,rfl,hg,h⟩
   ·rw [if_neg hg] at h;cases h
 have hsome:∀d n j b s,pl2 d n j=some (b,s)->pl d n j=some (b,s):=λd n j b s h=>by
  rcases Nat.lt_trichotomy d up.length with hd|hd|hd
  ·rw [<-p1 d n hd];exact h
  ·subst hd;obtain ⟨B,_,_,h2⟩:=p3 n j b s h;exact h2
  ·rw [p4 d n hd] at h;cases h
 have hlowU:∀d n,d<up.length->∀f,zA d n (f::up)=zA d n up:=λd n hd f=>by simp [zA,Nat.ne_of_lt hd]
 have hLow:Low up.length (fr::up) pl (f1::up) pl2:=⟨λd n hd=>⟨by rw [hlowU d n hd,hlowU d n hd],p1 d n hd⟩,λd n j b s h=>⟨d,n,j,hsome d n j b s h⟩⟩;have htop:∀n f,zA up.length n (f::up)=zE n f:=λn f=>by simp [zA]
 have hK:Keep F up up pl pl2 w w:=⟨⟨rfl,rfl,rfl,zH _,λ_ _ _=>rfl⟩,rfl,λd n b hb=>⟨b,hb,zH _,λ_=>⟨Ext.of (p1 d n (zO hb)),rfl⟩⟩,λd n j b s h=> .inl ⟨d,n,j,s,hsome d n j b s h⟩⟩;have hcell:∀{v:Value} {c:CV},cM F (fr::up) pl w v c->cM F (f1::up) pl2 w v (kV up.length fr kb c):=by
  intro v c hr;have hg1:∀n B,zE n fr=some B->kb.contains n=true->zE n f1=some (mJ up.length fr kb B):=λn B h hk=>by
   have:n∈kb:=by simpa using hk
   simp only [f1];rw [iN,if_pos this,h];rfl
  cases c with
  |p x=>exact hLow.repP hr
  |own d n g m=>
   obtain ⟨h1,B,h2,h3,h4⟩:=hr;have hd:=zO h2;simp only [zamM] at hd;simp only [kV];by_cases e:d=up.length
   ·subst e;rw [if_pos rfl];rw [htop] at h2;rw [h2];simp only;split
    ·rename_i hc;have hf:=hg1 n B h2 hc.2;refine ⟨h1,_,by rw [htop];exact hf,Nat.zero_le _,λe0=>?_⟩;rw [p2 n _ hf e0.symm,(sQ B).1];exact h4 hc.1.symm
    ·trivial
   ·rw [if_neg e];have hd2:d<up.length:=by omega
    exact ⟨h1,B,by rw [hlowU d n hd2];rw [hlowU d n hd2] at h2;exact h2,h3,λe=>by rw [p1 d n hd2];exact h4 e⟩
  |ptr d n g j o=>
   obtain ⟨h1,B,h2,h3,h4⟩:=hr;have hd:=zO h2;simp only [zamM] at hd;simp only [kV];by_cases e:d=up.length
   ·subst e;rw [if_pos rfl];rw [htop] at h2;rw [h2];simp only;split
    ·rename_i hc;have hf:=hg1 n B h2 hc.2;refine ⟨h1,_,by rw [htop];exact hf,Nat.zero_le _,λe0=>?_⟩;rw [p2 n _ hf e0.symm,(sQ B).1];exact h4 hc.1.symm
    ·trivial
   ·rw [if_neg e];have hd2:d<up.length:=by omega
    exact ⟨h1,B,by rw [hlowU d n hd2];rw [hlowU d n hd2] at h2;exact h2,h3,λe=>by rw [p1 d n hd2];exact h4 e⟩
  |rp row o=>exact RepR.same hr (λk d n j s hp=>⟨d,n,j,s,hsome d n j k s hp⟩) hLow.repP
  |fn f caps=>
   simp only [kV];split
   ·rename_i hc;obtain ⟨vals,h1,h2,h3⟩:=hr;refine ⟨vals,h1,h2,λi u c hu hcc=>?_⟩;have h4:=h3 i u c hu hcc;cases c with
    |p x=>exact hLow.repP h4
    |ptr d n g=>
     have hmem:=aC hcc;have hne:d≠up.length:=by
      have:=zamK.1 hc _ hmem;simpa using this
     obtain ⟨h0,B,h5,h6,h7⟩:=h4;have hd:=zO h5;simp only [zamM] at hd;have hd2:d<up.length:=by omega
     exact ⟨h0,B,by rw [hlowU d n hd2];rw [hlowU d n hd2] at h5;exact h5,h6,λe=>by rw [p1 d n hd2];exact h7 e⟩
    |rp row=>exact RepR.same h4 (λk d n j s hp=>⟨d,n,j,s,hsome d n j k s hp⟩) hLow.repP
   ·trivial
  |sub d n g j o m esz=>
   obtain ⟨h1,B,h2,h3,h4⟩:=hr;have hd:=zO h2;simp only [zamM] at hd;simp only [kV];by_cases e:d=up.length
   ·rw [if_pos e];trivial
   ·rw [if_neg e];have hd2:d<up.length:=by omega
    exact ⟨h1,B,by rw [hlowU d n hd2];rw [hlowU d n hd2] at h2;exact h2,h3,λe=>by rw [p1 d n hd2];exact h4 e⟩
  |nfn=>exact hr
  |u=>trivial
 refine ⟨pl2,wW hm hLow (λn j b s h=>?_) (λn j n' j' b s s' h h'=>?_) p4 (λn B hB=>?_),hK,fun {v x} hr=>eD (λu c _ h=>hcell h) (λc h=>by subst h;rfl) hr⟩
 ·obtain ⟨B,h1,_,h2⟩:=p3 n j b s h;exact ⟨⟨B,h1⟩,_,_,_,zH _,h2⟩
 ·exact (hm.inj _ _ _ _ _ _ b s s' (hsome _ _ _ _ _ h) (hsome _ _ _ _ _ h')).2
 ·have hB':zE n f1=some B:=hB;have hBB:=hB;rw [iN] at hBB;split at hBB
  ·obtain ⟨B0,h0,rfl⟩:=zD.1 hBB;have hb:=hm.blk up.length n B0 (by rw [htop];exact h0);unfold mJ at hB'⊢;split at hB'
   ·rename_i cells hk;split at hB'
    ·rename_i hall;have hp:=p2 n _ hB' rfl;simp only [hall,if_true];unfold zj at hb⊢;rw [hk] at hb;simp only;obtain ⟨b,us,h1,h2,h3,h4⟩:=hb;refine ⟨b,us,by rw [zamV];exact hp.trans h1,h2,⟨by simp [h3.1],λi u c hu hc=>?_⟩,λc hc=>zamK.1 hall c hc⟩;simp only [zamS,zD] at hc;obtain ⟨c',hc',rfl⟩:=hc;obtain ⟨h5,h6⟩:=h3.2 i u c' hu hc';exact ⟨hcell h5,h6.imp (λe=>by subst e;rfl) id⟩
    ·rename_i hall;simp only [hall,if_false];show pl2 up.length n=nop;simp [pl2,hB']
   ·rename_i hk;have hp:=p2 n _ hB' rfl;unfold zj at hb⊢;cases hk2:B0.k with
    |box cells=>exact absurd hk2 (by intro e;exact hk cells e)
    |row rows=>
     rw [hk2] at hb;simp only [hk2];rcases hb with ⟨h1,h2⟩|⟨b,s,us,h1,h2,h3,h4,h5,h6⟩
     ·exact .inl ⟨h1,hp.trans h2⟩
     ·exact .inr ⟨b,s,us,hp.trans h1,h2,h3,h4,h5,λj e o x he hx=>by
       obtain ⟨v,hv,hr⟩:=h6 j e o x he hx;exact ⟨v,hv,hLow.repP hr⟩⟩
    |deep cols rs=>
     rw [hk2] at hb;simp only [hk2];rcases hb with ⟨h1,h2⟩|⟨b,s,us,h1,h2,h3,h4,h5,h6,h7⟩
     ·exact .inl ⟨h1,hp.trans h2⟩
     ·refine .inr ⟨b,s,us,by rw [hp];exact h1,h2,h3,h4,h5,λj e o x he hx=>?_,λj hj=>by rw [hp];exact h7 j hj⟩;obtain ⟨v,hv,hr⟩:=h6 j e o x he hx;refine ⟨v,hv,?_⟩;rw [hp];exact hr.keep (λh'=>hLow.repP h') (λ_ _ _ _=>rfl)
    |dead=>
     rw [hk2] at hb;simp only [hk2];exact hp.trans hb
  ·cases hBB
theorem pG {α:Type} (g:Nat->α) (n:Nat):∀(l:List Nat) {v:α},zE n (l.map λm=>(m,g m))=some v->v=g n
 | [],v,h=>by simp [zE] at h
 |m::r,v,h=>by
  simp only [zanE,zE] at h;split at h
  ·rename_i e;subst e;cases h;rfl
  ·exact pG g n r h
theorem kH (f:Blk->Blk) (n:Nat):∀l:Go.Eng.Frame,zE n (l.map λ(n,B)=>(n,f B))=(zE n l).map f
 | []=>rfl
 |(m,B)::r=>by
  simp only [zanE,zE];by_cases h:m=n
  ·rw [if_pos h,if_pos h];rfl
  ·rw [if_neg h,if_neg h];exact kH f n r
theorem pH (f:AV->AV) (n:Nat):∀l:List (Nat×AV),zE n (l.map λ(n,B)=>(n,f B))=(zE n l).map f
 | []=>rfl
 |(m,B)::r=>by
  simp only [zanE,zE];by_cases h:m=n
  ·rw [if_pos h,if_pos h];rfl
  ·rw [if_neg h,if_neg h];exact pH f n r
theorem sR {n:Nat} {B:Blk}:∀{l:Go.Eng.Frame},zE n l=some B->(n,B)∈l
 | [],h=>by cases h
 |(m,C)::r,h=>by
  simp only [zE] at h;by_cases e:m=n
  ·rw [if_pos e] at h;cases h;rw [e];exact zamN ..
  ·rw [if_neg e] at h;exact zamR _ (sR h)
theorem kI (f:Blk->Blk) (d n:Nat):∀up:List Go.Eng.Frame,zA d n (up.map λfr=>fr.map λ(n,B)=>(n,f B))=(zA d n up).map f
 | []=>rfl
 |fr::r=>by
  simp only [zanE,zA,zamV];by_cases h:d=r.length
  ·rw [if_pos h,if_pos h];exact kH f n fr
  ·rw [if_neg h,if_neg h];exact kI f d n r
theorem pI {d n:Nat} {B:Blk}:∀{up:List Go.Eng.Frame},zA d n up=some B->∃f∈up,(n,B)∈f
 | [],h=>by cases h
 |fr::r,h=>by
  simp only [zA] at h;by_cases e:d=r.length
  ·rw [if_pos e] at h;exact ⟨fr,zamN ..,sR h⟩
  ·rw [if_neg e] at h;obtain ⟨f,h1,h2⟩:=pI h;exact ⟨f,zamR _ h1,h2⟩
theorem A7 {up:List Go.Eng.Frame} {c:CV} {d:Nat} (h:c.dep d=true) (hk:(fV up c).known=true):(fV up c).dep d=true:=by
 cases c with
 |own d' n g m=>
  simp only [fV] at hk⊢;split
  ·split
   ·exact h
   ·split
    ·exact h
    ·rename_i h1 h2 h3;simp_all [CV.known]
  ·exact h
 |ptr d' n g j o=>
  simp only [fV] at hk⊢;split
  ·split
   ·exact h
   ·split
    ·exact h
    ·rename_i h1 h2 h3;simp_all [CV.known]
  ·exact h
 |fn f caps=>
  simp only [fV] at hk⊢;split
  ·exact h
  ·rename_i h1;simp_all [CV.known]
 |p x=>exact h
 |rp row o=>exact h
 |sub d' n g j o m esz=>simp [fV,CV.known] at hk
 |nfn=>exact h
 |u=>exact h
structure LowB (d:Nat) (up:List Go.Eng.Frame) (B B':Blk):Prop where
 sz:B'.sz=B.sz
 ty:B'.ty=B.ty
 g:B'.g=B.g\/(d<up.length/\(∃rows,B.k= .row rows)/\B'.g=min B.g 1)
 box:∀cells,B.k= .box cells->B'.k= .box (cells.map (fV up))
 row:∀rows,B.k= .row rows->B'.k= .row rows
 deep:∀c rows,B.k= .deep c rows->B'.k= .deep c rows
 dead:B.k= .dead->B'.k= .dead
theorem CY (d:Nat) (up:List Go.Eng.Frame) (B:Blk):LowB d up B (AN up B):=by
 obtain ⟨g,sz,ty,k⟩:=B;cases k with
 |box cells=>exact ⟨rfl,rfl,.inl rfl,(λc h=>by cases h;rfl),(λr h=>by cases h),(λc r h=>by cases h),(λh=>by cases h)⟩
 |row rows=>exact ⟨rfl,rfl,.inl rfl,(λc h=>by cases h),(λr h=>h),(λc r h=>by cases h),(λh=>by cases h)⟩
 |deep c r=>exact ⟨rfl,rfl,.inl rfl,(λc h=>by cases h),(λr h=>by cases h),(λc r h=>h),(λh=>by cases h)⟩
 |dead=>exact ⟨rfl,rfl,.inl rfl,(λc h=>by cases h),(λr h=>by cases h),(λc r h=>by cases h),(λh=>rfl)⟩
theorem qW {d:Nat} {up:List Go.Eng.Frame} (hd:d<up.length) (B:Blk):LowB d up B (xO up B):=by
 obtain ⟨g,sz,ty,k⟩:=B;cases k with
 |box cells=>exact ⟨rfl,rfl,.inl rfl,(λc h=>by cases h;rfl),(λr h=>by cases h),(λc r h=>by cases h),(λh=>by cases h)⟩
 |row rows=>exact ⟨rfl,rfl,.inr ⟨hd,⟨rows,rfl⟩,rfl⟩,(λc h=>by cases h),(λr h=>h),(λc r h=>by cases h),(λh=>by cases h)⟩
 |deep c r=>exact ⟨rfl,rfl,.inl rfl,(λc h=>by cases h),(λr h=>by cases h),(λc r h=>h),(λh=>by cases h)⟩
 |dead=>exact ⟨rfl,rfl,.inl rfl,(λc h=>by cases h),(λr h=>by cases h),(λc r h=>by cases h),(λh=>rfl)⟩
theorem wZ (hr:Rel F N0 T pl st a w):Rel F N0 T pl st.low a w/\KeepU st.up st.low.up pl pl w w:=by
 unfold St.low;split
 ·exact ⟨hr,KeepU.refl⟩
 split
 ·rename_i hall;obtain ⟨t,fr,up⟩:=st;simp only at hall⊢
  let fr':Go.Eng.Frame:=fr.map λ(n,B)=>(n,AN up B)
  let up':List Go.Eng.Frame:=up.map λf=>f.map λ(n,B)=>(n,xO up B)
  have hm:=hr.mem;simp only at hm;have hlen:up'.length=up.length:=by simp [up']
  have hget:∀d n,zA d n (fr'::up')=(zA d n (fr::up)).map λB=>if d=up.length then AN up B else xO up B:=λd n=>by
   simp only [zA,hlen];by_cases h:d=up.length
   ·rw [if_pos h,if_pos h,kH];simp [h]
   ·rw [if_neg h,if_neg h,kI];simp [h]
  have hfw:∀{d n B},zA d n (fr::up)=some B->∃B',zA d n (fr'::up')=some B'/\LowB d up B B':=fun {d n B} h=>by
   have hlt:=zO h;simp only [zamM] at hlt;rw [hget,h];by_cases e:d=up.length
   ·exact ⟨AN up B,by simp [e],CY ..⟩
   ·exact ⟨xO up B,by simp [e],qW (by omega) _⟩
  have hbw:∀{d n B'},zA d n (fr'::up')=some B'->∃B,zA d n (fr::up)=some B/\LowB d up B B':=fun {d n B'} h=>by
   cases hq:zA d n (fr::up) with
   |none=>rw [hget,hq] at h;cases h
   |some B=>
    obtain ⟨B2,h1,h2⟩:=hfw hq;rw [h] at h1;cases h1;exact ⟨B,rfl,h2⟩
  have hup:∀{d n B},d<up.length->zA d n (fr::up)=some B->zA d n up=some B:=fun {d n B} hd h=>by
   simpa [zA,Nat.ne_of_lt hd] using h
  have hno:∀d n,up.length<=d->zA d n up=none:=λd n hd=>by
   cases hq:zA d n up with
   |none=>rfl
   |some B=>have:=zO hq;omega
  have hcell:∀{v:Value} {c:CV},cM F (fr::up) pl w v c->cM F (fr'::up') pl w v (fV up c):=by
   intro v c h;cases c with
   |p x=>exact h
   |own d n g m=>
    obtain ⟨h1,B,h2,h3,h4⟩:=h;obtain ⟨B',h5,h6⟩:=hfw h2;have same:B'.g=B.g->cM F (fr'::up') pl w v (.own d n g m):=λe=>⟨h1,B',h5,by omega,λe2=>by rw [h6.sz];exact h4 (by omega)⟩
    by_cases hd:d<up.length
    ·have h7:=hup hd h2;simp only [fV,h7];cases hk:B.k with
     |row rows=>
      have h8:up'=up':=rfl;obtain ⟨gB,szB,tyB,kB⟩:=B;simp only at hk;subst hk;simp only;split
      ·rename_i e0;refine ⟨h1,B',h5,by omega,λe2=>?_⟩;rw [h6.sz];refine h4 ?_;rcases h6.g with e|⟨_,_,e⟩
       ·omega
       ·simp only at e h3⊢;omega
      ·rename_i e0;split
       ·rename_i e1;refine ⟨h1,B',h5,?_,λe2=>?_⟩
        ·rcases h6.g with e|⟨_,_,e⟩<;>simp only at e h3<;>omega
        ·rw [h6.sz];exact h4 e1
       ·trivial
     |box cells=>
      obtain ⟨gB,szB,tyB,kB⟩:=B;simp only at hk;subst hk;refine same ?_;rcases h6.g with e|⟨_,⟨r,hr2⟩,_⟩
      ·exact e
      ·cases hr2
     |deep c9 r9=>
      obtain ⟨gB,szB,tyB,kB⟩:=B;simp only at hk;subst hk;refine same ?_;rcases h6.g with e|⟨_,⟨r,hr2⟩,_⟩
      ·exact e
      ·cases hr2
     |dead=>
      obtain ⟨gB,szB,tyB,kB⟩:=B;simp only at hk;subst hk;refine same ?_;rcases h6.g with e|⟨_,⟨r,hr2⟩,_⟩
      ·exact e
      ·cases hr2
    ·simp only [fV,hno d n (by omega)];refine same ?_;rcases h6.g with e|⟨hd2,_⟩
     ·exact e
     ·omega
   |ptr d n g j o=>
    obtain ⟨h1,B,h2,h3,h4⟩:=h;obtain ⟨B',h5,h6⟩:=hfw h2;have same:B'.g=B.g->cM F (fr'::up') pl w v (.ptr d n g j o):=λe=>⟨h1,B',h5,by omega,λe2=>by rw [h6.sz];exact h4 (by omega)⟩
    by_cases hd:d<up.length
    ·have h7:=hup hd h2;simp only [fV,h7];cases hk:B.k with
     |row rows=>
      obtain ⟨gB,szB,tyB,kB⟩:=B;simp only at hk;subst hk;simp only;split
      ·rename_i e0;refine ⟨h1,B',h5,by omega,λe2=>?_⟩;rw [h6.sz];refine h4 ?_;rcases h6.g with e|⟨_,_,e⟩
       ·omega
       ·simp only at e h3⊢;omega
      ·rename_i e0;split
       ·rename_i e1;refine ⟨h1,B',h5,?_,λe2=>?_⟩
        ·rcases h6.g with e|⟨_,_,e⟩<;>simp only at e h3<;>omega
        ·rw [h6.sz];exact h4 e1
       ·trivial
     |box cells=>
      obtain ⟨gB,szB,tyB,kB⟩:=B;simp only at hk;subst hk;refine same ?_;rcases h6.g with e|⟨_,⟨r,hr2⟩,_⟩
      ·exact e
      ·cases hr2
     |deep c9 r9=>
      obtain ⟨gB,szB,tyB,kB⟩:=B;simp only at hk;subst hk;refine same ?_;rcases h6.g with e|⟨_,⟨r,hr2⟩,_⟩
      ·exact e
      ·cases hr2
     |dead=>
      obtain ⟨gB,szB,tyB,kB⟩:=B;simp only at hk;subst hk;refine same ?_;rcases h6.g with e|⟨_,⟨r,hr2⟩,_⟩
      ·exact e
      ·cases hr2
    ·simp only [fV,hno d n (by omega)];refine same ?_;rcases h6.g with e|⟨hd2,_⟩
     ·exact e
     ·omega
   |rp row o=>exact h
   |fn f caps=>
    simp only [fV];split
    ·rename_i hc;obtain ⟨vals,h1,h2,h3⟩:=h;refine ⟨vals,h1,h2,λi u c hu hcc=>?_⟩;have h4:=h3 i u c hu hcc;cases c with
     |p x=>exact h4
     |ptr d n g=>
      have hmem:=aC hcc;have hne:=zamK.1 hc _ hmem;obtain ⟨h0,B,h5,h6,h7⟩:=h4;obtain ⟨B',h8,h9⟩:=hfw h5;have e:B'.g=B.g:=by
       rcases h9.g with e|⟨hd,⟨r,hr2⟩,_⟩
       ·exact e
       ·have h10:=hup hd h5;obtain ⟨gB,szB,tyB,kB⟩:=B;simp only at hr2;subst hr2;simp only [h10] at hne;cases hne
      exact ⟨h0,B',h8,by omega,λe2=>h7 (by omega)⟩
     |rp row=>exact h4
    ·trivial
   |sub d n g j o m esz=>trivial
   |nfn=>exact h
   |u=>trivial
  refine ⟨⟨⟨λd n j b s h=>?_,hm.inj,λd n B' hB'=>?_,hm.fsz,hm.fix⟩,λn v hv=>?_,hr.size,hr.defers,hr.low⟩,⟨Step.refl ..,by simp,λd n b hb=>?_,λd n j b s h=> .inl ⟨d,n,j,s,h⟩⟩⟩
  ·obtain ⟨h1,h2,h3,B,h4⟩:=hm.live d n j b s h;obtain ⟨B',h5,_⟩:=hfw h4;exact ⟨h1,h2,h3,B',h5⟩
  ·obtain ⟨B,h1,h2⟩:=hbw hB';have hb:=hm.blk d n B h1;unfold zj at hb⊢;cases hk:B.k with
   |box cells=>
    rw [hk] at hb;rw [h2.box cells hk];simp only;obtain ⟨b,us,g1,g2,g3,g4⟩:=hb;refine ⟨b,us,by rw [zamV];exact g1,by rw [h2.ty];exact g2,⟨by simp [g3.1],λi u c hu hc=>?_⟩,λc hc=>?_⟩
    ·simp only [zamS,zD] at hc;obtain ⟨c',hc',rfl⟩:=hc;obtain ⟨g5,g6⟩:=g3.2 i u c' hu hc';exact ⟨hcell g5,g6.imp (λe=>by subst e;rfl) id⟩
    ·obtain ⟨c',hc',rfl⟩:=List.mem_map.1 hc;obtain ⟨f,hf,hmem⟩:=pI h1;have h3:=zamK.1 (zamK.1 hall f hf) _ hmem;simp only [hk] at h3;exact A7 (g4 c' hc') (zamK.1 h3 _ hc)
   |row rows=>
    rw [hk] at hb;rw [h2.row rows hk];simp only;rw [h2.sz,h2.ty];exact hb
   |deep c rs=>
    rw [hk] at hb;rw [h2.deep c rs hk];simp only;rw [h2.sz,h2.ty];exact hb
   |dead=>
    rw [hk] at hb;rw [h2.dead hk];exact hb
  ·simp only at hv;rw [pH] at hv;obtain ⟨x,hx,rfl⟩:=zD.1 hv;exact eD (λu c _ h=>hcell h) (λc h=>by subst h;rfl) (hr.tmps n x hx)
  ·have hb:zA d n up=some b:=hb;have hlt:=zO hb;refine ⟨xO up b,(kI _ d n up).trans (by rw [hb];rfl),λe=>⟨?_,Ext.refl _,(qW hlt b).sz⟩⟩;rcases (qW hlt b).g with e1|⟨_,_,e1⟩<;>omega
 ·exact ⟨hr,KeepU.refl⟩
theorem yF (hr:Rel F N0 T pl st a w) (keep:List Nat):∃pl',Rel F N0 T pl' (st.norm0 keep) a w/\Keep F st.up (st.norm0 keep).up pl pl' w w:=by
 obtain ⟨pl',h1,h2,h3⟩:=CX hr.mem (st.keepB keep);refine ⟨pl',⟨h1,λn v hv=>?_,hr.size,hr.defers,hr.low⟩,h2⟩;have:=pG (λn=>AL st.up.length st.fr (st.keepB keep) (st.eval (.t n))) n keep hv;subst this;refine h3 ?_;simp only [St.eval];split
 ·exact hr.tmps n _ ‹_›
 ·trivial
theorem sS (hr:Rel F N0 T pl st a w) (keep:List Nat):∃pl',Rel F N0 T pl' (st.norm keep) a w/\KeepU st.up (st.norm keep).up pl pl' w w:=by
 obtain ⟨pl',h1,h2⟩:=yF hr keep;obtain ⟨h3,h4⟩:=wZ h1;exact ⟨pl',h3,h2.u.trans h4⟩
end
section
variable {P:Program} {F F':Nat->Prop} {G:Nat->Option Obj} {N0:Base G} {T:Nat} {pl pl' pl0:Pl} {st st':St} {a:Act} {w w' w0:World} {fs fs':List Frame} {fr f':Frame} {up up' up0:List Frame} {Q:Exit->Act->World->Prop}
theorem dU (h:Keep F (fr::up) (f'::up') pl pl' w w'):Keep F up up' pl pl' w w':=by
 have hl:up'.length=up.length:=by simpa using h.later.len
 refine ⟨h.step,hl,λd n b hb=>?_,h.later.new⟩;have hd:=zO hb;obtain ⟨b',h1,h2,h3⟩:=h.later.blk d n b (by simp [zA,Nat.ne_of_lt hd,hb]);exact ⟨b',by rw [<-hl] at hd;simpa [zA,Nat.ne_of_lt hd] using h1,h2,h3⟩
theorem kJ (dst:Option Nat) (v:AV) (t:List (Nat×AV)) (n:Nat):zE n (eF t dst v)=if dst=some n then some v else zE n t:=by
 cases dst with
 |none=>simp [eF]
 |some d=>simp [eF,zE]
theorem jG (hr:Rel F N0 T pl st a w) {v:AV} {u:Value} (hp:Post F N0 pl st w v st' u w') {dst:Option Nat} (hd:∀d,dst=some d->d<T):
  ∃pl',Rel F N0 T pl' {st' with t:=eF st'.t dst v} (a.put dst u) w'/\Keep F (st.fr::st.up) (st'.fr::st'.up) pl pl' w w':=by
 obtain ⟨⟨pl',h1,h2,h3⟩,h4⟩:=hp;refine ⟨pl',⟨h2,λn x hx=>?_,?_,?_,zU hr.low h3.step.size⟩,h3⟩
 ·rw [kJ] at hx;split at hx
  ·rename_i e;subst e;cases hx;have hn:=hd n rfl;have:(a.put (some n) u).tmps.getD n undef=u:=by
    simp [Act.put,hr.size,hn]
   rw [this];exact h1
  ·rename_i e;rw [h4] at hx;have:(a.put dst u).tmps.getD n undef=a.tmps.getD n undef:=by
    cases dst with
    |none=>rfl
    |some d=>
     have hne:d≠n:=λh=>e (by rw [h])
     simp [Act.put,Array.getD_eq_getD_getElem?,Array.getElem?_setIfInBounds,hne]
   rw [this];exact h3.repA (hr.tmps n x hx)
 ·cases dst<;>simp [Act.put,hr.size]
 ·cases dst<;>simp [Act.put,hr.defers]
structure Inv (F:Nat->Prop) {G:Nat->Option Obj} (N0:Base G) (T:Nat) (up0:List Frame) (pl0:Pl) (w0:World) (pl:Pl) (st:St) (a:Act) (w:World):Prop where
 rel:Rel F N0 T pl st a w
 keep:KeepU up0 st.up pl0 pl w0 w
theorem qX {o:Oper} {next:Act->World->Prop} (h:o.wp P a w next (λ_ _ _=>False)):o.wp P a w next Q:=by
 unfold Oper.wp at*
 generalize (execOp a.eval o).run P w=r at*
 cases r with
 |ok n w'=>
  cases n<;>simp only [Oper.upon] at h⊢<;>first|exact h|skip
  exact h.mono λe w'' he=>by
   cases e with
   |returned v=>exact he
   |panicked c=>exact he.elim
   |outgrown=>obtain ⟨_,_,h⟩:=he;exact h.elim
 |halt x w'=>
  cases x<;>simp only [Oper.upon] at h<;>first|exact h|exact h.elim
theorem nB {run:zo} (hS:eM G P run) {h:Hints} {self:FuncId} {all:Array Oper}:∀(ops:List Oper) (ks:List KOper) {pl:Pl} {st st':St} {a:Act} {w:World},
  (ops.mapM λo=>(dT P h self o).bind λk=>match o.guard with
   |none=>some (⟨o.dst,k,none⟩:KOper)
   |some (j,want)=>((all[j]?).bind (·.dst)).map λt=>⟨o.dst,k,some (t,want)⟩)=some ks->
  (∀o∈ks,∀d,o.dst=some d->d<T)->eI run ks st=some st'->Inv F N0 T up0 pl0 w0 pl st a w->
  (∀pl' a' w',Inv F N0 T up0 pl0 w0 pl' st' a' w'->Q .normal a' w')->wpList P all Q ops a w
 | [],ks,pl,st,st',a,w,hc,hb,he,hi,hQ=>by
  simp only [List.mapM_nil,Option.pure_def,zS] at hc;subst hc;simp only [eI,zS] at he;subst he;exact hQ _ _ _ hi
 |o::ops,ks,pl,st,st',a,w,hc,hb,he,hi,hQ=>by
  simp only [List.mapM_cons,Option.pure_def,Option.bind_eq_bind,zK,zS] at hc;obtain ⟨ko,⟨k,hk,hg⟩,ks',hks,rfl⟩:=hc;simp only [eI,zK] at he;obtain ⟨st1,he1,he2⟩:=he;have rest:∀{pl1:Pl} {a1:Act} {w1:World},Inv F N0 T up0 pl0 w0 pl1 st1 a1 w1->wpList P all Q ops a1 w1:=λhi1=>
   nB hS ops ks' hks (λo ho=>hb o (zamR _ ho)) he2 hi1 hQ
  have hbd:∀d,ko.dst=some d->d<T:=hb ko (zamN ..);have act:∀{v:AV} {st2:St},zB run st (ko.dst.getD 0) k=some (v,st2)->ko.dst=o.dst->st1={st2 with t:=eF st2.t ko.dst v}->o.wp P a w (wpList P all Q ops) Q:=by
   intro v st2 hev hdst hst;refine qX (Cy hS hk hi.rel hev _ λu w' hp=>?_);obtain ⟨pl1,h1,h2⟩:=jG hi.rel hp hbd;rw [hdst] at h1 hst;subst hst;exact rest ⟨h1,hi.keep.trans (dU h2).u⟩
  cases hgd:o.guard with
  |none=>
   rw [hgd] at hg;simp only [zS] at hg;subst hg;simp only [zW,zD] at he1;obtain ⟨⟨v,st2⟩,hev,rfl⟩:=he1;unfold wpList;rw [if_pos (by simp [Region.wanted,hgd])];exact .inl (act hev rfl rfl)
  |some jw=>
   obtain ⟨j,want⟩:=jw;rw [hgd] at hg;simp only [zD] at hg;obtain ⟨t,ht,rfl⟩:=hg;simp only [zW] at he1;split at he1
   ·rename_i x hx;have hrep:=hi.rel.tmps t _ hx;have hval:=mP hrep;have hy:yielded all a.tmps j=some x:=by
     unfold yielded;rw [ht];have:a.tmps[t]?=some (.bool x):=by
      rw [Array.getD_eq_getD_getElem?] at hval;cases hq:a.tmps[t]? with
      |none=>rw [hq] at hval;simp [undef] at hval
      |some q=>rw [hq] at hval;simpa using hval
     simp [this]
    unfold wpList;split at he1
    ·rename_i hxw;subst hxw;simp only [zD] at he1;obtain ⟨⟨v,st2⟩,hev,rfl⟩:=he1;rw [if_pos (by simp [Region.wanted,hgd,hy])];exact .inl (act hev rfl rfl)
    ·rename_i hxw;cases he1;rw [if_neg (by simp [Region.wanted,hgd,hy];exact hxw)];obtain ⟨pl1,h1,h2⟩:=jG (v:= .tup []) (u:=undef) hi.rel ⟨⟨pl,⟨[],rfl,rfl,λi u c hu=>by simp at hu⟩,hi.rel.mem,Keep.refl⟩,rfl⟩ hbd;exact rest ⟨h1,hi.keep.trans (dU h2).u⟩
   ·rename_i hx;have hy:yielded all a.tmps j≠some want:=by
     obtain ⟨us,hu,hl,_⟩:=hi.rel.tmps t _ hx;have hus:us= []:=bR hl;subst hus;unfold yielded;rw [ht];rw [Array.getD_eq_getD_getElem?] at hu;cases hq:a.tmps[t]? with
     |none=>simp [hq]
     |some q=>rw [hq] at hu;simp at hu;subst hu;simp [hq]
    unfold wpList;cases he1;rw [if_neg (by simp [Region.wanted,hgd];exact hy)];obtain ⟨pl1,h1,h2⟩:=jG (v:= .tup []) (u:=undef) hi.rel ⟨⟨pl,⟨[],rfl,rfl,λi u c hu=>by simp at hu⟩,hi.rel.mem,Keep.refl⟩,rfl⟩ hbd;exact rest ⟨h1,hi.keep.trans (dU h2).u⟩
   ·cases he1
end
end Go.Eng
namespace Go.Eng
section
variable {run:zo} {s s1 s' s1' s2 s2':St} {W:List (Nat×Nat)} {dst:Nat}
theorem jH {d n:Nat} {B:Blk} (hd:d<=s.up.length) (p:Nat×Nat):(s.set d n B).get p.1 p.2=if p=(d,n) then some B else s.get p.1 p.2:=by
 unfold St.get;rw [zR,zX _ _ (by simp;omega)];obtain ⟨a,b⟩:=p;by_cases h:a=d/\b=n
 ·obtain ⟨rfl,rfl⟩:=h;simp
 ·rw [if_neg h,if_neg (by simpa using h)]
theorem qY (s:St) (d n:Nat) (B:Blk):(s.set d n B).up.length=s.up.length:=by
 unfold St.set;split
 ·rfl
 ·exact zr _
theorem cJ {d n:Nat} {B:Blk} (h:s.get d n=some B):d<=s.up.length:=by
 have:=zO h;simp at this;omega
structure Agr (W:List (Nat×Nat)) (s s':St):Prop where
 u:s'.up.length=s.up.length
 m:∀p∈W,s'.get p.1 p.2=s.get p.1 p.2
structure Lo (W:List (Nat×Nat)) (s s1 s' s1':St):Prop where
 t:s1.t=s.t
 t':s1'.t=s'.t
 u:s1.up.length=s.up.length
 u':s1'.up.length=s'.up.length
 i:∀p∈W,s1'.get p.1 p.2=s1.get p.1 p.2
 o:∀p,p∉W->s1.get p.1 p.2=s.get p.1 p.2/\s1'.get p.1 p.2=s'.get p.1 p.2
theorem Agr.sub {V:List (Nat×Nat)} (h:Agr W s s') (hv:∀p∈V,p∈W):Agr V s s':=⟨h.u,λp hp=>h.m p (hv p hp)⟩
theorem Lo.refl (h:Agr W s s'):Lo W s s s' s':=⟨rfl,rfl,rfl,rfl,h.m,λ_ _=>⟨rfl,rfl⟩⟩
theorem Lo.agr (h:Lo W s s1 s' s1') (a:Agr W s s'):Agr W s1 s1':=⟨h.u'.trans (a.u.trans h.u.symm),h.i⟩
theorem Lo.trans (h:Lo W s s1 s' s1') (h':Lo W s1 s2 s1' s2'):Lo W s s2 s' s2':=
 ⟨h'.t.trans h.t,h'.t'.trans h.t',h'.u.trans h.u,h'.u'.trans h.u',h'.i,λp hp=>⟨(h'.o p hp).1.trans (h.o p hp).1,(h'.o p hp).2.trans (h.o p hp).2⟩⟩
theorem Lo.set (h:Agr W s s') {d n:Nat} {B:Blk} (hw:(d,n)∈W) (hd:d<=s.up.length):Lo W s (s.set d n B) s' (s'.set d n B):=by
 have hd':d<=s'.up.length:=by rw [h.u];exact hd
 refine ⟨aY _ _ _ _,aY _ _ _ _,qY _ _ _ _,qY _ _ _ _,λp hp=>?_,λp hp=>?_⟩
 ·rw [jH hd,jH hd',h.m p hp]
 ·have hne:p≠(d,n):=λe=>hp (e▸hw)
  rw [jH hd,jH hd',if_neg hne,if_neg hne];exact ⟨rfl,rfl⟩
theorem nC {d n g m:Nat} (ha:Agr W s s') (hs:∀p∈(CV.own d n g m).refs,p∈W):s'.get d n=s.get d n:=ha.m (d,n) (hs _ (zamQ.2 rfl))
theorem nD {d n g j o:Nat} (ha:Agr W s s') (hs:∀p∈(CV.ptr d n g j o).refs,p∈W):s'.get d n=s.get d n:=ha.m (d,n) (hs _ (zamQ.2 rfl))
theorem cV {α β:Type} {f:α->List β} {x:α} {r:List α} {W:List β} (h:∀p∈(x::r).flatMap f,p∈W):(∀p∈f x,p∈W)/\∀p∈r.flatMap f,p∈W:=
 ⟨λp hp=>h p (zamP.2 ⟨x,zamN ..,hp⟩),λp hp=>by
  obtain ⟨y,hy,hp⟩:=zamP.1 hp;exact h p (zamP.2 ⟨y,zamR _ hy,hp⟩)⟩
theorem aE {x:CV}:(AV.c x).refs=x.refs:=by simp [AV.refs,AV.cvs]
theorem lE {c:CV} {y:PV×St} (h:cD s c=some y) (ha:Agr W s s') (hs:∀p∈c.refs,p∈W):∃z,cD s' c=some (y.1,z)/\Lo W s y.2 s' z:=by
 unfold cD at h⊢;split at h
 ·cases h;exact ⟨s',rfl,Lo.refl ha⟩
 ·rename_i d n g m;rw [nC ha hs];split at h
  ·rename_i g' sz ty rows hB;split at h
   ·rename_i hc;cases h;exact ⟨_,by rw [if_pos hc],Lo.set ha (hs _ (zamQ.2 rfl)) (cJ hB)⟩
   ·cases h
  ·cases h
 ·cases h
theorem eN:∀{l:List CV} {s s':St} {y:List PV×St},aP s l=some y->Agr W s s'->(∀p∈l.flatMap CV.refs,p∈W)->∃z,aP s' l=some (y.1,z)/\Lo W s y.2 s' z
 | [],s,s',y,h,ha,_=>by cases h;exact ⟨s',rfl,Lo.refl ha⟩
 |x::r,s,s',y,h,ha,hs=>by
  simp only [aP,zK,zS] at h;obtain ⟨⟨a,s1⟩,h1,⟨b,s2⟩,h2,rfl⟩:=h;obtain ⟨k1,k2⟩:=cV hs;obtain ⟨z1,e1,l1⟩:=lE h1 ha k1;obtain ⟨z2,e2,l2⟩:=eN h2 (l1.agr ha) k2;exact ⟨z2,by simp only [aP,e1,aN,e2],l1.trans l2⟩
theorem eE:∀{l:List (List CV)} {s s':St} {y:List (List PV)×St},zl s l=some y->Agr W s s'->(∀p∈l.flatMap (·.flatMap CV.refs),p∈W)->∃z,zl s' l=some (y.1,z)/\Lo W s y.2 s' z
 | [],s,s',y,h,ha,_=>by cases h;exact ⟨s',rfl,Lo.refl ha⟩
 |x::r,s,s',y,h,ha,hs=>by
  simp only [zl,zK,zS] at h;obtain ⟨⟨a,s1⟩,h1,⟨b,s2⟩,h2,rfl⟩:=h;obtain ⟨k1,k2⟩:=cV hs;obtain ⟨z1,e1,l1⟩:=eN h1 ha k1;obtain ⟨z2,e2,l2⟩:=eE h2 (l1.agr ha) k2;exact ⟨z2,by simp only [zl,e1,aN,e2],l1.trans l2⟩
theorem sT {a:AV} {y:AV×St} (h:bB s a=some y) (ha:Agr W s s') (hs:∀p∈a.refs,p∈W):∃z,bB s' a=some (y.1,z)/\Lo W s y.2 s' z:=by
 cases a with
 |c x=>
  simp only [bB,zD] at h;obtain ⟨⟨p,s1⟩,h1,rfl⟩:=h;obtain ⟨z,e,l⟩:=lE h1 ha (by rw [aE] at hs;exact hs);exact ⟨z,by simp only [bB,e,zamW],l⟩
 |agg cs=>
  simp only [bB,zD] at h;obtain ⟨⟨p,s1⟩,h1,rfl⟩:=h;obtain ⟨z,e,l⟩:=eN h1 ha hs;exact ⟨z,by simp only [bB,e,zamW],l⟩
 |tup vs=>cases h
theorem jI:∀{l:List AV} {s s':St} {y:List AV×St},aV s l=some y->Agr W s s'->(∀p∈l.flatMap AV.refs,p∈W)->∃z,aV s' l=some (y.1,z)/\Lo W s y.2 s' z
 | [],s,s',y,h,ha,_=>by cases h;exact ⟨s',rfl,Lo.refl ha⟩
 |x::r,s,s',y,h,ha,hs=>by
  simp only [aV,zK,zD] at h;obtain ⟨⟨a,s1⟩,h1,⟨b,s2⟩,h2,rfl⟩:=h;obtain ⟨k1,k2⟩:=cV hs;obtain ⟨z1,e1,l1⟩:=sT h1 ha k1;obtain ⟨z2,e2,l2⟩:=jI h2 (l1.agr ha) k2;exact ⟨z2,by simp only [aV,e1,aN,e2,zamW],l1.trans l2⟩
theorem A8 {c:CV} (ha:Agr W s s') (hs:∀p∈c.refs,p∈W):kT s' c=kT s c:=by
 cases c with
 |own d n g m=>simp only [kT];rw [nC ha hs]
 |_=>rfl
theorem pJ (ha:Agr W s s'):∀{l:List CV},(∀p∈l.flatMap CV.refs,p∈W)->eP s' l=eP s l
 | [],_=>rfl
 |x::r,hs=>by
  obtain ⟨k1,k2⟩:=cV hs;simp only [eP,A8 ha k1,pJ ha k2]
theorem uX {c:Cap} (ha:Agr W s s') (hs:∀p∈c.refs,p∈W) (hw:∀p∈c.refs.flatMap s.within,p∈W):eH s' c=eH s c:=by
 cases c with
 |ptr d n g=>
  simp only [eH];rw [show s'.get d n=s.get d n from ha.m (d,n) (hs _ (zamQ.2 rfl))];split
  ·rename_i g' sz ty cells hB;rw [pJ (l:=cells) ha λp hp=>hw p (zamP.2 ⟨(d,n),zamQ.2 rfl,by unfold St.within;simp only [hB];exact hp⟩)]
  ·rfl
 |_=>rfl
theorem iO {α:Type} {f:α->List (Nat×Nat)} {g:Nat×Nat->List (Nat×Nat)} {x:α} {r:List α} {W:List (Nat×Nat)} (h:∀p∈((x::r).flatMap f).flatMap g,p∈W):(∀p∈(f x).flatMap g,p∈W)/\∀p∈(r.flatMap f).flatMap g,p∈W:=by
 rw [List.flatMap_cons,List.flatMap_append] at h;exact ⟨λp hp=>h p (zamU _ hp),λp hp=>h p (zamZ _ hp)⟩
theorem lF (ha:Agr W s s'):∀{l:List Cap},(∀p∈l.flatMap Cap.refs,p∈W)->(∀p∈(l.flatMap Cap.refs).flatMap s.within,p∈W)->cK s' l=cK s l
 | [],_,_=>rfl
 |x::r,hs,hw=>by
  obtain ⟨k1,k2⟩:=cV hs;obtain ⟨w1,w2⟩:=iO hw;simp only [cK,uX ha k1 w1,lF ha k2 w2]
theorem xA {d n g j o m esz:Nat} (ha:Agr W s s') (hs:∀p∈(CV.sub d n g j o m esz).refs,p∈W):s'.subB d n g j o m esz=s.subB d n g j o m esz:=by
 unfold St.subB;rw [show s'.get d n=s.get d n from ha.m (d,n) (hs _ (zamQ.2 rfl))]
theorem sU {c:CV} (ha:Agr W s s') (hs:∀p∈c.refs,p∈W) (hw:∀p∈c.refs.flatMap s.within,p∈W):dW s' c=dW s c:=by
 cases c with
 |own d n g m=>simp only [dW];rw [nC ha hs]
 |sub d n g j o m esz=>simp only [dW];rw [xA ha hs]
 |fn f caps=>simp only [dW];rw [lF (l:=caps) ha hs hw]
 |_=>rfl
theorem sV (ha:Agr W s s'):∀{l:List CV},(∀p∈l.flatMap CV.refs,p∈W)->(∀p∈(l.flatMap CV.refs).flatMap s.within,p∈W)->hO s' l=hO s l
 | [],_,_=>rfl
 |x::r,hs,hw=>by
  obtain ⟨k1,k2⟩:=cV hs;obtain ⟨w1,w2⟩:=iO hw;simp only [hO,sU ha k1 w1,sV ha k2 w2]
theorem A9 {a:AV} (ha:Agr W s s') (hs:∀p∈a.refs,p∈W) (hw:∀p∈a.refs.flatMap s.within,p∈W):fO s' a=fO s a:=by
 cases a with
 |c x=>rw [aE] at hs hw;simp only [fO];rw [sU ha hs hw]
 |agg cs=>simp only [fO];rw [sV (l:=cs) ha hs hw]
 |tup vs=>rfl
theorem pK (ha:Agr W s s'):∀{l:List AV},(∀p∈l.flatMap AV.refs,p∈W)->(∀p∈(l.flatMap AV.refs).flatMap s.within,p∈W)->eQ s' l=eQ s l
 | [],_,_=>rfl
 |x::r,hs,hw=>by
  obtain ⟨k1,k2⟩:=cV hs;obtain ⟨w1,w2⟩:=iO hw;simp only [eQ,A9 ha k1 w1,pK ha k2 w2]
theorem BB {a:AV} (ha:Agr W s s') (hs:∀p∈a.refs,p∈W):eT s' a=eT s a:=by
 unfold eT;split
 ·rw [nC ha (by rw [aE] at hs;exact hs)]
 ·rw [xA ha (by rw [aE] at hs;exact hs)]
 ·rw [nD ha (by rw [aE] at hs;exact hs)]
 ·rfl
theorem yG {a a':AV} {d n:Nat} {q:Option (Nat×Nat)} {B:Blk} (h:eT s a=some (a',d,n,q,B)):(d,n)∈a.refs/\∃B,s.get d n=some B:=by
 unfold eT at h;split at h
 ·split at h
  ·split at h
   ·cases h;rw [aE];exact ⟨zamQ.2 rfl,_, ‹_›⟩
   ·cases h
  ·split at h
   ·cases h;rw [aE];exact ⟨zamQ.2 rfl,_, ‹_›⟩
   ·cases h
  ·cases h
 ·obtain ⟨q2,hq,h⟩:=zD.1 h;cases h;obtain ⟨_,_,_,_,_,hB,_⟩:=gS hq;rw [aE];exact ⟨zamQ.2 rfl,_,hB⟩
 ·split at h
  ·split at h
   ·cases h;rw [aE];exact ⟨zamQ.2 rfl,_, ‹_›⟩
   ·cases h
  ·cases h
 ·cases h
theorem sW (ha:Agr W s s'):∀{l:List AV},(∀p∈l.flatMap AV.refs,p∈W)->dX s' l=dX s l
 | [],_=>rfl
 |x::r,hs=>by
  obtain ⟨k1,k2⟩:=cV hs;simp only [dX,BB ha k1,sW ha k2]
theorem pL:∀{l l':List AV} {d n:Nat} {q:Option (Nat×Nat)} {B:Blk},dX s l=some (l',d,n,q,B)->(d,n)∈l.flatMap AV.refs/\∃B,s.get d n=some B
 | [],l',d,n,q,B,h=>by cases h
 |x::r,l',d,n,q,B,h=>by
  simp only [dX] at h;split at h
  ·rename_i hb;obtain ⟨q,_,h⟩:=zD.1 h;cases h;obtain ⟨h1,h2⟩:=yG hb;exact ⟨zamP.2 ⟨x,zamN ..,h1⟩,h2⟩
  ·obtain ⟨a,_,h⟩:=zK.1 h;obtain ⟨⟨l2,d2,n2,q2,B2⟩,h1,h⟩:=zD.1 h;cases h;obtain ⟨h3,h4⟩:=pL h1;obtain ⟨y,hy,h3⟩:=zamP.1 h3;exact ⟨zamP.2 ⟨y,zamR _ hy,h3⟩,h4⟩
theorem kK {d0 n0 g0:Nat}:∀{l l':List CV} {d n g m:Nat},fP d0 n0 g0 l=some (l',d,n,g,m)->(d,n)∈l.flatMap CV.refs
 | [],l',d,n,g,m,h=>by cases h
 |x::r,l',d,n,g,m,h=>by
  cases x with
  |p x=>
   simp only [fP,zD] at h;obtain ⟨⟨l2,q⟩,h1,h⟩:=h;cases h;exact zamP.2 (by obtain ⟨y,hy,h3⟩:=zamP.1 (kK h1);exact ⟨y,zamR _ hy,h3⟩)
  |own d' n' g' m'=>
   simp only [fP] at h;split at h
   ·cases h;exact zamP.2 ⟨_,zamN ..,zamQ.2 rfl⟩
   ·cases h
  |ptr d' n' g' j' o'=>
   simp only [fP] at h;split at h
   ·obtain ⟨⟨l2,q⟩,h1,h⟩:=zD.1 h;cases h;exact zamP.2 (by obtain ⟨y,hy,h3⟩:=zamP.1 (kK h1);exact ⟨y,zamR _ hy,h3⟩)
   ·cases h
  |_=>cases h
theorem kL (ha:Agr W s s') {p:Nat×Nat} (hp:p∈W):s'.within p=s.within p:=by
 unfold St.within;rw [ha.m p hp]
theorem kM {a a':AV} {q q2:Nat×Nat×Blk} (h:iV s a=some (a',q,q2)):((q.1,q.2.1)∈a.refs/\(q2.1,q2.2.1)∈a.refs.flatMap s.within)/\(∃B,s.get q.1 q.2.1=some B)/\∃B,s.get q2.1 q2.2.1=some B:=by
 unfold iV at h;split at h
 ·rename_i d n g;split at h
  ·rename_i g' sz ty cells hB;obtain ⟨⟨l,d2,n2,g2,m2⟩,h1,h⟩:=zK.1 h;simp only at h;split at h
   ·rename_i hB2;split at h
    ·cases h;refine ⟨⟨by rw [aE];exact zamQ.2 rfl,zamP.2 ⟨(d,n),by rw [aE];exact zamQ.2 rfl,?_⟩⟩,⟨_,hB⟩,⟨_,hB2⟩⟩;unfold St.within;simp only [hB];exact kK h1
    ·cases h
   ·cases h
  ·cases h
 ·cases h
theorem BC {a a':AV} {q q2:Nat×Nat×Blk} (h:iV s a=some (a',q,q2)) (ha:Agr W s s') (hs:∀p∈a.refs,p∈W) (hs2:∀p∈a.refs.flatMap s.within,p∈W):iV s' a=some (a',q,q2):=by
 have hm:=(kM h).1;unfold iV at h⊢;split at h
 ·rename_i d n g;rw [nD ha (by rw [aE] at hs;exact hs)];split at h
  ·rename_i g' sz ty cells hB;obtain ⟨⟨l,d2,n2,g2,m2⟩,h1,h⟩:=zK.1 h;simp only at h;have hg:s'.get d2 n2=s.get d2 n2:=by
    have h2:=h;split at h2
    ·split at h2
     ·cases h2;exact ha.m _ (hs2 _ hm.2)
     ·cases h2
    ·cases h2
   simp only [h1,aN,hg];exact h
  ·cases h
 ·cases h
theorem nE {D d:Nat} {fr:Frame} {c:CV} (h:isP c=true):bA D d fr c=c:=by
 cases c<;>first|rfl|cases h
theorem jJ {D d:Nat} {fr:Frame} {v:AV} (h:v.cvs.all isP=true):v.map (bA D d fr)=v:=by
 have one:∀l:List CV,l.all isP=true->l.map (bA D d fr)=l:=λl hl=>by
  conv=>rhs;rw [<-List.map_id l]
  exact List.map_congr_left λc hc=>nE (zamK.1 hl c hc)
 cases v with
 |c x=>simp only [AV.cvs,zanC,List.all_nil,Bool.and_true] at h;simp only [AV.map,nE h]
 |agg cs=>simp only [AV.map,one cs h]
 |tup vs=>
  simp only [AV.map,AV.tup.injEq]
  conv=>rhs;rw [<-List.map_id vs]
  refine List.map_congr_left λp hp=>?_
  obtain ⟨g,cs⟩:=p;simp only [id,zamL,true_and];refine one cs (zamK.2 λc hc=>zamK.1 h c ?_);exact zamP.2 ⟨_,hp,hc⟩
theorem yH {d n:Nat} {q:Option (Nat×Nat)} {B:Blk} {r:Res} {y:AV×St} (h:fU s dst d n q B r=some y) (ha:Agr W s s') (hw:(d,n)∈W):∃z,fU s' dst d n q B r=some (y.1,z)/\Lo W s y.2 s' z:=by
 unfold fU at h⊢;cases q with
 |some t=>
  obtain ⟨j,o⟩:=t;simp only at h⊢;split at h
  ·rename_i fr' hup;rw [show s'.get d n=s.get d n from ha.m (d,n) hw];split at h
   ·rename_i sz' ty' inner' g sz ty cols rows inner hB' hB0 hk;split at h
    ·rename_i e he;split at h
     ·rename_i hc;cases h;refine ⟨_,?_,Lo.set ha hw (cJ hB0)⟩;rw [if_pos hc,jJ hc.2.2.2.1,jJ hc.2.2.2.1]
     ·cases h
    ·cases h
   ·cases h
  ·cases h
 |none=>
 simp only at h⊢;split at h
 ·rename_i fr' hup;rw [show s'.get d n=s.get d n from ha.m (d,n) hw];split at h
  ·rename_i B' B0 hB' hB0;split at h
   ·rename_i hc;cases h;refine ⟨_,?_,Lo.set ha hw (cJ hB0)⟩;rw [if_pos hc,jJ hc.2.2.2.2.1,jJ hc.2.2.2.2.1]
   ·cases h
  ·cases h
 ·cases h
theorem yI {q q2:Nat×Nat×Blk} {r:Res} {y:AV×St} (h:kU s q q2 r=some y) (ha:Agr W s s') (hw:(q.1,q.2.1)∈W) (hw2:(q2.1,q2.2.1)∈W):∃z,kU s' q q2 r=some (y.1,z)/\Lo W s y.2 s' z:=by
 unfold kU at h⊢;split at h
 ·rename_i fr' hup;rw [show s'.get q.1 q.2.1=s.get q.1 q.2.1 from ha.m _ hw,show s'.get q2.1 q2.2.1=s.get q2.1 q2.2.1 from ha.m _ hw2];split at h
  ·rename_i sz ty cells g1 sz2 ty2 rows B0 R0 e1 e2 e3 e4;split at h
   ·rename_i hc;obtain ⟨l,hl,h⟩:=zD.1 h;cases h;have l1:=Lo.set (B:=⟨R0.g+1,sz2,ty2,.row rows⟩) ha hw2 (cJ e4);refine ⟨_,?_,l1.trans (Lo.set (l1.agr ha) hw (by rw [qY];exact cJ e3))⟩;simp only [if_pos hc,hl,zamW]
   ·cases h
  ·cases h
 ·cases h
theorem CZ {a:AV} {n:Nat} (ha:Agr W s s') (hs:∀p∈a.refs,p∈W):s'.read a n=s.read a n:=by
 unfold St.read;split
 ·rw [nD ha (by rw [aE] at hs;exact hs)]
 ·rfl
 ·rfl
theorem xB {a:AV} (ha:Agr W s s') (hs:∀p∈a.refs,p∈W):s'.rows a=s.rows a:=by
 unfold St.rows;split
 ·rfl
 ·rfl
 ·rw [nC ha (by rw [aE] at hs;exact hs)]
 ·rfl
theorem BD {a:AV} (ha:Agr W s s') (hs:∀p∈a.refs,p∈W):s'.blk a=s.blk a:=by
 unfold St.blk;split
 ·rw [nD ha (by rw [aE] at hs;exact hs)]
 ·rfl
 ·rfl
theorem kN {a:AV} {xs:List CV} {y:St} (h:s.write a xs=some y) (ha:Agr W s s') (hs:∀p∈a.refs,p∈W) (hx:∀p∈xs.flatMap CV.refs,p∈W):∃z,s'.write a xs=some z/\Lo W s y s' z:=by
 unfold St.write at h⊢;split at h
 ·rename_i d m g j o;rw [aE] at hs;have hw:(d,m)∈W:=hs _ (zamQ.2 rfl);simp only [nD ha hs];split at h
  ·rename_i g' sz ty cells hB;split at h
   ·rename_i hc;cases h;exact ⟨_,by rw [if_pos hc],Lo.set ha hw (cJ hB)⟩
   ·cases h
  ·rename_i hB;obtain ⟨⟨ys,s1⟩,h1,h⟩:=zK.1 h;obtain ⟨z,e,l⟩:=eN h1 ha hx;simp only at h;simp only [e,aN,show z.get d m=s1.get d m from l.i (d,m) hw];split at h
   ·rename_i g' sz ty rows hB2;split at h
    ·rename_i hg;split at h
     ·rename_i e0 he0;split at h
      ·rename_i hc;cases h;exact ⟨_,by rw [if_pos hg,if_pos hc],l.trans (Lo.set (l.agr ha) hw (cJ hB2))⟩
      ·cases h
     ·cases h
    ·cases h
   ·cases h
  ·rename_i g' sz ty cols rows hB;obtain ⟨⟨ys,q⟩,h1,h⟩:=zK.1 h;simp only [h1,aN];simp only at h;split at h
   ·rename_i hg;split at h
    ·rename_i e0 he0;split at h
     ·rename_i hc;split at h
      ·cases h;exact ⟨_,by rw [if_pos hg,if_pos hc],Lo.set ha hw (cJ hB)⟩
      ·rename_i k esz ety d2 n2 g2 m2;have hw2:(d2,n2)∈W:=by
        obtain ⟨_,_,k3⟩:=qO h1;obtain ⟨_,_,k4⟩:=k3 _ _ _ _ _ _ _ rfl;exact hx _ (zamP.2 ⟨_,aC k4,zamQ.2 rfl⟩)
       split at h
       ·rename_i g2' esz' ety' rows2 hR hek;split at h
        ·rename_i hc2;cases h;have l1:=Lo.set (B:=⟨g2+1,esz,ety,.dead⟩) ha hw2 (cJ hR);refine ⟨_,?_,l1.trans (Lo.set (l1.agr ha) hw (by rw [qY];exact cJ hB))⟩;rw [if_pos hg,if_pos hc,show s'.get d2 n2=s.get d2 n2 from ha.m (d2,n2) hw2,hR,hek];simp only;rw [if_pos hc2]
        ·cases h
       ·cases h
     ·cases h
    ·cases h
   ·cases h
  ·cases h
 ·cases h
theorem dH {n sz ty:Nat} {k:BK} (ha:Agr W s s') (hw:(s.up.length,n)∈W):(s'.new n sz ty k).1=(s.new n sz ty k).1/\Lo W s (s.new n sz ty k).2 s' (s'.new n sz ty k).2:=by
 have hf:s'.fresh n=s.fresh n:=by
  have h1:∀st:St,st.fresh n=match st.get st.up.length n with|some B=>B.g+1|none=>0:=λst=>by
   unfold St.fresh St.get zA;simp;rfl
  rw [h1,h1,ha.u,ha.m _ hw]
 have hn:∀st:St,(st.new n sz ty k).2=st.set st.up.length n ⟨st.fresh n,sz,ty,k⟩:=λst=>by
  unfold St.new St.set;simp
 refine ⟨by simp only [St.new,hf,ha.u],?_⟩;rw [hn,hn,hf,ha.u];exact Lo.set ha hw (zH _)
end
section
variable {run:zo} {s s1 s' s1' s2 s2':St} {W:List (Nat×Nat)} {dst:Nat}
theorem mA {xs:List KX} {U:List Nat} (ht:∀x:KX,(∀n∈x.uses,n∈U)->s'.eval x=s.eval x) (h:∀n∈xs.flatMap KX.uses,n∈U):xs.map s'.eval=xs.map s.eval:=
 List.map_congr_left λx hx=>ht x λn hn=>h n (zamP.2 ⟨x,hx,hn⟩)
theorem yJ (cs:List Cap):(cs.map Cap.av).flatMap AV.refs=cs.flatMap Cap.refs:=by
 induction cs with
 |nil=>rfl
 |cons c r ih=>
  simp only [zanE,List.flatMap_cons,ih];cases c<;>simp [Cap.av,Cap.refs,AV.refs,AV.cvs,CV.refs]
theorem gU {f:KX} {g:FuncId} {cs:List Cap} {args:List KX} (hf:s.eval f= .c (.fn g cs)):∀p∈(args.map s.eval++cs.map Cap.av).flatMap AV.refs,p∈(f::args).flatMap s.refs:=by
 intro p hp;rw [List.flatMap_append,yJ] at hp;rcases List.mem_append.1 hp with hp|hp
 ·obtain ⟨v,hv,hp⟩:=zamP.1 hp;obtain ⟨x,hx,rfl⟩:=List.mem_map.1 hv;exact zamP.2 ⟨x,zamR _ hx,hp⟩
 ·refine zamP.2 ⟨f,zamN ..,?_⟩;simp only [St.refs,hf,aE,CV.refs];exact hp
theorem BE {z:List CV}:∀{l l':List (Nat×Nat×AV)},l=l'->iT z l=iT z l':=λh=>by rw [h]
theorem pM {sz:Nat}:∀{l:List (Nat×AV)} {rows rows':List (List CV)},cL rows sz l=some rows'->∀p∈rows'.flatMap (·.flatMap CV.refs),p∈rows.flatMap (·.flatMap CV.refs)\/p∈l.flatMap λq=>q.2.refs
 | [],rows,rows',h,p,hp=>by cases h;exact .inl hp
 |(j,a)::r,rows,rows',h,p,hp=>by
  have key:(if a.cvs.length=sz/\j<rows.length/\a.cvs.all (·.known)=true then cL (rows.set j a.cvs) sz r else none)=some rows':=by
   cases a with
   |tup vs=>cases h
   |_=>exact h
  split at key
  ·rcases pM key p hp with h1|h1
   ·obtain ⟨l,hl,hp⟩:=zamP.1 h1;rcases List.mem_or_eq_of_mem_set hl with hl|rfl
    ·exact .inl (zamP.2 ⟨l,hl,hp⟩)
    ·exact .inr (zamP.2 ⟨(j,a),zamN ..,hp⟩)
   ·obtain ⟨q,hq,hp⟩:=zamP.1 h1;exact .inr (zamP.2 ⟨q,zamR _ hq,hp⟩)
  ·cases key
theorem sX {fr fr':Frame} {D d:Nat} {r:Res} (hs:jW r=true) (hf:bD fr' (d*64+40)=bD fr (d*64+40)):r.v.map (bA D d fr')=r.v.map (bA D d fr):=by
 simp only [jW,zL] at hs;have h0:∀c:CV,CB c=true->bA D d fr' c=bA D d fr c:=λc hc=>by
  unfold CB at hc;split at hc
  ·simp only [bA,Nat.add_zero,hf]
  ·simp only [bA,Nat.add_zero,hf]
  ·cases hc
  ·cases hc
  ·rename_i n1 n2 n3 n4;cases c<;>first|rfl|exact (n3 _ _ _ _ rfl).elim|exact (n4 _ _ _ _ _ rfl).elim
 have one:∀l:List CV,l.all CB=true->l.map (bA D d fr')=l.map (bA D d fr):=λl hl=>List.map_congr_left λc hc=>h0 c (zamK.1 hl c hc)
 have hv:=hs.2
 revert hv
 cases r.v with
 |c x=>intro hv;simp only [AV.cvs,zanC,List.all_nil,Bool.and_true] at hv;simp only [AV.map,h0 x hv]
 |agg cs=>intro hv;simp only [AV.map,one cs hv]
 |tup vs=>
  intro hv;simp only [AV.map,AV.tup.injEq];refine List.map_congr_left λp hp=>?_
  obtain ⟨g,cs⟩:=p;simp only [zamL,true_and];exact one cs (zamK.2 λc hc=>zamK.1 hv c (zamP.2 ⟨_,hp,hc⟩))
theorem pN (st:St) (n:Nat):bD st.fr n=match st.get st.up.length n with|some B=>B.g+1|none=>0:=by
 unfold bD St.get zA;simp;rfl
theorem yK {r:Res} (hs:jW r=true) (ha:Agr W s s') (hw:(s.up.length,dst*64+40)∈W):
  r.v.map (bA s'.up.length dst s'.fr)=r.v.map (bA s.up.length dst s.fr)/\Lo W s {s with fr:=aU dst r.rows 0 s.fr} s' {s' with fr:=aU dst r.rows 0 s'.fr}:=by
 have hf:bD s'.fr (dst*64+40)=bD s.fr (dst*64+40):=by
  rw [pN,pN,ha.u,ha.m _ hw]
 refine ⟨by rw [ha.u];exact sX hs hf,?_⟩;simp only [jW,zL] at hs;have h1:=hs.1;split at h1
 ·rename_i he;rw [he];exact Lo.refl ha
 ·rename_i B he;rw [he];have hn:∀st:St,({st with fr:=aU dst [B] 0 st.fr}:St)=st.set st.up.length (dst*64+40) {B with g:=bD st.fr (dst*64+40)}:=λst=>by
   simp [aU,St.set]
  rw [hn,hn,hf,ha.u];exact Lo.set ha hw (zH _)
 ·cases h1
theorem jK {c:CV} {y:PV×St} (h:cD s c=some y) {p:Nat×Nat} (hp:y.2.within p≠ []):y.2.within p=s.within p:=by
 unfold cD at h;split at h
 ·cases h;rfl
 ·rename_i d n g m;split at h
  ·rename_i g' sz ty rows hB;split at h
   ·cases h;unfold St.within at hp⊢;simp only at hp⊢;rw [jH (cJ hB)] at hp⊢;by_cases e:p=(d,n)
    ·rw [if_pos e] at hp;exact absurd rfl hp
    ·rw [if_neg e]
   ·cases h
  ·cases h
 ·cases h
theorem jL:∀{l:List CV} {s:St} {y:List PV×St},aP s l=some y->∀{p:Nat×Nat},y.2.within p≠ []->y.2.within p=s.within p
 | [],s,y,h,p,hp=>by cases h;rfl
 |x::r,s,y,h,p,hp=>by
  simp only [aP,zK,zS] at h;obtain ⟨⟨a,s1⟩,h1,⟨b,s2⟩,h2,rfl⟩:=h;have e2:=jL h2 hp;simp only at e2 hp⊢;rw [e2] at hp⊢;exact jK h1 hp
theorem iC:∀{l:List AV} {s:St} {y:List AV×St},aV s l=some y->∀{p:Nat×Nat},y.2.within p≠ []->y.2.within p=s.within p
 | [],s,y,h,p,hp=>by cases h;rfl
 |x::r,s,y,h,p,hp=>by
  simp only [aV,zK,zD] at h;obtain ⟨⟨a,s1⟩,h1,⟨b,s2⟩,h2,rfl⟩:=h;have e2:=iC h2 hp;simp only at e2 hp⊢;rw [e2] at hp⊢;cases x with
  |c x=>
   simp only [bB,zD,Prod.exists,zamL] at h1;obtain ⟨q,z,h3,_,rfl⟩:=h1;exact jK h3 hp
  |agg cs=>
   simp only [bB,zD,Prod.exists,zamL] at h1;obtain ⟨q,z,h3,_,rfl⟩:=h1;exact jL h3 hp
  |tup vs=>cases h1
theorem eO {W:List (Nat×Nat)} {base:Nat}:∀(l:List (Nat×TypeId×Nat)) (i:Nat) (cs:List CV) (s s':St),Agr W s s'->(∀j,i<=j->j<i+l.length->(s.up.length,base+j)∈W)->(∀p∈cs.flatMap CV.refs,p∈W)->
  (zZ base l i cs s').1=(zZ base l i cs s).1/\Lo W s (zZ base l i cs s).2 s' (zZ base l i cs s').2/\∀p∈(zZ base l i cs s).1.flatMap CV.refs,p∈W
 | [],i,cs,s,s',ha,hs,hx=>⟨rfl,Lo.refl ha,hx⟩
 |(col,ty,sz)::r,i,cs,s,s',ha,hs,hx=>by
  unfold zZ;by_cases hn:xN (cs[col]?)=true
  ·have hm:=hs i (zH _) (by simp);obtain ⟨e,l1⟩:=dH (n:=base+i) (sz:=sz) (ty:=ty) (k:= .row []) ha hm;have hf:s'.fresh (base+i)=s.fresh (base+i):=by simp only [St.new,CV.ptr.injEq] at e;exact e.2.2.1
   rw [if_pos hn,if_pos hn,hf,ha.u];obtain ⟨q1,q2,q3⟩:=eO (base:=base) r (i+1) (cs.set col (.own s.up.length (base+i) (s.fresh (base+i)) 0)) (s.new (base+i) sz ty (.row [])).2 (s'.new (base+i) sz ty (.row [])).2 (l1.agr ha) (λj h1 h2=>by rw [l1.u];exact hs j (by omega) (by simp;omega)) (λp hp=>by
    obtain ⟨c,hc,hp⟩:=zamP.1 hp;rcases List.mem_or_eq_of_mem_set hc with hc|rfl
    ·exact hx p (zamP.2 ⟨c,hc,hp⟩)
    ·simp only [CV.refs,zamQ] at hp;rw [hp];exact hm)
   exact ⟨q1,l1.trans q2,q3⟩
  ·rw [if_neg hn,if_neg hn];exact eO r (i+1) cs s s' ha (λj h1 h2=>hs j (by omega) (by simp;omega)) hx
theorem nF {cols:List (Nat×Nat×TypeId)}:∀{xs:List CV} {o:Nat} {ys:List PV} {k esz ety d n g m:Nat},qJ cols o xs=some (ys,some (k,esz,ety,d,n,g,m))->(d,n)∈xs.flatMap CV.refs
 | [],o,ys,k,esz,ety,d,n,g,m,h=>by simp [qJ] at h
 |x::r,o,ys,k,esz,ety,d,n,g,m,h=>by
  simp only [qJ,zK,Prod.exists] at h;obtain ⟨l,q1,h1,h⟩:=h;split at h
  ·simp only [zS,zamL] at h;obtain ⟨_,rfl⟩:=h;exact zamP.2 (let ⟨c,h2,h3⟩:=zamP.1 (nF h1);⟨c,zamR _ h2,h3⟩)
  ·simp only [zS,zamL] at h;obtain ⟨_,rfl⟩:=h;exact zamP.2 (let ⟨c,h2,h3⟩:=zamP.1 (nF h1);⟨c,zamR _ h2,h3⟩)
  ·simp only [zS,zamL] at h;obtain ⟨_,_,_,_,rfl,rfl,_⟩:=h;exact zamP.2 ⟨_,zamN ..,by simp [CV.refs]⟩
  ·cases h
theorem BF {s s1 s':St} {W:List (Nat×Nat)} {d n g m ty sz bytes:Nat} {y v:AV} (h:oK s d n g m ty sz bytes y=some (v,s1)) (hw:Agr W s s') (hu:s'.up.length=s.up.length) (hm:(d,n)∈W) (hy:∀p∈y.refs,s'.get p.1 p.2=s.get p.1 p.2)
  (hi:∀q∈y.refs,∀p∈s.within q,p∈W):∃z,oK s' d n g m ty sz bytes y=some (v,z)/\Lo W s s1 s' z:=by
 unfold oK at h⊢;split at h
 ·rename_i d2 n2 g2 m2;have hr2:(d2,n2)∈(AV.c (.own d2 n2 g2 m2)).refs:=by simp [aE,CV.refs]
  rw [show s'.get d n=s.get d n from hw.m _ hm,show s'.get d2 n2=s.get d2 n2 from hy _ hr2];split at h
  ·rename_i g' sz' ty' cols rows g2' sz2 ty2 cells hB hY;simp only;split at h
   ·rename_i hc;rw [if_pos hc];obtain ⟨⟨ys,q⟩,hq,h⟩:=zK.1 h;rw [hq];simp only [aN] at h⊢;cases q with
    |none=>
     simp only at h⊢;cases h;exact ⟨_,rfl,Lo.set hw hm (cJ hB)⟩
    |some t=>
     obtain ⟨k,esz,ety,d3,n3,g3,m3⟩:=t;simp only at h⊢;have h3:(d3,n3)∈W:=hi _ hr2 _ (by unfold St.within;simp only [hY];exact nF hq);rw [show s'.get d3 n3=s.get d3 n3 from hw.m _ h3];split at h
     ·rename_i g3' esz' ety' rows3 hR;split at h
      ·rename_i hc3;rw [if_pos hc3];cases h;have l1:=Lo.set (B:=⟨g3+1,esz,ety,.dead⟩) hw h3 (cJ hR);have hle:d<=(s.set d3 n3 ⟨g3+1,esz,ety,.dead⟩).up.length:=by rw [l1.u];exact cJ hB
       exact ⟨_,rfl,l1.trans (Lo.set (l1.agr hw) hm hle)⟩
      ·cases h
     ·cases h
   ·cases h
  ·cases h
 ·cases h
theorem DL {k:KOp} {v:AV} (h:zB run s dst k=some (v,s1)) (ht:∀x:KX,(∀n∈x.uses,n∈k.uses)->s'.eval x=s.eval x) (ha:Agr (rtO s k++wtO s dst k) s s'):
  ∃z,zB run s' dst k=some (v,z)/\Lo (wtO s dst k) s s1 s' z:=by
 have hw:Agr (wtO s dst k) s s':=ha.sub λp hp=>zamZ _ hp
 have hr:Agr (rtO s k) s s':=ha.sub λp hp=>zamU _ hp
 have self:∀{A:List Nat},∀n∈A,n∈A:=λn h=>h
 have lft:∀{A B:List Nat},∀n∈A,n∈A++B:=λn h=>zamU _ h
 have rgt:∀{A B:List Nat},∀n∈B,n∈A++B:=λn h=>zamZ _ h
 have hu:s'.up.length=s.up.length:=ha.u;cases k with
 |mv x=>simp only [zB] at h⊢;cases h;exact ⟨s',by rw [ht x self],Lo.refl hw⟩
 |mvR x=>
  simp only [zB] at h⊢;rw [ht x self];split at h
  ·rename_i d n g m hx;have hin:(d,n)∈wtO s dst (.mvR x):=zamR _ (by rw [St.refs,hx,aE];simp [CV.refs]);rw [hu,show s'.get d n=s.get d n from hw.m _ hin];split at h
   ·rename_i hc;rw [if_pos hc];split at h
    ·rename_i g' sz ty k hB;split at h
     ·rename_i hg;rw [if_pos hg];cases h;have l1:=Lo.set (B:=⟨g+1,sz,ty,.dead⟩) hw hin (cJ hB);have hup:(s.set d n ⟨g+1,sz,ty,.dead⟩).up.length=s.up.length:=l1.u;obtain ⟨e2,l2⟩:=dH (n:=dst*64) (sz:=sz) (ty:=ty) (k:=k) (l1.agr hw) (by rw [hup];exact zamN ..);simp only [St.new,CV.ptr.injEq] at e2;exact ⟨_,by rw [e2.2.2.1],l1.trans l2⟩
     ·cases h
    ·cases h
   ·rename_i hc;rw [if_neg hc];cases h;exact ⟨s',rfl,Lo.refl hw⟩
  ·cases h;rename_i hno;exact ⟨s',rfl,Lo.refl hw⟩
 |nil ty sz cols=>
  simp only [zB] at h⊢;cases h;obtain ⟨e,l⟩:=dH (n:=dst*64) (sz:=sz) (ty:=ty) (k:=mH cols []) hw (zamQ.2 rfl);simp only [St.new,CV.ptr.injEq] at e;exact ⟨_,by rw [hu,e.2.2.1],l⟩
 |pick c a b=>
  simp only [zB] at h⊢;rw [ht c (λn h=>lft _ (lft n h)),ht a (λn h=>lft _ (rgt n h)),ht b (λn h=>rgt _ h)];split at h
  ·cases h;exact ⟨s',rfl,Lo.refl hw⟩
  ·cases h
 |box ty sz x=>
  simp only [zB] at h⊢;rw [ht x self];split at h
  ·cases h
  ·rename_i hx;split at h
   ·rename_i hc;cases h;obtain ⟨e,l⟩:=dH (n:=dst*64) (sz:=sz) (ty:=ty) (k:= .box (s.eval x).cvs) hw (zamQ.2 rfl);exact ⟨_,by rw [hu,if_pos hc,e],l⟩
   ·cases h
 |boxN ty sz x col ety esz=>
  simp only [zB] at h⊢;rw [ht x self];split at h
  ·cases h
  ·rename_i hx;split at h
   ·rename_i hc;cases h;obtain ⟨e1,l1⟩:=dH (n:=dst*64+1) (sz:=esz) (ty:=ety) (k:= .row []) hw (zamR _ (zamQ.2 rfl));have hf:s'.fresh (dst*64+1)=s.fresh (dst*64+1):=by simp only [St.new,CV.ptr.injEq] at e1;exact e1.2.2.1
    obtain ⟨e,l⟩:=dH (n:=dst*64) (sz:=sz) (ty:=ty) (k:= .box ((s.eval x).cvs.set col (.own s.up.length (dst*64+1) (s.fresh (dst*64+1)) 0))) (l1.agr hw) (by rw [l1.u];exact zamN ..);exact ⟨_,by rw [hu,if_pos hc,hf,e],l1.trans l⟩
   ·cases h
 |build zero parts=>
  simp only [zB,zD] at h⊢;obtain ⟨cs,h1,h⟩:=h;cases h;refine ⟨s',⟨cs,?_,rfl⟩,Lo.refl hw⟩;rw [<-h1];refine BE (List.map_congr_left λp hp=>?_);rw [ht p.2.2 λn hn=>zamP.2 ⟨p,hp,hn⟩]
 |bslice ty sz len cols zero parts=>
  simp only [zB,zK] at h⊢;obtain ⟨rows,h1,h⟩:=h;have hp:(parts.map λ(p:Nat×KX)=>(p.1,s'.eval p.2))=parts.map λp=>(p.1,s.eval p.2):=List.map_congr_left λp hp=>by
   rw [ht p.2 λn hn=>zamP.2 ⟨p,hp,hn⟩]
  have hin:∀p∈rows.flatMap (·.flatMap CV.refs),p∈wtO s dst (.bslice ty sz len cols zero parts):=λp hp=>by
   rcases pM h1 p hp with h2|h2
   ·obtain ⟨e,he,h2⟩:=zamP.1 h2;obtain ⟨c,hc,h2⟩:=zamP.1 h2;obtain ⟨e0,he0,rfl⟩:=List.mem_map.1 he;obtain ⟨q,hq,rfl⟩:=List.mem_map.1 hc;cases h2
   ·refine zamR _ ?_;obtain ⟨q,hq,h2⟩:=zamP.1 h2;obtain ⟨q0,hq0,rfl⟩:=List.mem_map.1 hq;exact zamP.2 ⟨q0,hq0,h2⟩
  split at h
  ·rename_i rs s0 hf;cases h;unfold frz at hf;split at hf
   ·rename_i hcl;obtain ⟨z,e,l⟩:=eE hf hw hin;obtain ⟨e1,l1⟩:=dH (n:=dst*64) (sz:=sz) (ty:=ty) (k:=bsK cols len rs) (l.agr hw) (by rw [l.u];exact zamN ..);refine ⟨_,⟨rows,by rw [<-h1,<-hp],?_⟩,l.trans l1⟩;simp only [St.new,CV.ptr.injEq] at e1;simp only [frz,if_pos hcl,e,e1.1,e1.2.2.1]
   ·cases hf
  ·rename_i hf;split at h
   ·rename_i hd;cases h;have hf':frz cols len s' rows=none:=by
     unfold frz at hf⊢;split
     ·rename_i hcl;rw [if_pos hcl] at hf;cases hq:zl s' rows with
      |none=>rfl
      |some y=>
       obtain ⟨z,e,_⟩:=eE hq ⟨hu.symm,λp hp=>(hw.m p hp).symm⟩ hin;rw [hf] at e;cases e
     ·rfl
    obtain ⟨e1,l1⟩:=dH (n:=dst*64) (sz:=sz) (ty:=ty) (k:= .box rows.flatten) hw (zamN ..);refine ⟨_,⟨rows,by rw [<-h1,<-hp],?_⟩,l1⟩;simp only [St.new,CV.ptr.injEq] at e1;simp only [hf',hu,if_pos hd,e1.2.2.1]
   ·cases h
 |load g n ks a=>
  simp only [zB,zK,zD] at h⊢;obtain ⟨cs,h1,w,h2,h⟩:=h;cases h;exact ⟨s',⟨cs,by rw [ht a self,CZ hr λp hp=>hp];exact h1,_,h2,rfl⟩,Lo.refl hw⟩
 |store n a x=>
  simp only [zB] at h⊢;rw [ht x rgt,ht a lft];split at h
  ·cases h
  ·rename_i hx;split at h
   ·rename_i hc;obtain ⟨y,h1,h⟩:=zD.1 h;cases h;obtain ⟨z,e,l⟩:=kN h1 hw (λp hp=>zamU _ hp) (λp hp=>zamZ _ hp);exact ⟨z,by rw [if_pos hc,e];rfl,l⟩
   ·cases h
 |storeN n base cols a x=>
  simp only [zB] at h⊢;rw [ht x rgt,ht a lft];split at h
  ·cases h
  ·rename_i hx;split at h
   ·rename_i hc;obtain ⟨y,h1,h⟩:=zD.1 h;cases h;obtain ⟨q1,l1,q2⟩:=eO (base:=base) cols 1 (s.eval x).cvs s s' hw (λj h1 h2=>zamZ _ (List.mem_map.2 ⟨j-1,List.mem_range.2 (by omega),by rw [show j-1+1=j by omega]⟩)) (λp hp=>zamU _ (zamZ _ hp));obtain ⟨z,e,l⟩:=kN h1 (l1.agr hw) (λp hp=>zamU _ (zamU _ hp)) q2;exact ⟨z,by rw [if_pos hc,q1,e];rfl,l1.trans l⟩
   ·cases h
 |storeB base ety a x=>
  simp only [zB] at h⊢;rw [ht x rgt,ht a lft];split at h
  ·rename_i hea hev;obtain ⟨y,h1,h⟩:=zD.1 h;cases h;obtain ⟨q1,l1,q2⟩:=eO (base:=base) [(1,ety,1)] 1 [.p .np,.p .nl] s s' hw (λj h1 h2=>zamZ _ (zamQ.2 (by simp at h2;rw [show j=1 by omega]))) (λp hp=>by simp [CV.refs] at hp);obtain ⟨z,e,l⟩:=kN h1 (l1.agr hw) (λp hp=>zamU _ (zamU _ (by rw [St.refs,hea];exact hp))) (λp hp=>by
    obtain ⟨c,hc,hp⟩:=zamP.1 hp;rcases List.mem_or_eq_of_mem_set hc with hc|rfl
    ·exact q2 p (zamP.2 ⟨c,hc,hp⟩)
    ·exact zamU _ (zamU _ (by rw [St.refs,hea,aE];exact hp)))
   exact ⟨z,by rw [q1,e];rfl,l1.trans l⟩
  ·cases h
 |chk x=>
  simp only [zB] at h⊢;rw [ht x self];split at h
  ·rename_i d n g j o hx;rw [show s'.get d n=s.get d n from hr.m (d,n) (by simp [rtO,St.refs,hx,aE,CV.refs])];split at h
   ·rename_i hc;cases h;exact ⟨s',by rw [if_pos hc],Lo.refl hw⟩
   ·cases h
  ·cases h;exact ⟨s',rfl,Lo.refl hw⟩
  ·cases h;exact ⟨s',rfl,Lo.refl hw⟩
  ·cases h
 |bin op x y=>
  simp only [zB] at h⊢;rw [ht x lft,ht y rgt];split at h
  ·obtain ⟨r,h1,h⟩:=zD.1 h;cases h;exact ⟨s',by rw [h1];rfl,Lo.refl hw⟩
  ·cases h
 |eqs neg tags x y=>
  simp only [zB] at h⊢;rw [ht x lft,ht y rgt];split at h
  ·obtain ⟨r,h1,h⟩:=zD.1 h;cases h;exact ⟨s',by rw [h1];rfl,Lo.refl hw⟩
  ·cases h
 |beq neg x y=>
  simp only [zB] at h⊢;rw [ht x lft,ht y rgt];split at h
  ·cases h;exact ⟨s',rfl,Lo.refl hw⟩
  ·cases h
 |inil neg x=>
  simp only [zB] at h⊢;rw [ht x self];split at h
  ·cases h;exact ⟨s',rfl,Lo.refl hw⟩
  ·cases h;exact ⟨s',rfl,Lo.refl hw⟩
  ·cases h
 |un op x=>
  simp only [zB] at h⊢;rw [ht x self];split at h
  ·obtain ⟨r,h1,h⟩:=zD.1 h;cases h;exact ⟨s',by rw [h1];rfl,Lo.refl hw⟩
  ·cases h
 |conv k x=>
  simp only [zB] at h⊢;rw [ht x self];split at h
  ·cases h;exact ⟨s',rfl,Lo.refl hw⟩
  ·cases h
 |str x=>
  simp only [zB] at h⊢;rw [ht x self];split at h
  ·cases h;exact ⟨s',rfl,Lo.refl hw⟩
  ·cases h
 |toStr x=>
  simp only [zB,zK,zD] at h⊢;obtain ⟨rows,h1,l,h2,h⟩:=h;cases h;exact ⟨s',⟨rows,by rw [ht x self,xB hr λp hp=>hp];exact h1,l,h2,rfl⟩,Lo.refl hw⟩
 |mkfn f caps=>
  simp only [zB,zD] at h⊢;obtain ⟨cs,h1,h⟩:=h;cases h;exact ⟨s',⟨cs,by rw [mA ht self];exact h1,rfl⟩,Lo.refl hw⟩
 |mksl ty sz bytes cols zero l c=>
  simp only [zB,zK] at h⊢;rw [ht l lft,ht c rgt];obtain ⟨i,h1,j,h2,h⟩:=h;split at h
  ·rename_i hc;cases h;obtain ⟨e,l⟩:=dH (n:=dst*64) (sz:=sz) (ty:=ty) (k:=mH cols (rQ zero i.toNat)) hw (zamQ.2 rfl);simp only [St.new,CV.ptr.injEq] at e;exact ⟨_,⟨i,h1,j,h2,by rw [if_pos hc,hu,e.2.2.1]⟩,l⟩
  ·cases h
 |slcS x lo hi=>
  have hb:∀(q:Option KX),(∀n∈(match q with|some l=>l.uses|none=> []),n∈(KOp.slcS x lo hi).uses)->∀d,s'.bound d q=s.bound d q:=λq hq d=>by
   cases q with
   |none=>rfl
   |some y=>simp only [St.bound];rw [ht y hq]
  simp only [zB] at h⊢;rw [ht x (λn h=>lft _ (lft n h))];split at h
  ·simp only [zK] at h⊢;obtain ⟨l,h1,u,h2,h⟩:=h;split at h
   ·rename_i hc;cases h;exact ⟨s',⟨l,by rw [hb lo λn h=>lft _ (rgt n h)];exact h1,u,by rw [hb hi λn h=>rgt _ h];exact h2,by rw [if_pos hc]⟩,Lo.refl hw⟩
   ·cases h
  ·cases h
 |slc sz x lo hi=>
  have hb:∀(q:Option KX),(∀n∈(match q with|some l=>l.uses|none=> []),n∈(KOp.slc sz x lo hi).uses)->∀d,s'.bound d q=s.bound d q:=λq hq d=>by
   cases q with
   |none=>rfl
   |some y=>simp only [St.bound];rw [ht y hq]
  simp only [zB] at h⊢;rw [ht x (λn h=>lft _ (lft n h))];split at h
  ·simp only [zK] at h⊢;obtain ⟨l,h1,u,h2,h⟩:=h;split at h
   ·rename_i hc;cases h;exact ⟨s',⟨l,by rw [hb lo λn h=>lft _ (rgt n h)];exact h1,u,by rw [hb hi λn h=>rgt _ h];exact h2,by rw [if_pos hc]⟩,Lo.refl hw⟩
   ·cases h
  ·cases h
 |faddr off x=>
  simp only [zB] at h⊢;rw [ht x self];split at h
  ·rename_i d n g j o hx;rw [show s'.get d n=s.get d n from hr.m (d,n) (by simp [rtO,St.refs,hx,aE,CV.refs])];split at h
   ·rename_i hc;cases h;exact ⟨s',by rw [if_pos hc],Lo.refl hw⟩
   ·cases h
  ·cases h;exact ⟨s',rfl,Lo.refl hw⟩
  ·cases h
 |field g off n x=>
  simp only [zB] at h⊢;rw [ht x self];split at h
  ·split at h
   ·rename_i hc;obtain ⟨r,h1,h⟩:=zD.1 h;cases h;exact ⟨s',by rw [if_pos hc,h1];rfl,Lo.refl hw⟩
   ·cases h
  ·cases h
 |iaddr sz x i=>
  simp only [zB,zK] at h⊢;rw [ht x lft,ht i rgt];obtain ⟨j,h1,h⟩:=h;refine Exists.elim (?_:∃z,_/\Lo (wtO s dst (.iaddr sz x i)) s s1 s' z) λz hz=>⟨z,⟨j,h1,hz.1⟩,hz.2⟩
  split at h
  ·split at h
   ·rename_i hc;split at h
    ·rename_i e he;split at h
     ·rename_i hl;cases h;exact ⟨s',by rw [if_pos hc];simp only [he,hl,if_true],Lo.refl hw⟩
     ·cases h
    ·cases h
   ·cases h
  ·rename_i d n g m hx;rw [show s'.get d n=s.get d n from hr.m (d,n) (by simp [rtO,St.refs,hx,aE,CV.refs])];split at h
   ·split at h
    ·rename_i hc;cases h;exact ⟨s',by rw [if_pos hc],Lo.refl hw⟩
    ·cases h
   ·split at h
    ·rename_i hc;cases h;exact ⟨s',by rw [if_pos hc],Lo.refl hw⟩
    ·cases h
   ·split at h
    ·rename_i hc;cases h;exact ⟨s',by rw [if_pos hc],Lo.refl hw⟩
    ·cases h
   ·cases h
  ·cases h
 |index x i=>
  simp only [zB,zK] at h⊢;rw [ht x lft,ht i rgt];obtain ⟨j,h1,h⟩:=h;refine Exists.elim (?_:∃z,_/\Lo (wtO s dst (.index x i)) s s1 s' z) λz hz=>⟨z,⟨j,h1,hz.1⟩,hz.2⟩
  split at h
  ·split at h
   ·rename_i hc;split at h
    ·rename_i c he;cases h;exact ⟨s',by rw [if_pos hc],Lo.refl hw⟩
    ·cases h
   ·cases h
  ·cases h
 |ext x i=>
  simp only [zB] at h⊢;rw [ht x self];split at h
  ·split at h
   ·rename_i g cs hq;obtain ⟨r,h1,h⟩:=zD.1 h;cases h;exact ⟨s',by simp only [hq,h1,zamW],Lo.refl hw⟩
   ·cases h
  ·cases h
 |app ty sz bytes x y=>
  simp only [zB] at h⊢;rw [ht x lft,ht y rgt,xB (a:=s.eval y) hr λp hp=>hp];split at h
  ·split at h
   ·rename_i hc;cases h;obtain ⟨e,l⟩:=dH (n:=dst*64) (sz:=sz) (ty:=ty) (k:= .row _) hw (zamN ..);refine ⟨_,?_,l⟩;simp only [St.new,CV.ptr.injEq] at e;rw [if_pos hc,hu,e.2.2.1]
   ·cases h
  ·rename_i d n g m ys hx hy;have hm:(d,n)∈wtO s dst (.app ty sz bytes x y):=zamR _ (zamU _ (by simp [St.refs,hx,aE,CV.refs]));rw [show s'.get d n=s.get d n from hw.m (d,n) hm];split at h
   ·rename_i hB;split at h
    ·rename_i hc;cases h;exact ⟨_,by rw [if_pos hc],Lo.set hw hm (cJ hB)⟩
    ·cases h
   ·cases h
  ·rename_i d n g m hx hy;have hm:(d,n)∈wtO s dst (.app ty sz bytes x y):=zamR _ (zamU _ (by simp [St.refs,hx,aE,CV.refs]));exact BF h hw hr.u hm (λp hp=>hr.m p hp) (λq hq p hp=>zamR _ (zamZ _ (zamP.2 ⟨q,hq,hp⟩)))
  ·cases h
 |len str x=>
  cases str with
  |true=>
   simp only [zB] at h⊢;rw [ht x self];split at h
   ·cases h;exact ⟨s',rfl,Lo.refl hw⟩
   ·cases h
  |false=>
   simp only [zB] at h⊢;rw [ht x self];split at h
   ·cases h;exact ⟨s',rfl,Lo.refl hw⟩
   ·cases h;exact ⟨s',rfl,Lo.refl hw⟩
   ·rename_i d n g m hx;rw [show s'.get d n=s.get d n from hr.m (d,n) (by simp [rtO,St.refs,hx,aE,CV.refs])];split at h
    ·rename_i hc;cases h;exact ⟨s',by rw [if_pos hc],Lo.refl hw⟩
    ·cases h
   ·rename_i d n g _ _ m _ hx;rw [show s'.get d n=s.get d n from hr.m (d,n) (by simp [rtO,St.refs,hx,aE,CV.refs])];split at h
    ·rename_i hc;cases h;exact ⟨s',by rw [if_pos hc],Lo.refl hw⟩
    ·cases h
   ·cases h
 |mm mx xs=>
  simp only [zB,zD] at h⊢;obtain ⟨r,h1,h⟩:=h;cases h;exact ⟨s',⟨r,by rw [mA ht self];exact h1,rfl⟩,Lo.refl hw⟩
 |call borrow f args=>
  simp only [zB] at h⊢;rw [ht f lft,mA ht rgt];split at h
  ·rename_i g caps hf;cases borrow with
   |true=>
    simp only [dY,if_true,zK] at h⊢;obtain ⟨⟨as,lent⟩,h1,r,h2,h⟩:=h;split at h
    ·rename_i hc;cases h;obtain ⟨e,l⟩:=yK (dst:=dst) hc.2 hw (zamQ.2 rfl);exact ⟨_,⟨(as,lent),by rw [pK hr (λp hp=>zamU _ (gU hf p hp)) (λp hp=>zamZ _ (by obtain ⟨q,hq,hp⟩:=zamP.1 hp;exact zamP.2 ⟨q,gU hf q hq,hp⟩))];exact h1,r,h2,by rw [if_pos hc,e]⟩,l⟩
    ·cases h
   |false=>
    simp only [dY,dO,if_false,zK] at h⊢;obtain ⟨⟨as,d,n,q,B⟩,h1,r,h2,h⟩:=h;have hin:=gU (args:=args) hf;obtain ⟨z,e,l⟩:=yH h hw (hin _ (pL h1).1);exact ⟨z,⟨(as,d,n,q,B),by rw [sW hw hin];exact h1,r,h2,e⟩,l⟩
  ·cases h
 |callN f args=>
  simp only [zB] at h⊢;rw [ht f lft,mA ht rgt];split at h
  ·rename_i g caps hf;have hin:=gU (args:=args) hf;have h1:∀p∈(args.map s.eval++caps.map Cap.av).flatMap AV.refs,p∈wtO s dst (.callN f args):=λp hp=>zamU _ (hin p hp)
   have h2:∀p∈((args.map s.eval++caps.map Cap.av).flatMap AV.refs).flatMap s.within,p∈wtO s dst (.callN f args):=λp hp=>by
    obtain ⟨q,hq,hp⟩:=zamP.1 hp;exact zamZ _ (zamP.2 ⟨q,hin q hq,hp⟩)
   cases hq:args.map s.eval++caps.map Cap.av with
   |nil=>rw [hq] at h;cases h
   |cons a0 l0=>
    rw [hq] at h h1 h2;simp only [callN,zK] at h⊢;obtain ⟨⟨as,s0⟩,h3,⟨a',q,q2⟩,h4,r,h5,h6⟩:=h;obtain ⟨k1,k2⟩:=cV h1;obtain ⟨z,e,l⟩:=jI h3 hw k2;have hwi:∀p∈a0.refs.flatMap s0.within,p∈wtO s dst (.callN f args):=λp hp=>by
     obtain ⟨b,hb,hp⟩:=zamP.1 hp;rw [iC h3 (List.ne_nil_of_mem hp)] at hp;exact h2 p (zamP.2 ⟨b,zamP.2 ⟨a0,zamN ..,hb⟩,hp⟩)
    have e4:=BC h4 (l.agr hw) k1 hwi;obtain ⟨z2,e6,l6⟩:=yI h6 (l.agr hw) (k1 _ (kM h4).1.1) (hwi _ (kM h4).1.2);exact ⟨z2,⟨(as,z),e,(a',q,q2),e4,r,h5,e6⟩,l.trans l6⟩
  ·cases h
 |rel same x y=>
  simp only [zB] at h⊢;rw [ht x lft,ht y rgt,BD (a:=s.eval x) hr λp hp=>zamU _ hp,BD (a:=s.eval y) hr λp hp=>zamZ _ hp];split at h
  ·split at h
   ·rename_i hc;cases h;exact ⟨s',by rw [if_pos hc],Lo.refl hw⟩
   ·cases h
  ·cases h
end
section
variable {run:zo} {s s1 s' s1' s2 s2' t:St} {W:List (Nat×Nat)} {o k j:KOper}
theorem sY {U:List Nat} (ht:∀n∈U,zE n s'.t=zE n s.t) (x:KX) (h:∀n∈x.uses,n∈U):s'.eval x=s.eval x:=by
 cases x with
 |t n=>simp only [St.eval];rw [ht n (h n (zamQ.2 rfl))]
 |k a=>rfl
structure LoT (d:Option Nat) (W:List (Nat×Nat)) (s s1 s' s1':St):Prop where
 u:s1.up.length=s.up.length
 u':s1'.up.length=s'.up.length
 i:∀p∈W,s1'.get p.1 p.2=s1.get p.1 p.2
 o:∀p,p∉W->s1.get p.1 p.2=s.get p.1 p.2/\s1'.get p.1 p.2=s'.get p.1 p.2
 ti:∀n,d=some n->zE n s1'.t=zE n s1.t
 to:∀n,d≠some n->zE n s1.t=zE n s.t/\zE n s1'.t=zE n s'.t
theorem Lo.put (h:Lo W s s1 s' s1') (d:Option Nat) (v:AV):LoT d W s {s1 with t:=eF s1.t d v} s' {s1' with t:=eF s1'.t d v}:=
 ⟨h.u,h.u',h.i,h.o,λn e=>by simp only [kJ,e,if_true],λn e=>by simp only [kJ,e,if_false,h.t,h.t'];exact ⟨trivial,trivial⟩⟩
theorem jM (h:zW run s o=some s1) (ht:∀n∈o.rd,zE n s'.t=zE n s.t) (ha:Agr ((tch s o).1++(tch s o).2) s s'):
  ∃z,zW run s' o=some z/\LoT o.dst (tch s o).2 s s1 s' z:=by
 have hop:∀{v:AV} {y:St},zB run s (o.dst.getD 0) o.op=some (v,y)->∃z,zB run s' (o.dst.getD 0) o.op=some (v,z)/\Lo (tch s o).2 s y s' z:=fun {v y} he=>
  DL he (λx hx=>sY ht x λn hn=>zamZ _ (hx n hn)) ha
 have hw:Agr (tch s o).2 s s':=ha.sub λp hp=>zamZ _ hp
 unfold zW at h⊢;cases hg:o.guard with
 |none=>
  simp only [hg] at h⊢;obtain ⟨⟨v,y⟩,h1,rfl⟩:=zD.1 h;obtain ⟨z,e,l⟩:=hop h1;exact ⟨_,by rw [e];rfl,l.put _ _⟩
 |some q=>
  obtain ⟨n,want⟩:=q;simp only [hg] at h⊢;rw [ht n (by simp [KOper.rd,hg])];split at h
  ·split at h
   ·rename_i hx;obtain ⟨⟨v,y⟩,h1,rfl⟩:=zD.1 h;obtain ⟨z,e,l⟩:=hop h1;exact ⟨_,by rw [if_pos hx,e];rfl,l.put _ _⟩
   ·rename_i hx;cases h;exact ⟨_,by rw [if_neg hx],(Lo.refl hw).put _ _⟩
  ·cases h;exact ⟨_,rfl,(Lo.refl hw).put _ _⟩
  ·cases h
theorem gV {α β:Type} {f g:α->List β}:∀{l:List α},(∀x∈l,f x=g x)->l.flatMap f=l.flatMap g
 | [],_=>rfl
 |x::r,h=>by simp only [List.flatMap_cons,h x (zamN ..),gV λy hy=>h y (zamR _ hy)]
theorem uY (ht:∀n∈o.rd,zE n s'.t=zE n s.t) (ha:Agr ((tch s o).1++(tch s o).2) s s'):tch s' o=tch s o:=by
 have hr:∀x:KX,(∀n∈x.uses,n∈o.op.uses)->s'.refs x=s.refs x:=λx hx=>by
  unfold St.refs;rw [sY ht x λn hn=>zamZ _ (hx n hn)]
 have hl:∀l:List KX,(∀n∈l.flatMap KX.uses,n∈o.op.uses)->l.flatMap s'.refs=l.flatMap s.refs:=λl h=>gV λx hx=>hr x λn hn=>h n (zamP.2 ⟨x,hx,hn⟩)
 have hu:=ha.u;unfold tch;unfold tch at ha;generalize o.dst.getD 0=d at ha⊢;generalize o.op=k at ha hr hl⊢;have lft:∀{A B:List Nat},∀n∈A,n∈A++B:=λn h=>zamU _ h
 have rgt:∀{A B:List Nat},∀n∈B,n∈A++B:=λn h=>zamZ _ h
 cases k
 case mvR a=>simp only [rtO,wtO,hr a λn h=>h,hu]
 case load g n ks a=>simp only [rtO,wtO,hr a λn h=>h]
 case chk a=>simp only [rtO,wtO,hr a λn h=>h]
 case faddr n a=>simp only [rtO,wtO,hr a λn h=>h]
 case iaddr n a i=>simp only [rtO,wtO,hr a lft]
 case len b a=>simp only [rtO,wtO,hr a λn h=>h]
 case toStr a=>simp only [rtO,wtO,hr a λn h=>h]
 case rel b x y=>simp only [rtO,wtO,hr x lft,hr y rgt]
 case app ty sz by' x y=>
  simp only [rtO,wtO,hr x lft,hr y rgt,hu,zamL,true_and,List.cons.injEq,List.append_cancel_left_eq];exact gV λp hp=>kL ha (zamU _ hp)
 case store n a x=>simp only [rtO,wtO,hr a lft,hr x rgt]
 case storeB b e a x=>simp only [rtO,wtO,hr a lft,hr x rgt,hu]
 case storeN n b c a x=>simp only [rtO,wtO,hr a lft,hr x rgt,hu]
 case bslice ty sz len cols z ps=>simp only [rtO,wtO,hu,gV λp hp=>hr p.2 λn hn=>zamP.2 ⟨p,hp,hn⟩]
 case call b f args=>
  cases b
  ·simp only [rtO,wtO,hl (f::args) λn h=>by simpa [KOp.uses] using h]
  ·have e:=hl (f::args) λn h=>by simpa [KOp.uses] using h
   simp only [rtO,wtO,hu,e]
   congr 2
   exact gV λp hp=>kL ha (zamU _ (zamU _ hp))
 case callN f args=>
  have e:=hl (f::args) λn h=>by simpa [KOp.uses] using h
  simp only [rtO,wtO,e,zamL,true_and,List.append_cancel_left_eq];exact gV λp hp=>kL ha (zamZ _ (zamU _ hp))
 all_goals simp only [rtO,wtO,hu]
theorem gE {p:Nat×Nat}:∀{l:List (Nat×Nat)},rR p l=false->p∉l
 | [],_,h=>(by cases h)
 |q::r,hb,h=>by
  simp only [rR,Bool.or_eq_false_iff,Bool.and_eq_false_iff,zanF] at hb;rcases zamT.1 h with rfl|h
  ·rcases hb.1 with e|e<;>exact e rfl
  ·exact gE hb.2 h
theorem BG {a b:Tch} (h:apM a b=true):(∀p∈a.2,p∉b.1/\p∉b.2)/\∀p∈b.2,p∉a.1/\p∉a.2:=by
 simp only [apM,zL,zamK,Bool.not_eq_true'] at h;exact ⟨λp hp=>⟨gE (h.1 p hp).1,gE (h.1 p hp).2⟩,λp hp=>⟨gE (h.2 p hp),λhq=>gE (h.1 p hq).2 hp⟩⟩
theorem uZ {a b:KOper} (h:iI a b=true):(∀d,a.dst=some d->d∉b.rd/\b.dst≠some d)/\∀d,b.dst=some d->d∉a.rd:=by
 simp only [iI,zL] at h;refine ⟨λd hd=>?_,λd hd=>?_⟩
 ·have:=h.1;simp only [hd,zL,Bool.not_eq_true',bne_iff_ne,ne_eq] at this;refine ⟨λhm=>?_,this.2⟩;have e:=List.contains_iff_mem.2 hm;rw [this.1] at e;cases e
 ·have:=h.2;simp only [hd,Bool.not_eq_true'] at this;intro hm;have e:=List.contains_iff_mem.2 hm;rw [this] at e;cases e
structure Eqv (s s':St):Prop where
 t:∀n,zE n s'.t=zE n s.t
 u:s'.up.length=s.up.length
 m:∀p:Nat×Nat,s'.get p.1 p.2=s.get p.1 p.2
theorem Eqv.refl (s:St):Eqv s s:=⟨λ_=>rfl,rfl,λ_=>rfl⟩
theorem Eqv.trans (h:Eqv s s1) (h':Eqv s1 s2):Eqv s s2:=⟨λn=>(h'.t n).trans (h.t n),h'.u.trans h.u,λp=>(h'.m p).trans (h.m p)⟩
theorem BH (h:zW run s o=some s1) (e:Eqv s s'):∃z,zW run s' o=some z/\Eqv s1 z/\tch s' o=tch s o:=by
 have ha:Agr ((tch s o).1++(tch s o).2) s s':=⟨e.u,λp _=>e.m p⟩;obtain ⟨z,h1,l⟩:=jM h (λn _=>e.t n) ha;refine ⟨z,h1,⟨λn=>?_,?_,λp=>?_⟩,uY (λn _=>e.t n) ha⟩
 ·by_cases hn:o.dst=some n
  ·exact l.ti n hn
  ·rw [(l.to n hn).1,(l.to n hn).2,e.t]
 ·rw [l.u',l.u,e.u]
 ·by_cases hp:p∈(tch s o).2
  ·exact l.i p hp
  ·rw [(l.o p hp).1,(l.o p hp).2,e.m]
theorem Dy (h1:zW run s k=some s1) (h2:zW run s1 j=some s2) (hs:iI k j=true) (hm:apM (tch s k) (tch s1 j)=true):
  ∃t1 t2,zW run s j=some t1/\zW run t1 k=some t2/\Eqv s2 t2/\tch s j=tch s1 j/\tch t1 k=tch s k:=by
 obtain ⟨a1,a2⟩:=uZ hs;obtain ⟨m1,m2⟩:=BG hm;obtain ⟨_,_,l0⟩:=jM h1 (λ_ _=>rfl) (⟨rfl,λ_ _=>rfl⟩:Agr _ s s);have ht1:∀n∈j.rd,zE n s.t=zE n s1.t:=λn hn=>((l0.to n λe=>(a1 n e).1 hn).1).symm
 have ha1:Agr ((tch s1 j).1++(tch s1 j).2) s1 s:=⟨l0.u.symm,λp hp=>((l0.o p λhk=>by
  rcases List.mem_append.1 hp with hp|hp
  ·exact (m1 p hk).1 hp
  ·exact (m1 p hk).2 hp).1).symm⟩
 obtain ⟨t1,e1,l1⟩:=jM h2 ht1 ha1;have ht2:∀n∈k.rd,zE n t1.t=zE n s.t:=λn hn=>(l1.to n λe=>a2 n e hn).2
 have ha2:Agr ((tch s k).1++(tch s k).2) s t1:=⟨l1.u',λp hp=>(l1.o p λhj=>by
  rcases List.mem_append.1 hp with hp|hp
  ·exact (m2 p hj).1 hp
  ·exact (m2 p hj).2 hp).2⟩
 obtain ⟨t2,e2,l2⟩:=jM h1 ht2 ha2;refine ⟨t1,t2,e1,e2,⟨λn=>?_,?_,λp=>?_⟩,uY ht1 ha1,uY ht2 ha2⟩
 ·by_cases hj:j.dst=some n
  ·have hk:k.dst≠some n:=λe=>(a1 n e).2 hj
   rw [(l2.to n hk).2,l1.ti n hj]
  ·by_cases hk:k.dst=some n
   ·rw [l2.ti n hk,(l1.to n hj).1]
   ·rw [(l2.to n hk).2,(l1.to n hj).2,(l1.to n hj).1,(l2.to n hk).1]
 ·rw [l2.u',l1.u',l1.u,l0.u]
 ·by_cases hj:p∈(tch s1 j).2
  ·have hk:p∉(tch s k).2:=(m2 p hj).2;rw [(l2.o p hk).2,l1.i p hj]
  ·by_cases hk:p∈(tch s k).2
   ·rw [l2.i p hk,(l1.o p hj).1]
   ·rw [(l2.o p hk).2,(l1.o p hj).2,(l1.o p hj).1,(l2.o p hk).1]
def evS (run:zo) (ks:List KOper):List Nat->St->Option (St×List (Nat×Tch))
 | [],s=>some (s,[])
 |i::r,s=>(zW run s (kOf ks i)).bind λs1=>(evS run ks r s1).map λq=>(q.1,(i,tch s (kOf ks i))::q.2)
variable {ks:List KOper}
def Apt (ks:List KOper) (x y:Nat×Tch):Prop:=iI (kOf ks x.1) (kOf ks y.1)=true/\apM x.2 y.2=true
theorem jN {i:Nat} {r:List Nat} {tr:List (Nat×Tch)} (h:evS run ks (i::r) s=some (s',tr)):∃s1 tr',zW run s (kOf ks i)=some s1/\evS run ks r s1=some (s',tr')/\tr=(i,tch s (kOf ks i))::tr':=by
 simp only [evS,zK,zD] at h;obtain ⟨s1,h1,⟨s2,tr'⟩,h2,h3⟩:=h;cases h3;exact ⟨s1,tr',h1,h2,rfl⟩
theorem vA {i:Nat} {r:List Nat} {tr:List (Nat×Tch)} (h1:zW run s (kOf ks i)=some s1) (h2:evS run ks r s1=some (s',tr)):evS run ks (i::r) s=some (s',(i,tch s (kOf ks i))::tr):=by
 simp only [evS,h1,aN,h2,zamW]
theorem xC:∀{L:List Nat} {s s' t:St} {tr:List (Nat×Tch)},evS run ks L s=some (s',tr)->Eqv s t->∃t',evS run ks L t=some (t',tr)/\Eqv s' t'
 | [],s,s',t,tr,h,e=>by cases h;exact ⟨t,rfl,e⟩
 |i::r,s,s',t,tr,h,e=>by
  obtain ⟨s1,tr',h1,h2,rfl⟩:=jN h;obtain ⟨t1,g1,e1,q⟩:=BH h1 e;obtain ⟨t',g2,e2⟩:=xC h2 e1;exact ⟨t',by rw [vA g1 g2,q],e2⟩
theorem xD:∀{L:List Nat} {s s':St} {tr:List (Nat×Tch)},evS run ks L s=some (s',tr)->tr.map (·.1)=L
 | [],s,s',tr,h=>by cases h;rfl
 |i::r,s,s',tr,h=>by
  obtain ⟨s1,tr',h1,h2,rfl⟩:=jN h;simp [xD h2]
theorem BI {j:Nat} {q:List Nat}:∀{p:List Nat} {s s':St} {tr:List (Nat×Tch)},evS run ks (p++j::q) s=some (s',tr)->∃tp tj tq,tr=tp++(j,tj)::tq/\tp.map (·.1)=p/\
  ((∀a∈tp,Apt ks a (j,tj))->∃s1 s'',zW run s (kOf ks j)=some s1/\evS run ks (p++q) s1=some (s'',tp++tq)/\Eqv s' s''/\tch s (kOf ks j)=tj)
 | [],s,s',tr,h=>by
  obtain ⟨s1,tr',h1,h2,rfl⟩:=jN h;exact ⟨[],_,tr',rfl,rfl,λ_=>⟨s1,s',h1,h2,Eqv.refl _,rfl⟩⟩
 |k::p,s,s',tr,h=>by
  obtain ⟨s1,tr',h1,h2,rfl⟩:=jN h;obtain ⟨tp,tj,tq,rfl,e1,h3⟩:=BI h2;refine ⟨(k,tch s (kOf ks k))::tp,tj,tq,rfl,by simp [e1],λha=>?_⟩;obtain ⟨s2,s'',g1,g2,g3,rfl⟩:=h3 λa h=>ha a (zamR _ h)
  obtain ⟨b1,b2⟩:=ha _ (zamN ..);obtain ⟨t1,t2,c1,c2,c3,c4,c5⟩:=Dy h1 g1 b1 b2;obtain ⟨t',d1,d2⟩:=xC g2 c3;exact ⟨t1,t',c1,by rw [<-c5];exact vA c2 d1,g3.trans d2,c4⟩
theorem sZ (h:wD o.op=true):tch s o=([],[]):=by
 unfold tch;generalize o.op=k at h⊢;cases k<;>first|rfl|cases h
theorem BJ (h:roK o.op=true):(tch s o).2= []:=by
 unfold tch;generalize o.op=k at h⊢;cases k<;>first|rfl|cases h
def BL (ks:List KOper) (x:Nat×Tch):Prop:=∃s,x.2=tch s (kOf ks x.1)
theorem BM {dt:DT} {x y:Nat×Tch} (hx:BL ks x) (hy:BL ks y) (hd:qM dt y.1 x.1=false) (hf:kY ks dt y.1 x.1=false):apM x.2 y.2=true:=by
 obtain ⟨s,hx⟩:=hx;obtain ⟨s',hy⟩:=hy;simp only [kY,hd,Bool.not_false,Bool.true_and,Bool.not_eq_false'] at hf;simp only [Bool.or_eq_true,zL] at hf;rw [hx,hy];rcases hf with (h|h)|⟨h1,h2⟩
 ·rw [sZ h];simp [apM,rR]
 ·rw [sZ h];simp [apM,rR]
 ·simp [apM,BJ h1,BJ h2]
theorem pO {dt:DT} {jt:Nat} {x:Tch}:∀{p:List Nat} {ts:List Tch},AK (p.map (kY ks dt jt)) ts x=true->∀a∈p.zip ts,kY ks dt jt a.1=true->apM a.2 x=true
 | [],ts,h,a,ha,hf=>by cases ha
 |i::p,[],h,a,ha,hf=>by cases ha
 |i::p,t::ts,h,a,ha,hf=>by
  simp only [zanE,AK,zL] at h;rcases zamT.1 ha with rfl|ha
  ·have h1:=h.1;simp only at hf;rw [hf] at h1;simpa using h1
  ·exact pO h.2 a ha hf
theorem nG {dt:DT}:∀{L p:List Nat} {ts:List Tch} {s s':St},mI run (mN ks dt p L) ts s=some s'->∃tr,evS run ks L s=some (s',tr)/\(∀x∈tr,BL ks x)/\
  (∀a∈p.zip ts,∀y∈tr,kY ks dt y.1 a.1=true->apM a.2 y.2=true)/\tr.Pairwise λx y=>kY ks dt y.1 x.1=true->apM x.2 y.2=true
 | [],p,ts,s,s',h=>by cases h;exact ⟨[],rfl,λx hx=>(by cases hx),λa _ y hy=>(by cases hy),.nil⟩
 |j::r,p,ts,s,s',h=>by
  simp only [mN,mI] at h;split at h
  ·rename_i hc;obtain ⟨s1,h1,h2⟩:=zK.1 h;obtain ⟨tr,g1,g2,g3,g4⟩:=nG h2;have hz:(j::p).zip (tch s (kOf ks j)::ts)=(j,tch s (kOf ks j))::p.zip ts:=rfl;rw [hz] at g3;refine ⟨_,vA h1 g1,λx hx=>?_,λa ha y hy hf=>?_,.cons (λy hy hf=>g3 _ (zamN ..) y hy hf) g4⟩
   ·rcases zamT.1 hx with rfl|hx
    ·exact ⟨s,rfl⟩
    ·exact g2 x hx
   ·rcases zamT.1 hy with rfl|hy
    ·exact pO hc a ha hf
    ·exact g3 a (zamR _ ha) y hy hf
  ·cases h
end
end Go.Eng
namespace Go.Eng
open Go.RowKit
structure Fits (P:Program) (h:Hints) (me:FuncId) (ops:Array Oper) (o:Oper) (ko:KOper):Prop where
 dst:ko.dst=o.dst
 op:dT P h me o=some ko.op
 gd:(o.guard=none/\ko.guard=none)\/∃j want t,o.guard=some (j,want)/\(ops[j]?).bind (·.dst)=some t/\ko.guard=some (t,want)
section
variable {P:Program} {F F':Nat->Prop} {G:Nat->Option Obj} {N0:Base G} {T:Nat} {pl pl0 pl':Pl} {st st1 st':St} {a:Act} {w w0:World} {up0:List Frame} {fs fs':List Frame} {h:Hints} {self:FuncId} {ops:Array Oper} {o:Oper} {ko:KOper} {run:zo}
def nH (P:Program) (ops:Array Oper) (i:Nat) (K:Act->World->Prop) (a:Act) (w:World):Prop:=
 match ops[i]? with
 |none=>K a w
 |some o=>if Region.wanted o (yielded ops a.tmps) then o.wp P a w K (λ_ _ _=>False) else K (a.put o.dst undef) w
theorem nI {i:Nat} {K K':Act->World->Prop} (h:∀a w,K a w->K' a w) (hh:nH P ops i K a w):nH P ops i K' a w:=by
 unfold nH at*
 split
 ·exact h _ _ (by simpa [*] using hh)
 ·rename_i o ho;simp only [ho] at hh;split
  ·rename_i hw;simp only [hw,if_true] at hh;exact Oper.wp_mono h hh
  ·rename_i hw;simp only [hw] at hh;exact h _ _ hh
def BN (P:Program) (ops:Array Oper) (Q:Act->World->Prop):Nat->Array Bool->Act->World->Prop
 |0,listed,a,w=>Region.ready .any ops listed= []/\Q a w
 |fuel+1,listed,a,w=>(Region.ready .any ops listed= []->Q a w)/\
  ∀i∈Region.ready .any ops listed,nH P ops i (λa' w'=>BN P ops Q fuel (listed.setIfInBounds i true) a' w') a w
theorem pQ {Q Q':Act->World->Prop} (h:∀a w,Q a w->Q' a w):∀{fuel:Nat} {listed:Array Bool} {a:Act} {w:World},BN P ops Q fuel listed a w->BN P ops Q' fuel listed a w
 |0,_,_,_,hh=>⟨hh.1,h _ _ hh.2⟩
 |fuel+1,_,_,_,hh=>⟨λh0=>h _ _ (hh.1 h0),λi hi=>nI (λa' w' h'=>pQ h h') (hh.2 i hi)⟩
theorem lG {Q:Act->World->Prop} {Q':Exit->Act->World->Prop} (hQ:∀a w,Q a w->Q' .normal a w):∀(fuel:Nat) (listed:Array Bool) (a:Act) (w:World),BN P ops Q fuel listed a w->wpAny P .any ops Q' fuel listed a w
 |0,_,_,_,h=>⟨h.1,hQ _ _ h.2⟩
 |fuel+1,listed,a,w,h=>⟨λh0=>hQ _ _ (h.1 h0),λi hi=>by
  have h1:=nI (K':=wpAny P .any ops Q' fuel (listed.setIfInBounds i true)) (λa' w' h2=>lG hQ fuel _ a' w' h2) (h.2 i hi);unfold nH at h1;unfold wpOp;cases ho:ops[i]? with
  |none=>simp only [ho] at h1⊢;exact h1
  |some o=>
   simp only [ho] at h1⊢;split
   ·rename_i hw;simp only [hw,if_true] at h1;exact .inl (qX h1)
   ·rename_i hw;simp only [hw] at h1;exact h1⟩
theorem Ca {ks:List KOper} (hc:dC P h self ops=some ks):ks.length=ops.size/\∀(i:Nat) o ko,ops[i]?=some o->ks[i]?=some ko->Fits P h self ops o ko:=by
 unfold dC at hc;obtain ⟨h1,h2⟩:=bY hc;refine ⟨by simpa using h1,λi o ko ho hk=>?_⟩;have h3:=h2 i o ko (by simpa using ho) hk;obtain ⟨k,hk',hg⟩:=zK.1 h3;cases hgd:o.guard with
 |none=>
  rw [hgd] at hg;cases hg;exact ⟨rfl,hk',.inl ⟨hgd,rfl⟩⟩
 |some jw=>
  obtain ⟨j,want⟩:=jw;rw [hgd] at hg;obtain ⟨t,ht,rfl⟩:=zD.1 hg;exact ⟨rfl,hk',.inr ⟨j,want,t,hgd,ht,rfl⟩⟩
theorem BO (hf:Fits P h self ops o ko) (hr:Rel F N0 T pl st a w) (he:zW run st ko=some st1):
  (Region.wanted o (yielded ops a.tmps)=true/\∃v st2,zB run st (ko.dst.getD 0) ko.op=some (v,st2)/\st1={st2 with t:=eF st2.t ko.dst v})\/
  (Region.wanted o (yielded ops a.tmps)=false/\st1={st with t:=eF st.t ko.dst (.tup [])}):=by
 rcases hf.gd with ⟨hgd,hg⟩|⟨j,want,t,hgd,ht,hg⟩
 ·simp only [zW,hg,zD] at he;obtain ⟨⟨v,st2⟩,h1,rfl⟩:=he;exact .inl ⟨by simp [Region.wanted,hgd],v,st2,h1,rfl⟩
 ·simp only [zW,hg] at he;split at he
  ·rename_i x hx;have hval:=mP (hr.tmps t _ hx);have hy:yielded ops a.tmps j=some x:=by
    unfold yielded;rw [ht];have:a.tmps[t]?=some (.bool x):=by
     rw [Array.getD_eq_getD_getElem?] at hval;cases hq:a.tmps[t]? with
     |none=>rw [hq] at hval;simp [undef] at hval
     |some q=>rw [hq] at hval;simpa using hval
    simp [this]
   split at he
   ·rename_i hxw;subst hxw;obtain ⟨⟨v,st2⟩,h1,rfl⟩:=zD.1 he;exact .inl ⟨by simp [Region.wanted,hgd,hy],v,st2,h1,rfl⟩
   ·rename_i hxw;cases he;exact .inr ⟨by simp [Region.wanted,hgd,hy];exact hxw,rfl⟩
  ·rename_i hx;have hy:yielded ops a.tmps j≠some want:=by
    obtain ⟨us,hu,hl,_⟩:=hr.tmps t _ hx;have hus:us= []:=bR hl;subst hus;unfold yielded;rw [ht];rw [Array.getD_eq_getD_getElem?] at hu;cases hq:a.tmps[t]? with
    |none=>simp [hq]
    |some q=>rw [hq] at hu;simp at hu;subst hu;simp [hq]
   cases he;exact .inr ⟨by simp [Region.wanted,hgd];exact hy,rfl⟩
  ·cases he
theorem BP (hS:eM G P run) {i:Nat} (hi:ops[i]?=some o) (hf:Fits P h self ops o ko) (hr:Rel F N0 T pl st a w) (hT:∀d,ko.dst=some d->d<T) (he:zW run st ko=some st1) {K:Act->World->Prop}
  (hK:∀u w' pl1,Rel F N0 T pl1 st1 (a.put o.dst u) w'->Keep F (st.fr::st.up) (st1.fr::st1.up) pl pl1 w w'->K (a.put o.dst u) w'):nH P ops i K a w:=by
 unfold nH;simp only [hi];rcases BO hf hr he with ⟨hw,v,st2,hev,rfl⟩|⟨hw,rfl⟩
 ·rw [if_pos hw];refine Cy hS hf.op hr hev _ λu w' hp=>?_
  obtain ⟨pl1,h1,h2⟩:=jG hr hp hT;rw [hf.dst] at h1;exact hK u w' pl1 (by rw [hf.dst];exact h1) h2
 ·rw [if_neg (by simp [hw])];obtain ⟨pl1,h1,h2⟩:=jG (v:= .tup []) (u:=undef) hr ⟨⟨pl,⟨[],rfl,rfl,λi u c hu=>by simp at hu⟩,hr.mem,Keep.refl⟩,rfl⟩ hT;rw [hf.dst] at h1;exact hK undef w pl1 (by rw [hf.dst];exact h1) h2
theorem lH (hg:∀d n,zA d n fs'=zA d n fs) {v:Value} {c:CV} (hr:cM F fs pl w v c):cM F fs' pl w v c:=by
 cases c with
 |p x=>exact hr
 |own d n g m=>
  obtain ⟨h1,B,h2,h3⟩:=hr;exact ⟨h1,B,(hg d n).trans h2,h3⟩
 |ptr d n g j o=>
  obtain ⟨h1,B,h2,h3⟩:=hr;exact ⟨h1,B,(hg d n).trans h2,h3⟩
 |sub d n g j o m esz=>
  obtain ⟨h1,B,h2,h3⟩:=hr;exact ⟨h1,B,(hg d n).trans h2,h3⟩
 |rp row o=>exact hr
 |fn f caps=>
  obtain ⟨vals,h1,h2,h3⟩:=hr;refine ⟨vals,h1,h2,λi u c hu hc=>?_⟩;have h4:=h3 i u c hu hc;cases c with
  |p x=>exact h4
  |ptr d n g=>
   obtain ⟨h0,B,h5,h6⟩:=h4;exact ⟨h0,B,(hg d n).trans h5,h6⟩
  |rp row=>exact h4
 |nfn=>exact hr
 |u=>trivial
theorem lI (hg:∀d n,zA d n fs'=zA d n fs) {v:Value} {x:AV} (hr:zf F fs pl w v x):zf F fs' pl w v x:=by
 have:=eD (φ:=id) (F':=F) (fs':=fs') (pl':=pl) (ww':=w) (λu c _ h=>lH hg h) (λc h=>h) hr;have e:x.map id=x:=by cases x<;>simp [AV.map]
 rwa [e] at this
theorem vC (hg:∀d n,zA d n fs'=zA d n fs) (hm:MemOK F N0 fs pl w):MemOK F N0 fs' pl w:=
 ⟨λd n j b s hp=>by
  obtain ⟨h1,h2,h3,B,h4⟩:=hm.live d n j b s hp;exact ⟨h1,h2,h3,B,(hg d n).trans h4⟩,hm.inj,λd n B hB=>by
  have h1:=hm.blk d n B ((hg d n).symm.trans hB);unfold zj at h1⊢;split at h1
  ·obtain ⟨b,us,h2,h3,h4,h5⟩:=h1;exact ⟨b,us,h2,h3,⟨h4.1,λi u c hu hc=>⟨lH hg (h4.2 i u c hu hc).1,(h4.2 i u c hu hc).2⟩⟩,h5⟩
  ·exact h1
  ·exact h1
  ·exact h1,hm.fsz,hm.fix⟩
theorem Cb (e:Eqv st st1) (hi:Inv F N0 T up0 pl0 w0 pl st1 a w):Inv F N0 T up0 pl0 w0 pl st a w:=by
 have hg:∀d n,zA d n (st.fr::st.up)=zA d n (st1.fr::st1.up):=λd n=>(e.m (d,n)).symm
 have hup:∀d n,zA d n st1.up=zA d n st.up:=λd n=>by
  by_cases hd:d<st.up.length
  ·have h1:=hg d n;simp only [zA] at h1;rw [if_neg (by omega),if_neg (by rw [e.u];omega)] at h1;exact h1.symm
  ·have none_of:∀{up:List Go.Eng.Frame},¬d<up.length->zA d n up=none:=fun {up} hq=>by
    cases hB:zA d n up with
    |none=>rfl
    |some B=>exact absurd (zO hB) hq
   rw [none_of hd,none_of (by rw [e.u];exact hd)]
 have hr:=hi.rel;refine ⟨⟨vC hg hr.mem,λn v hv=>lI hg (hr.tmps n v ((e.t n).trans hv)),hr.size,hr.defers,hr.low⟩,hi.keep.step,?_,λd n b hb=>?_,hi.keep.later.new⟩
 ·exact e.u.symm.trans hi.keep.later.len
 ·obtain ⟨b',h1,h2⟩:=hi.keep.later.blk d n b hb;exact ⟨b',(hup d n).symm.trans h1,h2⟩
theorem gF (i:Nat):∀m,(fX ops i m).length=m
 |0=>rfl
 |m+1=>by simp [fX,gF i m]
theorem mB (i:Nat):∀{m j:Nat},(fX ops i m).getD j false=true->fW ops i (fX ops i j) j=true/\j<m
 |0,j,h=>by simp [fX] at h
 |m+1,j,h=>by
  simp only [fX,List.getD_eq_getElem?_getD] at h;rcases Nat.lt_trichotomy j m with hj|rfl|hj
  ·rw [zanA (by rw [gF];exact hj)] at h;have:=mB i (m:=m) (j:=j) (by rw [List.getD_eq_getElem?_getD];exact h);exact ⟨this.1,by omega⟩
  ·rw [zanB (by rw [gF];exact zH _),gF,Nat.sub_self] at h;exact ⟨by simpa using h,by omega⟩
  ·rw [zamY (by simp [gF];omega)] at h;cases h
theorem oL {R:Array Bool} {i:Nat} (hcl:∀j o,ops[j]?=some o->R.getD j false=true->∀e∈o.after,Region.binds .any e=true->R.getD e.on false=true) (hi:R.getD i false=false) (j:Nat):
  ∀m,(fX ops i m).getD j false=true->R.getD j false=false:=by
 induction j using Nat.strongRecOn with
 |_ j ih=>
  intro m h;obtain ⟨h1,hj⟩:=mB i h;unfold fW at h1;split at h1
  ·rename_i o ho;obtain ⟨e,he,hb⟩:=Array.any_eq_true'.1 h1;simp only [zL,Bool.or_eq_true,zanG] at hb;cases hq:R.getD j false with
   |false=>rfl
   |true=>
    have h2:=hcl j o ho hq e he hb.1;rcases hb.2 with h3|h3
    ·rw [h3,hi] at h2;cases h2
    ·rw [ih e.on (mB i h3).2 j h3] at h2;cases h2
  ·cases h1
theorem BQ {R:Array Bool} {i j:Nat} (hcl:∀j o,ops[j]?=some o->R.getD j false=true->∀e∈o.after,Region.binds .any e=true->R.getD e.on false=true) (hi:R.getD i false=false)
  (hj:ops[j]?=some o) (hd:∀e∈o.after,Region.binds .any e=true->R.getD e.on false=true):qM (rT ops) j i=false:=by
 cases hq:qM (rT ops) j i with
 |false=>rfl
 |true=>
  unfold qM rT at hq;have hi':i<ops.size:=by
   rcases Nat.lt_or_ge i ops.size with h'|h'
   ·exact h'
   ·simp [List.getD_eq_getElem?_getD,h'] at hq
  have h1:(fX ops i ops.size).getD j false=true:=by simpa [List.getD_eq_getElem?_getD,hi'] using hq
  have h2:=(mB i h1).1;unfold fW at h2;rw [hj] at h2;obtain ⟨e,he,hb⟩:=Array.any_eq_true'.1 h2;simp only [zL,Bool.or_eq_true,zanG] at hb;have h3:=hd e he hb.1;rcases hb.2 with h4|h4
  ·rw [h4,hi] at h3;cases h3
  ·rw [oL hcl hi e.on j h4] at h3;cases h3
theorem pR {l:Array Bool} {i:Nat} (hi:i<l.size) (d d':Bool):l.getD i d=l.getD i d':=by simp [hi]
theorem yL {i:Nat} {o:Oper} (ho:ops[i]?=some o) {e} (he:e∈o.after) (hb:Region.binds .any e=true):rV ops i e.on=true:=by
 simp only [rV,ho];exact Array.any_eq_true'.2 ⟨e,he,by simp [hb]⟩
theorem vD (hS:eM G P run) {ks:List KOper} (hks:dC P h self ops=some ks):∀(m:Nat) (L:List Nat) (R:Array Bool) {s s':St} {tr:List (Nat×Tch)} {pl:Pl} {a:Act} {w:World},
  L.length=m->evS run ks L s=some (s',tr)->tr.Pairwise (λx y=>qM (rT ops) y.1 x.1=false->Apt ks x y)->L.Nodup->R.size=ops.size->(∀j,j<ops.size->(R.getD j true=false↔j∈L))->(∀j∈L,j<ops.size)->
  (∀j o,ops[j]?=some o->R.getD j false=true->∀e∈o.after,Region.binds .any e=true->R.getD e.on false=true)->L.Pairwise (λi j=>rV ops i j=false)->(∀i∈L,wE ops i=true)->
  (∀i∈L,∀d,(kOf ks i).dst=some d->d<T)->Rel F N0 T pl s a w->KeepU up0 s.up pl0 pl w0 w->BN P ops (λa' w'=>∃s'' pl',Eqv s' s''/\Inv F N0 T up0 pl0 w0 pl' s'' a' w') m R a w:=by
 obtain ⟨hlen,hfit⟩:=Ca hks;intro m
 induction m with
 |zero=>
  intro L R s s' tr pl a w hl he hpw hnd hsz hun hlt hcl hpe hse hT hr hk;have hL:L= []:=bR hl;subst hL;cases he;refine ⟨List.eq_nil_iff_forall_not_mem.2 λj hj=>?_,s,pl,Eqv.refl _,hr,hk⟩;obtain ⟨h1,o,ho,_⟩:=mem_ready.1 hj;exact absurd ((hun j (zamX.1 ho).1).1 h1) (by simp)
 |succ m ih=>
  intro L R s s' tr pl a w hl he hpw hnd hsz hun hlt hcl hpe hse hT hr hk;refine ⟨λh0=>?_,λj hj=>?_⟩
  ·cases L with
   |nil=>cases hl
   |cons i r=>
    have hi:=hlt i (zamN ..);have ho:=Array.getElem?_eq_getElem hi;have hself:=hse i (zamN ..);simp only [wE,ho] at hself;have hin:i∈Region.ready .any ops R:=mem_ready.2 ⟨(hun i hi).2 (zamN ..),_,ho,λe he' hb=>by
     have h1:=Array.all_eq_true_iff_forall_mem.1 hself e he';simp only [hb,Bool.not_true,Bool.false_or,zL,aG,bne_iff_ne,ne_eq] at h1;rw [pR (by rw [hsz];exact h1.1) false true];cases hq:R.getD e.on true with
     |true=>rfl
     |false=>
      rcases zamT.1 ((hun e.on h1.1).1 hq) with h2|h2
      ·exact absurd h2 h1.2
      ·have h3:=List.rel_of_pairwise_cons hpe h2;rw [yL ho he' hb] at h3;cases h3⟩
    rw [h0] at hin;cases hin
  ·obtain ⟨hRj,o,ho,hall⟩:=mem_ready.1 hj;have hjs:=(zamX.1 ho).1;obtain ⟨p,q,rfl⟩:=List.append_of_mem ((hun j hjs).1 hRj);obtain ⟨tp,tj,tq,rfl,htp,hb⟩:=BI he;obtain ⟨s1,s'',h1,h2,h3,_⟩:=hb λx hx=>by
    refine (List.pairwise_append.1 hpw).2.2 x hx (j,tj) (zamN ..) (BQ hcl ?_ ho hall);have hxp:x.1∈p:=by rw [<-htp];exact List.mem_map.2 ⟨x,hx,rfl⟩
    have hxl:=hlt x.1 (zamU _ hxp);rw [pR (by rw [hsz];exact hxl) false true];exact (hun x.1 hxl).2 (zamU _ hxp)
   have hko:ks[j]?=some (kOf ks j):=by
    have:j<ks.length:=by rw [hlen];exact hjs
    simp [kOf,this]
   have hsub:(p++q).Sublist (p++j::q):=List.Sublist.append_left (List.sublist_cons_self j q) p;have hnj:j∉p++q:=λhm=>by
    have:=List.nodup_append.1 hnd;rcases List.mem_append.1 hm with hm|hm
    ·exact this.2.2 j hm j (zamN ..) rfl
    ·exact (List.nodup_cons.1 this.2.1).1 hm
   have hfo:=hfit j o _ ho hko;refine BP hS ho hfo hr (hT j (zamZ _ (zamN ..))) h1 λu w' pl1 hr1 hk1=>?_
   refine pQ (λa' w' ⟨z,pl',e1,e2⟩=>⟨z,pl',h3.trans e1,e2⟩) (ih (p++q) (R.setIfInBounds j true) ?_ h2 ?_ (hnd.sublist hsub) (by simp [hsz]) (λi hi=>?_) (λi hi=>hlt i (hsub.subset hi)) (λi oi hoi hi e he' hb'=>?_) (hpe.sublist hsub) (λi hi=>hse i (hsub.subset hi))
    (λi hi=>hT i (hsub.subset hi)) hr1 (hk.trans (dU hk1).u))
   ·simp at hl⊢;omega
   ·exact hpw.sublist (List.Sublist.append_left (List.sublist_cons_self _ _) tp)
   ·by_cases hij:i=j
    ·subst hij;simp only [hnj,iff_false];simp [hsz,hjs]
    ·rw [getD_set_ne true (Ne.symm hij),hun i hi];simp [hij]
   ·by_cases hij:i=j
    ·subst hij;rw [ho] at hoi;cases hoi;exact getD_set_true (hall e he' hb')
    ·rw [getD_set_ne false (Ne.symm hij)] at hi;exact getD_set_true (hcl i oi hoi hi e he' hb')
theorem yM {pl:Pl} (hr:Rel F N0 T pl st a w) (n:Nat):Rel F N0 T pl st a {w with drawn:=n}/\Keep F (st.fr::st.up) (st.fr::st.up) pl pl w {w with drawn:=n}:=by
 have hK:Keep F (st.fr::st.up) (st.fr::st.up) pl pl w {w with drawn:=n}:=⟨⟨rfl,rfl,rfl,zH _,λ_ _ _=>rfl⟩,Later.refl _ _ _⟩;exact ⟨⟨⟨hr.mem.live,hr.mem.inj,λd m B hB=>bZ hK rfl (λ_ _ _ _=>rfl) (hr.mem.blk d m B hB),hr.mem.fsz,hr.mem.fix⟩,λm v hv=>hK.repA (hr.tmps m v hv),hr.size,hr.defers,hr.low⟩,hK⟩
theorem nJ {ks:List KOper} {dt:DT}:∀{L:List Nat},qN ops ks dt L=true->L.Pairwise (λi j=>rV ops i j=false)/\(∀i∈L,wE ops i=true)/\L.Pairwise λi j=>qM dt j i=false->iI (kOf ks i) (kOf ks j)=true
 | [],_=>⟨.nil,λi hi=>(by cases hi),.nil⟩
 |i::r,h=>by
  simp only [qN,zL,zamK,Cw,Bool.not_eq_true',Bool.or_eq_true] at h;obtain ⟨⟨h1,h2⟩,h3⟩:=h;obtain ⟨g1,g2,g3⟩:=nJ h3;refine ⟨.cons (λj hj=>(h2 j hj).1) g1,λk hk=>?_,.cons (λj hj hd=>?_) g3⟩
  ·rcases zamT.1 hk with rfl|hk
   ·exact h1
   ·exact g2 k hk
  ·rcases (h2 j hj).2 with h4|h4
   ·rw [hd] at h4;cases h4
   ·exact h4
theorem nK:∀{l:List Nat},fY l=true->l.Nodup
 | [],_=>List.nodup_nil
 |n::l,h=>by
  simp only [fY,zL,Bool.not_eq_true'] at h;refine List.nodup_cons.2 ⟨λhm=>?_,nK h.2⟩;have e:=List.contains_iff_mem.2 hm;rw [h.1] at e;cases e
theorem yN {n:Nat} {l:List Nat} (h:Aa n l=true):l.length=n/\l.Nodup/\(∀j,j<n->j∈l)/\∀j∈l,j<n:=by
 simp only [Aa,zL,zanG,zamK,List.mem_range,aG] at h;obtain ⟨⟨⟨h1,h2⟩,h3⟩,h4⟩:=h;exact ⟨h1,nK h2,λj hj=>List.contains_iff_mem.1 (h4 j hj),h3⟩
theorem pS {ks:List KOper} {dt:DT}:∀{L:List Nat} {p:List Nat},(∀o∈mN ks dt p L,∀d,o.1.dst=some d->d<T)->∀i∈L,∀d,(kOf ks i).dst=some d->d<T
 | [],p,h,i,hi,d,hd=>by cases hi
 |j::r,p,h,i,hi,d,hd=>by
  rcases zamT.1 hi with rfl|hi
  ·exact h _ (zamN ..) d hd
  ·exact pS (λo ho=>h o (zamR _ ho)) i hi d hd
theorem nL (hS:eM G P run) {id:Nat} {ks:List KOper} {l:List (KOper×List Bool)} {Q:Exit->Act->World->Prop} (hm:P.follows .mixedOrders=true) (hks:dC P h self ops=some ks)
  (hl:wF ops ks=some (.draw l)) (hb:∀o∈l,∀d,o.1.dst=some d->d<T) (he:mI run l [] st=some st')
  (hi:Inv F N0 T up0 pl0 w0 pl st a w) (hQ:∀pl' a' w',Inv F N0 T up0 pl0 w0 pl' st' a' w'->Q .normal a' w'):(Code.region id ops true).wp P Q a w:=by
 unfold wF at hl;rw [iF,iG] at hl;split at hl
 ·rename_i hc;cases hl;simp only [zL] at hc;generalize AZ ops ks (rT ops)=L at hc he hb;obtain ⟨p1,p2,p3,p4⟩:=yN hc.1;obtain ⟨g1,g2,g3⟩:=nJ hc.2;obtain ⟨tr,h1,h2,_,h4⟩:=nG he;obtain ⟨hr,hk⟩:=yM hi.rel (w.drawn+1);have rep:∀j,j<ops.size->(Array.replicate ops.size false).getD j true=false:=λj hj=>by simp [hj]
  have repf:∀j,(Array.replicate ops.size false).getD j false=false:=λj=>by
   simp only [Array.getD_eq_getD_getElem?,Array.getElem?_replicate];split<;>rfl
  refine wp_region_any hm (lG (Q:=λa' w'=>∃s'' pl',Eqv st' s''/\Inv F N0 T up0 pl0 w0 pl' s'' a' w') (λa' w' ⟨z,pl',e1,e2⟩=>hQ pl' a' w' (Cb e1 e2)) _ _ _ _ ?_);refine vD hS hks ops.size L _ p1 h1 ?_ p2 (by simp) (λj hj=>⟨λ_=>p3 j hj,λ_=>rep j hj⟩) p4 (λj o ho hj=>by rw [repf] at hj;cases hj) g1 g2 (pS hb) hr (hi.keep.trans (dU hk).u);have h5:tr.Pairwise λx y=>qM (rT ops) y.1 x.1=false->iI (kOf ks x.1) (kOf ks y.1)=true:=by
   have:=xD h1;rw [<-this] at g3;exact List.pairwise_map.1 g3
  refine (h4.and h5).imp_of_mem fun {x y} hx hy hxy hd=>⟨hxy.2 hd,?_⟩
  cases hf:kY ks (rT ops) y.1 x.1 with
  |true=>exact hxy.1 hf
  |false=>exact BM (h2 x hx) (h2 y hy) hd hf
 ·cases hl
end
section
variable {P:Program} {F F':Nat->Prop} {G:Nat->Option Obj} {N0:Base G} {T:Nat} {pl pl' pl0:Pl} {st st':St} {a:Act} {w w' w0:World} {fs fs':List Frame} {fr f':Frame} {up up' up0:List Frame} {Q:Exit->Act->World->Prop}
def Cc:Ex->Exit
 | .normal=> .normal
 | .exit id=> .exit id
 | .ret=> .ret
def aF:KCode->KCode
 | .seq a b=> .seq (aF a) (aF b)
 | .cond c a b=> .cond c (aF a) (aF b)
 | .block id c=> .block id (aF c)
 | .loop _ _ _ c=> .loop 0 [] [] (aF c)
 |c=>c
theorem nM {run:zo} (hS:eM G P run) {h:Hints} {self:FuncId} (N:Nat):∀(c:Code) (k0 kc:KCode) {pl:Pl} {st st':St} {ex:Ex} {a:Act} {w:World} {Q:Exit->Act->World->Prop},
  zi P h self c=some k0->aF kc=aF k0->bnd T kc=true->aK run N kc st=some (ex,st')->Inv F N0 T up0 pl0 w0 pl st a w->
  (∀pl' a' w',Inv F N0 T up0 pl0 w0 pl' st' a' w'->Q (Cc ex) a' w')->c.wp P Q a w:=by
 intro c
 induction c with
 |skip=>
  intro k0 kc pl st st' ex a w Q hc he hb hev hi hQ;simp only [zi,zS] at hc;subst hc;cases kc<;>simp only [aF,reduceCtorEq] at he;simp only [aK,zS,zamL] at hev;obtain ⟨rfl,rfl⟩:=hev;exact wp_skip (hQ _ _ _ hi)
 |region id ops draws=>
  intro k0 kc pl st st' ex a w Q hc he hb hev hi hQ;simp only [zi,zK] at hc;obtain ⟨ks,hks,hc⟩:=hc;split at hc
  ·rename_i hd;subst hd;split at hc
   ·rename_i hcond;have hc0:=hc;unfold wF at hc0;rw [iF,iG] at hc0;split at hc0
    ·cases hc0;cases kc<;>simp only [aF,reduceCtorEq,KCode.draw.injEq] at he;subst he;simp only [aK,zD,zamL] at hev;obtain ⟨st1,hev,rfl,rfl⟩:=hev;simp only [bnd,zamK] at hb;exact nL hS hcond.1 hks hc (λo ho d hd=>by have:=hb o ho;rw [hd] at this;simpa using this) hev hi hQ
    ·cases hc0
   ·cases hc
  ·rename_i hd;have hd:draws=false:=by simpa using hd
   subst hd;simp only [zS] at hc;subst hc;cases kc<;>simp only [aF,reduceCtorEq,KCode.ops.injEq] at he;rename_i l;subst he;simp only [aK,zD,zamL] at hev;obtain ⟨st1,hev,rfl,rfl⟩:=hev;simp only [bnd,zamK] at hb;exact wp_region_list (nB hS ops.toList l hks (λo ho d hd=>by have:=hb o ho;rw [hd] at this;simpa using this) hev hi hQ)
 |seq x y ihx ihy=>
  intro k0 kc pl st st' ex a w Q hc he hb hev hi hQ;simp only [zi,zK,zD] at hc;obtain ⟨k1,h1,k2,h2,rfl⟩:=hc;cases kc<;>simp only [aF,reduceCtorEq,KCode.seq.injEq] at he;simp only [bnd,zL] at hb;simp only [aK,zK] at hev;obtain ⟨⟨e1,st1⟩,hev1,hev⟩:=hev;refine wp_seq (ihx k1 _ h1 he.1 hb.1 hev1 hi λpl' a' w' hi'=>?_);cases e1 with
  |normal=>exact ihy k2 _ h2 he.2 hb.2 hev hi' hQ
  |exit id=>cases hev;exact hQ _ _ _ hi'
  |ret=>cases hev;exact hQ _ _ _ hi'
 |cond b x y ihx ihy=>
  intro k0 kc pl st st' ex a w Q hc he hb hev hi hQ;simp only [zi,zK,zD] at hc;obtain ⟨kb,hkb,k1,h1,k2,h2,rfl⟩:=hc;cases kc<;>simp only [aF,reduceCtorEq,KCode.cond.injEq] at he;obtain ⟨rfl,he1,he2⟩:=he;simp only [bnd,zL] at hb;simp only [aK] at hev;split at hev
  ·rename_i t ht;have e1:=zG hi.rel hkb;rw [ht] at e1;have e1:=mP e1;refine wp_cond e1 ?_;cases t
   ·exact ihy k2 _ h2 he2 hb.2 hev hi hQ
   ·exact ihx k1 _ h1 he1 hb.1 hev hi hQ
  ·cases hev
 |block id c ih=>
  intro k0 kc pl st st' ex a w Q hc he hb hev hi hQ;simp only [zi,zD] at hc;obtain ⟨k1,h1,rfl⟩:=hc;cases kc<;>simp only [aF,reduceCtorEq,KCode.block.injEq] at he;obtain ⟨rfl,he⟩:=he;simp only [bnd] at hb;simp only [aK,zD,zamL] at hev;obtain ⟨⟨e1,st1⟩,hev,h2,rfl⟩:=hev;refine wp_block (ih k1 _ h1 he hb hev hi λpl' a' w' hi'=>?_);have:=hQ pl' a' w' hi';cases e1 with
  |normal=>simp only [reduceCtorEq,if_false] at h2;subst h2;exact this
  |exit id'=>
   simp only [Ex.exit.injEq] at h2;simp only [Cc,Exit.inBlock];split at h2
   ·rename_i hid;subst hid;subst h2;rw [if_pos rfl];exact this
   ·rename_i hid;subst h2;rw [if_neg hid];exact this
  |ret=>simp only [reduceCtorEq,if_false] at h2;subst h2;exact this
 |loop c ih=>
  intro k0 kc pl st st' ex a w Q hc he hb hev hi hQ;simp only [zi,zD] at hc;obtain ⟨k1,h1,rfl⟩:=hc;cases kc<;>simp only [aF,reduceCtorEq,KCode.loop.injEq] at he;rename_i mk keep bM kc';have he:=he.2.2.2;simp only [bnd] at hb;simp only [aK,zD,Prod.exists,zamL] at hev;obtain ⟨e0,s0,hev,rfl,rfl⟩:=hev;have hQ':∀pl' a' w',Inv F N0 T up0 pl0 w0 pl' s0 a' w'->Q (Cc e0) a' w':=λpl' a' w' hi'=>by
   obtain ⟨pl1,g1,g2⟩:=sS hi'.rel (kX e0 bM);exact hQ pl1 a' w' ⟨g1,hi'.keep.trans g2⟩
  have key:∀m {pl:Pl} {st:St} {a:Act} {w:World},uF (aK run N kc') keep m st=some (e0,s0)->Inv F N0 T up0 pl0 w0 pl st a w->Code.rounds P c Q m a w:=by
   intro m
   induction m with
   |zero=>intro pl st a w h;simp [uF] at h
   |succ m ihm=>
    intro pl st a w hit hi;simp only [uF,zK] at hit;obtain ⟨⟨e1,st1⟩,hev1,hit⟩:=hit;obtain ⟨pl1,g1,g2⟩:=sS hi.rel keep;rw [rounds_succ];refine ih k1 _ h1 he hb hev1 ⟨g1,hi.keep.trans g2⟩ λpl' a' w' hi'=>?_
    cases e1 with
    |normal=>exact ihm hit hi'
    |exit id=>cases hit;exact hQ' _ _ _ hi'
    |ret=>cases hit;exact hQ' _ _ _ hi'
  exact wp_loop_rounds N (key N hev hi)
 |exit id=>
  intro k0 kc pl st st' ex a w Q hc he hb hev hi hQ;simp only [zi,zS] at hc;subst hc;cases kc<;>simp only [aF,reduceCtorEq,KCode.exit.injEq] at he;subst he;simp only [aK,zS,zamL] at hev;obtain ⟨rfl,rfl⟩:=hev;exact wp_exit (hQ _ _ _ hi)
 |ret=>
  intro k0 kc pl st st' ex a w Q hc he hb hev hi hQ;simp only [zi,zS] at hc;subst hc;cases kc<;>simp only [aF,reduceCtorEq] at he;simp only [aK,zS,zamL] at hev;obtain ⟨rfl,rfl⟩:=hev;exact wp_ret (hQ _ _ _ hi)
 |scope c ih=>
  intro k0 kc pl st st' ex a w Q hc he hb hev hi hQ;simp only [zi] at hc;refine wp_scope_straight (ih k0 kc hc he hb hev hi λpl' a' w' hi'=>?_);have:=hQ pl' a' w' hi';cases ex<;>exact this
 |_=>
  intro k0 kc pl st st' ex a w Q hc;simp [zi] at hc
end
section
variable {P:Program} {F F':Nat->Prop} {G:Nat->Option Obj} {N0:Base G} {T:Nat} {pl pl' pl0:Pl} {st st':St} {a:Act} {w w' w0:World} {fs fs':List Frame} {fr f':Frame} {up up' up0:List Frame} {Q:Exit->Act->World->Prop}
def qZ (F:Nat->Prop) (fs:List Frame) (pl:Pl) (w:World) (u:Value) (c:Bool×List CV):Prop:=
 (c.1=true/\∃ys:List Value,u= .agg ys.toArray/\zT F fs pl w ys c.2)\/(c.1=false/\∃x,c.2= [x]/\cM F fs pl w u x)
def RepL (F:Nat->Prop) (fs:List Frame) (pl:Pl) (w:World) (us:List Value) (vs:List (Bool×List CV)):Prop:=
 us.length=vs.length/\∀(i:Nat) u c,us[i]?=some u->vs[i]?=some c->qZ F fs pl w u c
theorem RepL.nil:RepL F fs pl w [] []:=⟨rfl,λi u c hu=>by simp at hu⟩
theorem RepL.cons {u:Value} {c:Bool×List CV} {us:List Value} {vs:List (Bool×List CV)} (h:qZ F fs pl w u c) (h':RepL F fs pl w us vs):RepL F fs pl w (u::us) (c::vs):=by
 refine ⟨by simp [h'.1],λi u' c' hu hc=>?_⟩;cases i with
 |zero=>
  simp only [List.getElem?_cons_zero,zS] at hu hc;subst hu;subst hc;exact h
 |succ i=>exact h'.2 i u' c' (by simpa using hu) (by simpa using hc)
theorem RepL.uncons {c:Bool×List CV} {us:List Value} {vs:List (Bool×List CV)} (h:RepL F fs pl w us (c::vs)):∃u us',us=u::us'/\qZ F fs pl w u c/\RepL F fs pl w us' vs:=by
 match us,h with
 | [],h=>exact absurd h.1 (by simp)
 |u::us,h=>exact ⟨u,us,rfl,h.2 0 u c rfl rfl,by simpa using h.1,λi u' c' hu hc=>h.2 (i+1) u' c' (by simpa using hu) (by simpa using hc)⟩
theorem Keep.rep1 (h:Keep F fs fs' pl pl' w w') {u:Value} {c:Bool×List CV} (hr:qZ F fs pl w u c):qZ F fs' pl' w' u c:=by
 rcases hr with ⟨e,ys,h1,h2⟩|⟨e,x,h1,h2⟩
 ·exact .inl ⟨e,ys,h1,h.repCs h2⟩
 ·exact .inr ⟨e,x,h1,h.repC h2⟩
theorem Keep.repL (h:Keep F fs fs' pl pl' w w') {us:List Value} {vs:List (Bool×List CV)} (hr:RepL F fs pl w us vs):RepL F fs' pl' w' us vs:=
 ⟨hr.1,λi u c hu hc=>h.rep1 (hr.2 i u c hu hc)⟩
theorem nN {us:List Value} {vs:List (Bool×List CV)} (hr:RepL F fs pl w us vs):zf F fs pl w (if h:us.length=1 then us[0] else .tuple us.toArray) (bS vs):=by
 by_cases hl:vs.length=1
 ·match vs,hl,hr with
  | [(g,cs)],_,hr=>
   obtain ⟨u,us',rfl,h1,h2⟩:=hr.uncons;have:us'= []:=bR h2.1;subst this;rcases h1 with ⟨e,ys,h3,h4⟩|⟨e,y,h3,h4⟩
   ·simp only at e h4;subst e;exact ⟨ys,h3,h4⟩
   ·simp only at e h3;subst e;subst h3;exact h4
 ·have hne:¬us.length=1:=by rw [hr.1];exact hl
  have ha:bS vs= .tup vs:=by
   match vs,hl with
   | [],_=>rfl
   | [_],hl=>exact absurd rfl hl
   |_::_::_,_=>unfold bS;split<;>simp_all
  rw [ha,dif_neg hne];exact ⟨us,rfl,hr.1,hr.2⟩
def cP (tmps:Array Value):ResultVar->Sem Value
 | .tmp t=>pure (tmps.getD t undef)
 | .cell a t=>do loadVar t (<-asAddr (tmps.getD a undef))
theorem nO (hm:MemOK F N0 (st.fr::st.up) pl w) {tmps:Array Value} (ht:∀n v,zE n st.t=some v->zf F (st.fr::st.up) pl w (tmps.getD n undef) v):
  ∀(rs:List ResultVar) (ks:List (Nat⊕(Nat×Bool×Nat))) (vs:List (Bool×List CV)),rs.mapM (iY P)=some ks->fQ st ks=some vs->∃us,(rs.mapM (cP tmps)).run P w= .ok us w/\RepL F (st.fr::st.up) pl w us vs
 | [],ks,vs,hc,h=>by
  simp only [List.mapM_nil,Option.pure_def,zS] at hc;subst hc;simp only [fQ,zS] at h;subst h;exact ⟨[],by simp,RepL.nil⟩
 |r::rs,ks,vs,hc,h=>by
  simp only [List.mapM_cons,Option.pure_def,Option.bind_eq_bind,zK,zS] at hc;obtain ⟨k,hk,ks',hks,rfl⟩:=hc;have hev:∀n,zf F (st.fr::st.up) pl w (tmps.getD n undef) (st.eval (.t n)):=λn=>by
   simp only [St.eval];split
   ·exact ht n _ ‹_›
   ·trivial
  have fin:∀{u:Value} {c:Bool×List CV} {vs':List (Bool×List CV)},(cP tmps r).run P w= .ok u w->qZ F (st.fr::st.up) pl w u c->fQ st ks'=some vs'->vs=c::vs'->∃us,((r::rs).mapM (cP tmps)).run P w= .ok us w/\RepL F (st.fr::st.up) pl w us vs:=by
   intro u c vs' hrun hrep hres hvs;obtain ⟨us,h1,h2⟩:=nO hm ht rs ks' vs' hks hres;subst hvs;exact ⟨u::us,by simp [List.mapM_cons,hrun,h1],h2.cons hrep⟩
  cases r with
  |tmp t=>
   simp only [iY,zS] at hk;subst hk;simp only [fQ] at h;have hv:=hev t;split at h
   ·rename_i x hx;obtain ⟨vs',h1,rfl⟩:=zD.1 h;rw [hx] at hv;exact fin (by simp [cP]) (.inr ⟨rfl,x,rfl,hv⟩) h1 rfl
   ·rename_i cs hx;obtain ⟨vs',h1,rfl⟩:=zD.1 h;rw [hx] at hv;obtain ⟨ys,h2,h3⟩:=hv;exact fin (by simp [cP]) (.inl ⟨rfl,ys,h2,h3⟩) h1 rfl
   ·cases h
  |cell ad t=>
   simp only [iY,zD] at hk;obtain ⟨g,hg,rfl⟩:=hk;simp only [fQ,zK,zD] at h;obtain ⟨cs,h1,v,h2,vs',h3,rfl⟩:=h;obtain ⟨ad',us,h4,h5,h6,h7⟩:=mR hm h1 (hev ad);obtain ⟨l1,l2⟩:=kZ hg h5 h6;rcases uN h2 h7 with ⟨e,h8⟩|⟨e,u,h8,h9⟩
   ·exact fin (by simp [cP,asAddr,h4,l1 e]) (.inl ⟨e,us,rfl,h7⟩) h3 rfl
   ·subst h8;subst e;obtain ⟨x,rfl⟩:∃x,cs= [x]:=List.length_eq_one_iff.1 h7.1.symm;exact fin (by simp [cP,asAddr,h4,l2 rfl u rfl]) (.inr ⟨rfl,x,rfl,(h7.2 0 u x rfl rfl).1⟩) h3 rfl
theorem xE:∀{vs ls:List (Bool×List CV)} {st st':St} {pl:Pl} {us:List Value},MemOK F N0 (st.fr::st.up) pl w->N0.n<=w.heap.size->bM st vs=some (ls,st')->RepL F (st.fr::st.up) pl w us vs->
  ∃pl',Same F N0 pl st st' w pl'/\RepL F (st'.fr::st'.up) pl' w us ls/\∀c∈ls,∀x∈c.2,∃p,x= .p p
 | [],ls,st,st',pl,us,hm,hN,h,hr=>by
  simp only [bM,zS,zamL] at h;obtain ⟨rfl,rfl⟩:=h;exact ⟨pl,Same.refl hm,hr,λc hc=>by cases hc⟩
 |(g,cs)::vs,ls,st,st',pl,us,hm,hN,h,hr=>by
  simp only [bM,zK,zD,zamL,Prod.exists] at h;obtain ⟨ps,st1,h1,l,st2,h2,rfl,rfl⟩:=h;obtain ⟨u,us',rfl,h3,h4⟩:=hr.uncons;have key:∃pl1,Same F N0 pl st st1 w pl1/\qZ F (st1.fr::st1.up) pl1 w u (g,ps.map CV.p):=by
   rcases h3 with ⟨e,ys,h5,h6⟩|⟨e,x,h5,h6⟩
   ·obtain ⟨pl1,s1,r1⟩:=eC hm hN h1 h6;exact ⟨pl1,s1,.inl ⟨e,ys,h5,r1.cs⟩⟩
   ·simp only at h5;subst h5;have h7:=h1;simp only [aP,zK,zS,zamL,Prod.exists] at h7;obtain ⟨p,st3,h8,ps2,st4,⟨rfl,rfl⟩,rfl,rfl⟩:=h7;obtain ⟨pl1,s1,r1⟩:=iJ hm hN h8 h6;exact ⟨pl1,s1,.inr ⟨e,.p p,rfl,r1⟩⟩
  obtain ⟨pl1,s1,r1⟩:=key;obtain ⟨pl2,s2,r2,r3⟩:=xE s1.mem hN h2 (s1.keep.repL h4);refine ⟨pl2,s1.trans s2,r2.cons (s2.keep.rep1 r1),λc hc x hx=>?_⟩;rcases zamT.1 hc with rfl|hc
  ·obtain ⟨p,_,rfl⟩:=List.mem_map.1 hx;exact ⟨p,rfl⟩
  ·exact r3 c hc x hx
theorem pT:∀(l:List AV) (i n:Nat),zE n (mK l i)=if i<=n then l[n-i]? else none
 | [],i,n=>by simp [mK,zE]
 |x::r,i,n=>by
  simp only [mK,zE];by_cases h:i=n
  ·subst h;simp
  ·rw [if_neg h,pT r (i+1) n];by_cases h2:i+1<=n
   ·rw [if_pos h2,if_pos (by omega)];obtain ⟨k,rfl⟩:∃k,n=i+1+k:=⟨n-(i+1),by omega⟩;rw [show i+1+k-i=k+1 by omega,show i+1+k-(i+1)=k by omega];rfl
   ·rw [if_neg h2,if_neg (by omega)]
theorem cF (d n:Nat) (up:List Frame):zA d n ([]::up)=zA d n up:=by
 simp only [zA];split
 ·rename_i h;simp only [zE];cases hq:zA d n up with
  |none=>rfl
  |some B=>have:=zO hq;omega
 ·rfl
theorem Cd (m:Nat):Low m up pl ([]::up) pl:=⟨λd n _=>⟨cF d n up,rfl⟩,λd n j b s h=>⟨d,n,j,h⟩⟩
theorem xF (hm:MemOK F N0 up pl w):MemOK F N0 ([]::up) pl w:=
 ⟨λd n j b s h=>by rw [cF];exact hm.live d n j b s h,hm.inj,λd n B hB=>by
  rw [cF] at hB;exact (Cd (d+1)).blk (Nat.lt_succ_self d) (hm.blk d n B hB),hm.fsz,hm.fix⟩
theorem pU {u:Value} {v:AV} (hv:∀c∈v.cvs,∃p,c= .p p) (hP:∀{u p},RepP (Own F pl) w u p->RepP (Own F' pl') w' u p) (h:zf F fs pl w u v):zf F' fs' pl' w' u (v.map (dL up.length)):=
 eD (λu c hc h=>by obtain ⟨p,rfl⟩:=hv c hc;exact hP h) (λc h=>by subst h;rfl) h
theorem nP {l:List (Bool×List CV)} {c:CV} (h:c∈(bS l).cvs):∃x∈l,c∈x.2:=by
 unfold bS at h;split at h
 ·exact ⟨_,zamN ..,h⟩
 ·exact ⟨_,zamN ..,by simpa [AV.cvs] using h⟩
 ·simp only [AV.cvs,zamP] at h;exact h
theorem yO (res:List Nat):∀(k:KCode) (p:Nat) (env:List (Nat×List Nat)) (out:List Nat),aF (cN res p k env out)=aF k:=by
 intro k
 induction k with
 |seq a b iha ihb=>intro p env out;simp only [cN,aF,iha,ihb]
 |cond c a b iha ihb=>intro p env out;simp only [cN,aF,iha,ihb]
 |block id c ih=>intro p env out;simp only [cN,aF,ih]
 |loop mk l os c ih=>intro p env out;simp only [cN,aF,ih]
 |_=>intro p env out;rfl
theorem tA {c c':CV} {B:Blk} (h:rS st c=some (c',B)):∃n B0,zA st.up.length n (st.fr::st.up)=some B0/\B={B0 with g:=0}/\B0.k.okO=true/\c'.po=true/\
  ∀{F:Nat->Prop} {pl pl3:Pl} {w:World} {v:Value},pl3 st.up.length 0=pl st.up.length n->cM F (st.fr::st.up) pl w v c->cM F (zq [B] 0::st.up) pl3 w v (dL st.up.length c'):=by
 unfold rS at h;split at h
 ·rename_i d n g;split at h
  ·rename_i hd;subst hd;split at h
   ·rename_i g' sz ty cells hB;split at h
    ·rename_i hc;obtain ⟨rfl,hp⟩:=hc;cases h;refine ⟨n,_,hB,rfl,hp,rfl,fun {F pl pl3 w v} q0 hr=>?_⟩;obtain ⟨h1,B1,h2,h3,h4⟩:=hr;have h2:some B1=some _:=h2.symm.trans hB;cases h2;obtain ⟨b,s,h5,h6⟩:=h4 rfl;exact ⟨h1,⟨0,sz,ty,.box cells⟩,by simp [zq,zA,zE],zH _,λ_=>⟨b,s,by rw [q0];exact h5,by simpa using h6⟩⟩
    ·cases h
   ·cases h
  ·cases h
 ·rename_i d n g m;split at h
  ·rename_i hd;subst hd;split at h
   ·rename_i g' sz ty rows hB;split at h
    ·rename_i hc;subst hc;cases h;refine ⟨n,_,hB,rfl,rfl,rfl,fun {F pl pl3 w v} q0 hr=>?_⟩;obtain ⟨h1,B1,h2,h3,h4⟩:=hr;have h2:some B1=some _:=h2.symm.trans hB;cases h2;refine ⟨h1,⟨0,sz,ty,.row rows⟩,by simp [zq,zA,zE],zH _,λ_=>?_⟩;rw [q0];exact h4 rfl
    ·cases h
   ·rename_i g' sz ty cols rows hB;split at h
    ·rename_i hc;subst hc;cases h;refine ⟨n,_,hB,rfl,rfl,rfl,fun {F pl pl3 w v} q0 hr=>?_⟩;obtain ⟨h1,B1,h2,h3,h4⟩:=hr;have h2:some B1=some _:=h2.symm.trans hB;cases h2;refine ⟨h1,⟨0,sz,ty,.deep cols rows⟩,by simp [zq,zA,zE],zH _,λ_=>?_⟩;rw [q0];exact h4 rfl
    ·cases h
   ·cases h
  ·cases h
 ·cases h
theorem vE (f:CV->CV):∀l:List (Bool×List CV),(bS l).map f=bS (l.map λx=>(x.1,x.2.map f))
 | []=>rfl
 | [(true,cs)]=>rfl
 | [(false,[])]=>rfl
 | [(false,[x])]=>rfl
 | [(false,x::y::r)]=>rfl
 |(a,b)::(c,d)::r=>by
  have h1:∀(p q:Bool×List CV) (r:List (Bool×List CV)),bS (p::q::r)= .tup (p::q::r):=λp q r=>by
   unfold bS;split<;>simp_all
  rw [zanE,zanE,h1,h1];simp only [AV.map,zanE]
theorem tB {fs':List Frame} {m:Nat} {us:List Value} {cs:List CV} (hP:∀{u p},RepP (Own F pl) w u p->RepP (Own F pl') w u p) (h:cs.all isP=true) (hr:zT F fs pl w us cs):zT F fs' pl' w us (cs.map (dL m)):=
 ⟨by rw [zamV];exact hr.1,λi u c hu hc=>by
  rw [zamS] at hc;obtain ⟨c0,h0,rfl⟩:=zD.1 hc;have h9:=zamK.1 h c0 (aC h0);obtain ⟨h1,h2⟩:=hr.2 i u _ hu h0;cases c0 with
  |p x=>exact ⟨hP h1,h2⟩
  |_=>cases h9⟩
theorem xG {fs':List Frame} {m:Nat} {u:Value} {g:Bool} {cs:List CV} (hP:∀{u p},RepP (Own F pl) w u p->RepP (Own F pl') w u p) (h:cs.all isP=true) (hr:qZ F fs pl w u (g,cs)):qZ F fs' pl' w u (g,cs.map (dL m)):=by
 rcases hr with ⟨e,ys,h1,h2⟩|⟨e,x,h1,h2⟩
 ·exact .inl ⟨e,ys,h1,tB hP h h2⟩
 ·simp only at h1;subst h1;have h9:=zamK.1 h x (zamN ..);cases x with
  |p x=>exact .inr ⟨e,.p x,rfl,hP h2⟩
  |_=>cases h9
theorem rA {fs':List Frame} {m:Nat} (hP:∀{u p},RepP (Own F pl) w u p->RepP (Own F pl') w u p):∀{l:List (Bool×List CV)} {us:List Value},(l.all λx=>x.2.all isP)=true->RepL F fs pl w us l->RepL F fs' pl' w us (l.map λx=>(x.1,x.2.map (dL m)))
 | [],us,h,hr=>by
  have:=bR hr.1;subst this;exact RepL.nil
 |(g,cs)::l,us,h,hr=>by
  obtain ⟨u,us',rfl,h1,h2⟩:=hr.uncons;simp only [zanC,zL] at h;exact RepL.cons (xG hP h.1 h1) (rA hP h.2 h2)
theorem nQ {c:CV} (h:isP c=true):c.po=true:=by
 cases c with
 |p x=>rfl
 |_=>cases h
theorem BS {fs:List Frame} {u:Value} {us:List Value} {c:CV} {cs:List CV} (h1:cM F fs pl w u c) (h2:c= .u\/u.oneCell'=true) (h:zT F fs pl w us cs):zT F fs pl w (u::us) (c::cs):=
 ⟨by simp [h.1],λi v d hv hd=>by
  cases i with
  |zero=>cases hv;cases hd;exact ⟨h1,h2⟩
  |succ i=>exact h.2 i v d (by simpa using hv) (by simpa using hd)⟩
theorem tC {fs:List Frame} {us:List Value} {c:CV} {cs:List CV} (h:zT F fs pl w us (c::cs)):∃u us',us=u::us'/\cM F fs pl w u c/\(c= .u\/u.oneCell'=true)/\zT F fs pl w us' cs:=by
 cases us with
 |nil=>have:=h.1;simp at this
 |cons u us=>
  obtain ⟨h1,h2⟩:=h.2 0 u c rfl rfl;exact ⟨u,us,rfl,h1,h2,by have:=h.1;simpa using this,λi v d hv hd=>h.2 (i+1) v d (by simpa using hv) (by simpa using hd)⟩
theorem yP {c c':CV} {B:Blk} (h:rS st c=some (c',B)):c≠ .u:=by
 rintro rfl;cases h
theorem tD:∀{cs cs':List CV} {B:Blk},wA st cs=some (cs',B)->∃n B0,zA st.up.length n (st.fr::st.up)=some B0/\B={B0 with g:=0}/\B0.k.okO=true/\(∀c∈cs',c.po=true)/\
  ∀{F:Nat->Prop} {pl pl3:Pl} {w:World} {us:List Value},pl3 st.up.length 0=pl st.up.length n->(∀{u p},RepP (Own F pl) w u p->RepP (Own F pl3) w u p)->zT F (st.fr::st.up) pl w us cs->zT F (zq [B] 0::st.up) pl3 w us (cs'.map (dL st.up.length))
 | [],cs',B,h=>by cases h
 |c::r,cs',B,h=>by
  unfold wA at h;split at h
  ·rename_i hp;obtain ⟨⟨l2,B2⟩,h1,h2⟩:=zD.1 h;cases h2;obtain ⟨n,B0,k1,k2,k3,k4,k5⟩:=tD h1;refine ⟨n,B0,k1,k2,k3,λx hx=>?_,λq hP hr=>?_⟩
   ·rcases zamT.1 hx with rfl|hx
    ·exact nQ hp
    ·exact k4 x hx
   ·obtain ⟨u,us',rfl,h3,h4,h5⟩:=tC hr;cases c with
    |p x=>exact BS (hP h3) (.inr (RepP.one (show RepP _ _ _ x from h3)).1) (k5 q hP h5)
    |_=>simp [isP] at hp
  ·split at h
   ·rename_i ha;obtain ⟨⟨c',B2⟩,h1,h2⟩:=zD.1 h;cases h2;obtain ⟨n,B0,k1,k2,k3,k4,k5⟩:=tA h1;refine ⟨n,B0,k1,k2,k3,λx hx=>?_,λq hP hr=>?_⟩
    ·rcases zamT.1 hx with rfl|hx
     ·exact k4
     ·exact nQ (zamK.1 ha x hx)
    ·obtain ⟨u,us',rfl,h3,h4,h5⟩:=tC hr;exact BS (k5 q h3) (.inr (h4.resolve_left (yP h1))) (tB hP ha h5)
   ·cases h
theorem tE:∀{l l':List (Bool×List CV)} {B:Blk},wB st l=some (l',B)->∃n B0,zA st.up.length n (st.fr::st.up)=some B0/\B={B0 with g:=0}/\B0.k.okO=true/\(∀x∈l',∀c∈x.2,c.po=true)/\
  ∀{F:Nat->Prop} {pl pl3:Pl} {w:World} {us:List Value},pl3 st.up.length 0=pl st.up.length n->(∀{u p},RepP (Own F pl) w u p->RepP (Own F pl3) w u p)->RepL F (st.fr::st.up) pl w us l->RepL F (zq [B] 0::st.up) pl3 w us (l'.map λx=>(x.1,x.2.map (dL st.up.length)))
 | [],l',B,h=>by cases h
 |(g,cs)::r,l',B,h=>by
  unfold wB at h;split at h
  ·rename_i hp;obtain ⟨⟨l2,B2⟩,h1,h2⟩:=zD.1 h;cases h2;obtain ⟨n,B0,k1,k2,k3,k4,k5⟩:=tE h1;refine ⟨n,B0,k1,k2,k3,λx hx c hc=>?_,λq hP hr=>?_⟩
   ·rcases zamT.1 hx with rfl|hx
    ·exact nQ (zamK.1 hp c hc)
    ·exact k4 x hx c hc
   ·obtain ⟨u,us',rfl,h3,h4⟩:=hr.uncons;exact RepL.cons (xG hP hp h3) (k5 q hP h4)
  ·split at h
   ·rename_i c hp;split at h
    ·rename_i ha;obtain ⟨⟨c',B2⟩,h1,h2⟩:=zD.1 h;cases h2;obtain ⟨n,B0,k1,k2,k3,k4,k5⟩:=tA h1;refine ⟨n,B0,k1,k2,k3,λx hx c hc=>?_,λq hP hr=>?_⟩
     ·rcases zamT.1 hx with rfl|hx
      ·simp only [zamQ] at hc;subst hc;exact k4
      ·exact nQ (zamK.1 (zamK.1 ha x hx) c hc)
     ·obtain ⟨u,us',rfl,h3,h4⟩:=hr.uncons;rcases h3 with ⟨e,_⟩|⟨e,x,h5,h6⟩
      ·cases e
      ·cases h5;exact RepL.cons (.inr ⟨rfl,_,rfl,k5 q h6⟩) (rA hP ha h4)
    ·cases h
   ·rename_i cs hp;split at h
    ·rename_i ha;obtain ⟨⟨cs',B2⟩,h1,h2⟩:=zD.1 h;cases h2;obtain ⟨n,B0,k1,k2,k3,k4,k5⟩:=tD h1;refine ⟨n,B0,k1,k2,k3,λx hx c hc=>?_,λq hP hr=>?_⟩
     ·rcases zamT.1 hx with rfl|hx
      ·exact k4 c hc
      ·exact nQ (zamK.1 (zamK.1 ha x hx) c hc)
     ·obtain ⟨u,us',rfl,h3,h4⟩:=hr.uncons;rcases h3 with ⟨_,ys,rfl,h6⟩|⟨e,_⟩
      ·exact RepL.cons (.inl ⟨rfl,ys,rfl,k5 q hP h6⟩) (rA hP ha h4)
      ·cases e
    ·cases h
   ·cases h
theorem tG {r:Res} (h:jY r=true):r.up= []/\((r.v= .c (.p (.ls []))/\r.rows= [])\/∃sz ty,r.v= .c (.own 0 0 0 0)/\r.rows= [⟨0,sz,ty,.row []⟩]):=by
 obtain ⟨v,up,rows⟩:=r;simp only [jY,zL,List.isEmpty_iff] at h;obtain ⟨h1,h⟩:=h;refine ⟨h1,?_⟩;split at h
 ·simp only [List.isEmpty_iff] at h;subst h;exact .inl ⟨rfl,rfl⟩
 ·simp only [zL,zanG,List.isEmpty_iff] at h;obtain ⟨rfl,rfl⟩:=h;exact .inr ⟨_,_,rfl,rfl⟩
 ·cases h
theorem Ce {r:Res} (he:jY r=true) {w':World} {fs':List Frame} (hm:MemOK F N0 fs' pl' w') (hk:Step pl w w'):RetOK F N0 [] pl w r (.slice none 0 0) w':=by
 have keep:KeepU [] [] pl cE w w':=⟨hk,rfl,λd n b hb=>by simp [zA] at hb,λd n j b s h=>by cases h⟩;obtain ⟨h1,h⟩:=tG he;rcases h with ⟨h2,h3⟩|⟨sz,ty,h2,h3⟩
 ·refine ⟨⟨cE,?_,?_,?_⟩,λc hc=>?_,λB hB=>?_⟩
  ·rw [h2];exact RepP.nls
  ·rw [h1,h3];exact ⟨λd n j b s h=>(by cases h),λd n j d' n' j' b s s' h=>(by cases h),λd n B hB=>(by simp [zq,zA,zE] at hB),hm.fsz,hm.fix⟩
  ·rw [h1];exact keep
  ·rw [h2] at hc;simp only [AV.cvs,zamQ] at hc;subst hc;rfl
  ·rw [h3] at hB;cases hB
 ·refine ⟨⟨cE,?_,?_,?_⟩,λc hc=>?_,λB hB=>?_⟩
  ·rw [h1,h2,h3];exact ⟨rfl,⟨0,sz,ty,.row []⟩,by simp [zq,zA,zE],zH _,λ_=> .inl ⟨rfl,rfl,rfl⟩⟩
  ·rw [h1,h3];refine ⟨λd n j b s h=>(by cases h),λd n j d' n' j' b s s' h=>(by cases h),λd n B hB=>?_,hm.fsz,hm.fix⟩;have hlt:=zO hB;simp only [zamM,zanD] at hlt;have hd:d=0:=by omega
   subst hd;simp only [zq,zA,zanD,if_true,zE] at hB;split at hB
   ·cases hB;exact .inl ⟨rfl,rfl⟩
   ·cases hB
  ·rw [h1];exact keep
  ·rw [h2] at hc;simp only [AV.cvs,zamQ] at hc;subst hc;rfl
  ·rw [h3] at hB;simp only [zamQ] at hB;subst hB;exact ⟨rfl,rfl⟩
theorem nR {d:Nat} {u:Value} {a:Act} (h:d<a.tmps.size):(a.put (some d) u).tmps.getD d undef=u:=by simp [Act.put,h]
theorem BU {d n:Nat} {u:Value} {a:Act} (h:d≠n):(a.put (some d) u).tmps.getD n undef=a.tmps.getD n undef:=by
 simp [Act.put,Array.getD_eq_getD_getElem?,Array.getElem?_setIfInBounds,h]
theorem eY {d:Option Nat} {u:Value} {a:Act}:(a.put d u).tmps.size=a.tmps.size:=by cases d<;>simp [Act.put]
theorem iP {d:Option Nat} {u:Value} {a:Act}:(a.put d u).defers=a.defers:=by cases d<;>simp [Act.put]
theorem nS {o:Oper} {a:Act} {w:World} {u:Value} {K:Act->World->Prop} {Q:Exit->Act->World->Prop} (h:(execOp a.eval o).run P w= .ok (.value u) w) (hK:K (a.put o.dst u) w):o.wp P a w K Q:=
 qX (zg (R:=λu' w2=>u'=u/\w2=w) h ⟨rfl,rfl⟩ K λu' w2 e=>by obtain ⟨rfl,rfl⟩:=e;exact hK)
theorem pV {o:Oper} (h:CH o=true):o.op= .assign (.const (.slice none 0 0))/\o.dst=some 2/\o.guard=none:=by
 unfold CH at h;split at h
 ·exact ⟨by assumption,by assumption,by assumption⟩
 ·cases h
theorem yQ {o:Oper} (h:C7 o=true):o.op= .move (.tmp 0)/\o.dst=some 3/\o.guard=none:=by
 unfold C7 at h;split at h
 ·exact ⟨by assumption,by assumption,by assumption⟩
 ·cases h
theorem yR {o:Oper} (h:C8 P o=true):∃t e pos,o.op= .binOp .eql t (.tmp 3) (.const (.slice none 0 0)) pos/\P.underlying t=some (.slice e)/\o.dst=some 4/\o.guard=none:=by
 unfold C8 at h;split at h
 ·rename_i t p h1 h2 h3;split at h
  ·rename_i e he;exact ⟨t,e,p,h1,he,h2,h3⟩
  ·cases h
 ·cases h
theorem Cf {run:zo} (hS:eM G P run) {h:Hints} {f:FuncId} {fn:Func} {n:Nat} {c:Code} {k0 kc:KCode} {pl0:Pl} {st0:St} {ex:Ex} {a:Act} {w1:World} (hc:mO P fn=some c) (hk0:zi P h f c=some k0) (he:aF kc=aF k0) (hb:bnd T kc=true)
  (h1:aK run n kc st0=some (ex,st)) (hi:Inv F N0 T up pl w pl0 st0 a w1) {body:Code} (hbody:fn.body=some body) (hQ:∀pl' a' w',Inv F N0 T up pl w pl' st a' w'->Q (Cc ex) a' w')
  (h0:(fD P fn).isSome=true->4<T/\∃rows,zE 0 st0.t=some (.c (.p (.ls rows)))/\(∀m,m≠0->zE m st0.t=none)/\(rows= []->∀pl' st1 a' w',Inv F N0 T up pl w pl' st1 a' w'->a'.defers= []->a'.tmps.getD 2 undef= .slice none 0 0->Q .ret a' w')):body.wp P Q a w1:=by
 unfold mO at hc;cases hs:fD P fn with
 |none=>
  rw [hs] at hc;simp only [hbody,zS] at hc;subst hc;exact nM hS n _ k0 kc hk0 he hb h1 hi hQ
 |some c'=>
  rw [hs] at hc h0;simp only [zS] at hc;subst hc;obtain ⟨hT,rows,g0,gm,hnil⟩:=h0 rfl;unfold fD at hs;rw [hbody] at hs;split at hs
  ·rename_i b0 i opx j ops k opb d hbq;cases hbq;split at hs
   ·rename_i x m q b ex1 ex2 ex3 ex4;split at hs
    ·rename_i hall;cases hs;simp only [zL] at hall;obtain ⟨⟨⟨⟨⟨⟨hx,hbb⟩,hm⟩,hq⟩,hp⟩,hf⟩,ht⟩:=hall;obtain ⟨x1,x2,x3⟩:=pV hx;obtain ⟨b1,b2,b3⟩:=pV hbb;obtain ⟨m1,m2,m3⟩:=yQ hm;obtain ⟨t,e,pos,q1,q2,q3,q4⟩:=yR hq;simp only [zi,zK,zD] at hk0;obtain ⟨k1,hk1,k2,hk2,rfl⟩:=hk0;cases kc<;>simp only [aF,reduceCtorEq,KCode.seq.injEq] at he;rename_i ka kb;simp only [bnd,zL] at hb;simp only [aK,zK] at h1;obtain ⟨⟨e1,st1⟩,hev1,hev⟩:=h1;have hst:e1= .normal/\∃v,st1.t=(2,v)::st0.t:=by
      obtain ⟨ks,hks,hk1⟩:=hk1;simp only [dO,if_false,zS] at hk1;subst hk1;have he1:=he.1;cases ka<;>simp only [aF,reduceCtorEq,KCode.ops.injEq] at he1;rename_i l;subst he1;unfold dC at hks;rw [ex1] at hks;simp only [List.mapM_cons,List.mapM_nil,Option.pure_def,Option.bind_eq_bind,zK,zS,x3] at hks;obtain ⟨ko,⟨kk,hkk,rfl⟩,r,rfl,rfl⟩:=hks;simp only [aK,zD,zamL] at hev1;obtain ⟨s1,hev1,rfl,rfl⟩:=hev1;refine ⟨rfl,?_⟩;unfold dT at hkk;rw [x1] at hkk;simp only at hkk;split at hkk
      ·cases hkk;rw [x2] at hev1;simp only [eI,zW,zB,zamW,aN,zS] at hev1;subst hev1;exact ⟨_,rfl⟩
      ·cases hkk
     obtain ⟨rfl,v2,hst⟩:=hst;refine wp_seq (nM hS n _ k1 _ (by simp only [zi,zK];exact hk1) he.1 hb.1 hev1 hi λpl' a' w' hi'=>?_);show Code.wp P _ Q a' w';have hsl:zE 0 st1.t=some (.c (.p (.ls rows))):=by rw [hst];simpa [zE] using g0
     have hr0:=hi'.rel.tmps 0 _ hsl;have hr0:RepP (Own F pl') w' (a'.tmps.getD 0 undef) (.ls rows):=hr0;have hz:=hi'.rel.size;refine wp_seq (wp_seq (wp_region_list ?_));rw [ex2];refine wpList_plain m3 λK hK=>nS (u:=a'.tmps.getD 0 undef) (by simp [execOp,m1,Act.eval]) (hK _ _ ?_)
     rw [m2];have e3:(a'.put (some 3) (a'.tmps.getD 0 undef)).tmps.getD 3 undef=a'.tmps.getD 0 undef:=nR (by omega);generalize hv:a'.tmps.getD 0 undef=v at hr0 e3⊢;have hsl2:∃ad nn cc,v= .slice ad nn cc:=by cases hr0<;>exact ⟨_,_,_,rfl⟩
     obtain ⟨ad,nn,cc,rfl⟩:=hsl2;refine wpList_plain q4 λK hK=>nS (u:= .bool ad.isNone) (by
      exact aM (dK (.inl (by simp)) (by simp)) (Lib.run_eql_slice_nil w' t e ad nn cc 0 0 q2) q1 e3 rfl) (hK _ _ (wpList_nil ?_))
     rw [q3];show Code.wp P _ _ _ w';have e4:((a'.put (some 3) (.slice ad nn cc)).put (some 4) (.bool ad.isNone)).tmps.getD 4 undef= .bool ad.isNone:=nR (by rw [eY];omega);have rel2:Rel F N0 T pl' st1 ((a'.put (some 3) (.slice ad nn cc)).put (some 4) (.bool ad.isNone)) w':=by
      refine ⟨hi'.rel.mem,λm x hx=>?_,by rw [eY,eY];exact hz,by rw [iP,iP];exact hi'.rel.defers,hi'.rel.low⟩;have hm3:3≠m/\4≠m:=by
       constructor
       ·rintro rfl;rw [hst] at hx;simp [zE,gm 3 (by decide)] at hx
       ·rintro rfl;rw [hst] at hx;simp [zE,gm 4 (by decide)] at hx
      rw [BU hm3.2,BU hm3.1];exact hi'.rel.tmps m x hx
     have inv2:Inv F N0 T up pl w pl' st1 ((a'.put (some 3) (.slice ad nn cc)).put (some 4) (.bool ad.isNone)) w':=⟨rel2,hi'.keep⟩;cases ad with
     |none=>
      refine wp_cond_true (by simpa [Act.eval] using e4) (wp_seq (wp_region_list ?_));rw [ex3];refine wpList_plain b3 λK hK=>nS (u:= .slice none 0 0) (by simp [execOp,b1,Act.eval]) (hK _ _ (wpList_nil ?_))
      rw [b2];refine wp_ret ?_;have hre:rows= []:=by cases hr0;rfl
      have inv3:Inv F N0 T up pl w pl' {st1 with t:= []} (((a'.put (some 3) (.slice none nn cc)).put (some 4) (.bool (Option.isNone (none:Option Addr)))).put (some 2) (.slice none 0 0)) w':=
       ⟨⟨rel2.mem,(λm x hx=>(by cases hx)),(by rw [eY];exact rel2.size),(by rw [iP];exact rel2.defers),rel2.low⟩,hi'.keep⟩
      exact hnil hre pl' _ _ _ inv3 inv3.rel.defers (nR (by rw [eY,eY];omega))
     |some ad=>
      refine wp_cond_false (by simpa [Act.eval] using e4) (wp_skip ?_);exact nM hS n d k2 kb hk2 he.2 hb.2 hev inv2 hQ
    ·cases hs
   ·cases hs
  ·cases hs
theorem DN {run:zo} (hS:eM G P run) {h:Hints} {f:FuncId} {kf:KFun} (hK:fZ P h f kf) {n:Nat} {args:List AV} {up:List Frame} {r:Res} (hl:args.length=kf.params.length) {e:Ex} {st:St}
  (h1:aK run n kf.body {t:=mK args 0,fr:= [],up:=up}=some (e,st)) (h2:jX kf e st.low=some r) (h3:uH kf args up r=some r) {vals:List Value} (hm:MemOK F N0 up pl w) (hN:N0.n<=w.heap.size) (hv:cA F up pl w vals args):Goes P f vals.toArray w (RetOK F N0 up pl w r):=by
 obtain ⟨fn,hf,hname,hcomp,hb⟩:=hK;simp only [lX,zK,zD] at hcomp;obtain ⟨c,hbody,k0,hk0,rs,hrs,rfl⟩:=hcomp;have hn : ¬ fn.name = "runtime.NumGoroutine" := by simpa using hname
 obtain ⟨body,hbd⟩:∃b,fn.body=some b:=by
  cases hq:fn.body with
  |some b=>exact ⟨b,rfl⟩
  |none=>simp [mO,fD,hq] at hbody
 refine .inr ⟨by simp [callFunc,hf,hn,hbd],calls_of_wp hf hbd ?_⟩;simp only at hl hb h1
 let T:=max fn.ntmps args.length
 have hT:(vals.toArray++Array.replicate (fn.ntmps-vals.toArray.size) undef).size=T:=by
  simp [T,hv.1];omega
 have hrel:Rel F N0 T pl {t:=mK args 0,fr:= [],up:=up} {tmps:=vals.toArray++Array.replicate (fn.ntmps-vals.toArray.size) undef,defers:= []} w:=by
  refine ⟨xF hm,λi x hx=>?_,hT,rfl,hN⟩;rw [pT] at hx;simp only [Nat.zero_le,if_true,Nat.sub_zero] at hx;have hi:i<args.length:=(zamJ.1 hx).1;obtain ⟨u,hu⟩:=aZ (l:=vals) (i:=i) (by rw [hv.1];exact hi);have hg:(vals.toArray++Array.replicate (fn.ntmps-vals.toArray.size) undef).getD i undef=u:=by
   rw [Array.getD_eq_getD_getElem?,Array.getElem?_append_left (by simpa [hv.1] using hi)];simp [hu]
  simp only;rw [hg];have:=hv.2 i u x hu hx;exact lI (λd n=>cF d n up) this
 refine Cf hS hbody hk0 (yO _ _ _ _ _) (by simpa [T,hl] using hb) h1 ⟨hrel,KeepU.refl⟩ hbd (λpl' a' w' hi0=>?_) (λhs=>?_)
 case refine_2=>
  have hn1:(fD P fn).isSome=true:=hs;unfold uH at h3;simp only [hn1,if_true] at h3;have hspec:4<fn.ntmps/\fn.results.toList= [.tmp 2]:=by
   obtain ⟨c',hc'⟩:=Option.isSome_iff_exists.1 hs;unfold fD at hc';split at hc'
   ·split at hc'
    ·split at hc'
     ·rename_i hall;simp only [zL,aG] at hall;exact ⟨hall.2,by assumption⟩
     ·cases hc'
    ·cases hc'
   ·cases hc'
  split at h3
  ·rename_i rows;split at h3
   ·rename_i hcond;refine ⟨by simp only [T];omega,rows,by simp [mK,zE],λm hm0=>by simp [mK,zE,Ne.symm hm0],λhre pl' st1 a' w' hi' hd h2'=>?_⟩;have hem:jY r=true:=by
     subst hre;simpa using hcond
    refine ⟨hd,.slice none 0 0,?_,_,rfl,Ce hem hi'.rel.mem hi'.keep.step⟩;have hmm:(fn.results.mapM (cP a'.tmps)).run P w'= .ok #[.slice none 0 0] w':=by
     rw [Array.mapM_eq_mapM_toList,hspec.2];simp [cP,h2']
    have hres:results fn a'.tmps=(do let vs<-fn.results.mapM (cP a'.tmps);pure (if h:vs.size=1 then vs[0] else .tuple vs)):=by
     unfold results
     congr 2
    rw [hres];simp only [Sem.run_bind,hmm,Result.andThen_ok,Sem.run_pure];simp
   ·cases h3
  ·cases h3
 obtain ⟨hlow1,hlow2⟩:=wZ hi0.rel;have hi:Inv F N0 T up pl w pl' st.low a' w':=⟨hlow1,hi0.keep.trans hlow2⟩
 clear hi0 hlow1 hlow2 h1
 generalize st.low=st at h2 hi;have pfin:∀{ls:List (Bool×List CV)} {st':St} {pl2:Pl} {us:List Value},(fn.results.toList.mapM (cP a'.tmps)).run P w'= .ok us w'->Same F N0 pl' st st' w' pl2->RepL F (st'.fr::st'.up) pl2 w' us ls->(∀c∈ls,∀x∈c.2,∃p,x= .p p)->
   a'.defers= []/\∃v,(results fn a'.tmps).run P w'= .ok v w'/\∃u,Ending.returned v= .returned u/\RetOK F N0 up pl w ⟨bS ls,st'.up,[]⟩ u w':=by
  intro ls st' pl2 us u1 s1 s2 s3;have hplain:∀c∈(bS ls).cvs,∃p,c= .p p:=λc hc=>by
   obtain ⟨x,hx,hc'⟩:=nP hc;exact s3 x hx c hc'
  let pl3:Pl:=λd n=>if d<st'.up.length then pl2 d n else nop
  have q1:∀d n,d<st'.up.length->pl3 d n=pl2 d n:=λd n h=>by simp [pl3,h]
  have q2:∀d n,¬d<st'.up.length->pl3 d n=nop:=λd n h=>by simp [pl3,h]
  have hlow3:Low st'.up.length (st'.fr::st'.up) pl2 ([]::st'.up) pl3:=⟨λd n h=>⟨by simp [zA,Nat.ne_of_lt h],q1 d n h⟩,λd n j b s h=>by
   by_cases hd:d<st'.up.length
   ·exact ⟨d,n,j,by rw [<-q1 d n hd];exact h⟩
   ·rw [q2 d n hd] at h;cases h⟩
  have hm3:MemOK F N0 ([]::st'.up) pl3 w':=wW s1.mem hlow3 (λn j b s h=>by rw [q2 _ n (Nat.lt_irrefl _)] at h;cases h) (λn j n' j' b s s' h=>by rw [q2 _ n (Nat.lt_irrefl _)] at h;cases h) (λd n h=>q2 d n (by omega)) (λn B h=>by cases h);have hkeep:KeepU up st'.up pl pl3 w w':=by
   have k1:=hi.keep.trans (dU s1.keep).u;refine ⟨k1.step,k1.later.len,λd n b hb=>?_,λd n j b s h=>?_⟩
   ·obtain ⟨b',h3,h5⟩:=k1.later.blk d n b hb;exact ⟨b',h3,λe=>by rw [q1 d n (zO h3)];exact h5 e⟩
   ·by_cases hd:d<st'.up.length
    ·rw [q1 d n hd] at h;exact k1.later.new d n j b s h
    ·rw [q2 d n hd] at h;cases h
  have hfin:a'.defers= []/\∃v,(results fn a'.tmps).run P w'= .ok v w'/\∃u,Ending.returned v= .returned u/\RetOK F N0 up pl w ⟨bS ls,st'.up,[]⟩ u w':=by
   refine ⟨hi.rel.defers,(if h:us.length=1 then us[0] else .tuple us.toArray),?_,_,rfl,⟨pl3,?_,hm3,hkeep⟩,λc hc=>by obtain ⟨p,rfl⟩:=hplain c hc;rfl,λB hB=>by cases hB⟩
   ·have hmm:(fn.results.mapM (cP a'.tmps)).run P w'= .ok us.toArray w':=by
     rw [Array.mapM_eq_mapM_toList];simp [u1]
    have hres:results fn a'.tmps=(do let vs<-fn.results.mapM (cP a'.tmps);pure (if h:vs.size=1 then vs[0] else .tuple vs)):=by
     unfold results
     congr 2
    rw [hres];simp only [Sem.run_bind,hmm,Result.andThen_ok,Sem.run_pure];simp
   ·exact pU hplain (λh=>hlow3.repP h) (nN s2)
  exact hfin
 unfold jX at h2;split at h2
 ·rename_i hcond;simp only [zK,zD,Prod.exists] at h2;obtain ⟨vs,g1,ls,st',g2,rfl⟩:=h2;obtain ⟨us,u1,u2⟩:=nO hi.rel.mem hi.rel.tmps fn.results.toList rs vs hrs g1;obtain ⟨pl2,s1,s2,s3⟩:=xE hi.rel.mem hi.rel.low g2 u2;have hfin:=pfin u1 s1 s2 s3;rcases hcond.1 with rfl|rfl
  ·exact hfin
  ·exact hfin
 ·split at h2
  ·rename_i hcond;obtain ⟨vs,g1,h2⟩:=zK.1 h2;obtain ⟨us,u1,u2⟩:=nO hi.rel.mem hi.rel.tmps fn.results.toList rs vs hrs g1;unfold uG at h2;split at h2
   ·rename_i hp;cases h2;have hfin:=pfin u1 (Same.refl hi.rel.mem) u2 (λc hc x hx=>by
     have h1:=zamK.1 (zamK.1 hp c hc) x hx;cases x with
     |p y=>exact ⟨y,rfl⟩
     |_=>simp [isP] at h1)
    rcases hcond with rfl|rfl
    ·exact hfin
    ·exact hfin
   ·obtain ⟨⟨l',B⟩,hc,rfl⟩:=zD.1 h2;obtain ⟨n,B0,hB,rfl,hok,hpo,hrep⟩:=tE hc
    let pl3:Pl:=λd' n'=>if d'<st.up.length then pl' d' n' else if d'=st.up.length/\n'=0 then pl' st.up.length n else nop
    have q1:∀d n,d<st.up.length->pl3 d n=pl' d n:=λd n h=>by simp [pl3,h]
    have q0:pl3 st.up.length 0=pl' st.up.length n:=by simp [pl3]
    have q2:∀d' n' j x,¬d'<st.up.length->pl3 d' n' j=some x->d'=st.up.length/\n'=0/\pl' st.up.length n j=some x:=λd' n' j x hh h=>by
     simp only [pl3,if_neg hh] at h;split at h
     ·rename_i e;exact ⟨e.1,e.2,h⟩
     ·cases h
    have hlow3:Low st.up.length (st.fr::st.up) pl' (zq [{B0 with g:=0}] 0::st.up) pl3:=⟨λd n h=>⟨by simp [zA,Nat.ne_of_lt h],q1 d n h⟩,λd' n' j b s h=>by
     by_cases hd:d'<st.up.length
     ·exact ⟨d',n',j,by rw [<-q1 d' n' hd];exact h⟩
     ·exact ⟨_,_,_,(q2 d' n' j _ hd h).2.2⟩⟩
    have hm3:MemOK F N0 (zq [{B0 with g:=0}] 0::st.up) pl3 w':=wW hi.rel.mem hlow3 (λn' j b s h=>by
     obtain ⟨_,rfl,h3⟩:=q2 _ n' j _ (Nat.lt_irrefl _) h;exact ⟨⟨{B0 with g:=0},by simp [zq,zE]⟩,_,_,_,zH _,h3⟩) (λn' j n'' j' b s s' h h'=>by
     obtain ⟨_,rfl,e1⟩:=q2 _ n' j _ (Nat.lt_irrefl _) h;obtain ⟨_,rfl,e2⟩:=q2 _ n'' j' _ (Nat.lt_irrefl _) h';exact ⟨rfl,(hi.rel.mem.inj _ _ _ _ _ _ b s s' e1 e2).2.2⟩) (λd' n' h=>by
     funext j
     cases hq:pl3 d' n' j with
     |none=>rfl
     |some x=>have:=(q2 d' n' j x (by omega) hq).1;omega) (λn' B h=>by
     simp only [zq,zE] at h;split at h
     ·rename_i e;subst e;cases h;exact kG hlow3 (hi.rel.mem.blk _ _ _ hB) hok rfl rfl rfl q0
     ·cases h)
    have hkeep:KeepU up st.up pl pl3 w w':=by
     have k1:=hi.keep;refine ⟨k1.step,k1.later.len,λd n b hb=>?_,λd' n' j b s h=>?_⟩
     ·obtain ⟨b',h3,h5⟩:=k1.later.blk d n b hb;exact ⟨b',h3,λe=>by rw [q1 d n (zO h3)];exact h5 e⟩
     ·by_cases hd:d'<st.up.length
      ·rw [q1 d' n' hd] at h;exact k1.later.new d' n' j b s h
      ·exact k1.later.new _ _ _ b s (q2 d' n' j _ hd h).2.2
    have hfin:a'.defers= []/\∃v,(results fn a'.tmps).run P w'= .ok v w'/\∃u,Ending.returned v= .returned u/\RetOK F N0 up pl w ⟨bS l',st.up,[{B0 with g:=0}]⟩ u w':=by
     refine ⟨hi.rel.defers,(if h:us.length=1 then us[0] else .tuple us.toArray),?_,_,rfl,⟨pl3,?_,hm3,hkeep⟩,λc hc=>?_,λB hB=>?_⟩
     ·have hmm:(fn.results.mapM (cP a'.tmps)).run P w'= .ok us.toArray w':=by
       rw [Array.mapM_eq_mapM_toList];simp [u1]
      have hres:results fn a'.tmps=(do let vs<-fn.results.mapM (cP a'.tmps);pure (if h:vs.size=1 then vs[0] else .tuple vs)):=by
       unfold results
       congr 2
      rw [hres];simp only [Sem.run_bind,hmm,Result.andThen_ok,Sem.run_pure];simp
     ·show zf _ _ _ _ _ ((bS l').map (dL st.up.length));rw [vE];exact nN (hrep q0 (λh=>hlow3.repP h) u2)
     ·obtain ⟨x,hx,hc'⟩:=nP hc;exact hpo x hx c hc'
     ·simp only [zamQ] at hB;subst hB;exact ⟨rfl,hok⟩
    rcases hcond with rfl|rfl
    ·exact hfin
    ·exact hfin
  ·cases h2
def lJ (G:Nat->Option Obj) (P:Program) (lib:zo):Prop:=eM G P lib
def tH (q:List AV->Option AV) (args:List AV) (up:List Frame):Option Res:=(q args).map λv=>⟨v,up,[]⟩
theorem BV (hm:MemOK F N0 fs pl w) (hs:Step cE w w'):MemOK F N0 fs pl w'/\Keep F fs fs pl pl w w':=by
 have hk:Keep F fs fs pl pl w w':=⟨⟨hs.os,hs.tape,hs.output,hs.size,λk hk _=>hs.block k hk (λ_ _ _ _ h=>by cases h)⟩,Later.refl ..⟩;exact ⟨⟨λd n j b s h=>by
  obtain ⟨h1,h2,h3⟩:=hm.live d n j b s h;exact ⟨h1,dV h2 hs.size,h3⟩,hm.inj,λd n B hB=>bZ hk rfl (λj b s h=>hs.block b (hm.live d n j b s h).2.1 (λ_ _ _ _ h=>by cases h)) (hm.blk d n B hB),λk h=>dV (hm.fsz k h) hs.size,cU hm (λk hk _=>hs.block k hk (λ_ _ _ _ h=>by cases h))⟩,hk⟩
theorem BW {v:AV} {u:Value} {up:List Frame} (hp:∀c∈v.cvs,∃p,c= .p p) (hm:MemOK F N0 up pl w) (hs:Step cE w w') (hr:zf F up pl w' u v):RetOK F N0 up pl w ⟨v,up,[]⟩ u w':=by
 obtain ⟨m1,m2⟩:=BV hm hs;exact ⟨⟨pl,pU hp (λh=>h) hr,xF m1,m2.u⟩,λc hc=>by obtain ⟨p,rfl⟩:=hp c hc;rfl,λB hB=>by cases hB⟩
theorem vF {KP:FuncId->Option KFun} {lib:zo} {h:Hints} (hK:∀f kf,KP f=some kf->fZ P h f kf) (hL:lJ G P lib):∀n,eM G P (fC KP lib n):=by
 intro n
 induction n with
 |zero=>intro f args up r hr;simp [fC] at hr
 |succ n ih=>
  intro f args up r hr F N0 pl w vals hm hN hv;simp only [fC] at hr;split at hr
  ·rename_i kf hkf;split at hr
   ·rename_i hl;obtain ⟨⟨e,st⟩,h1,h2⟩:=zK.1 hr;dsimp only at h2;obtain ⟨q,h4,h3⟩:=zK.1 h2
    clear h2
    have hq:q=r:=by
     unfold uH at h3;split at h3
     ·split at h3
      ·split at h3
       ·exact Option.some.inj h3
       ·cases h3
      ·cases h3
     ·exact Option.some.inj h3
    subst hq;exact DN ih (hK f kf hkf) hl h1 h4 h3 hm hN hv
   ·cases hr
  ·exact hL f args up r hr F N0 pl w vals hm hN hv
end
end Go.Eng
namespace Go.Eng
open Go.RowKit Go.WideShapes
inductive Sh where
 |b
 |i (k:IntKind)
 |s
 |sl (bytes:Nat) (e:List Sh)
 deriving Inhabited
mutual
def okP:Sh->PV->Prop
 | .b,.b _=>True
 | .i k,.i k' n=>k'=k/\(Lit.int k n).wf=true
 | .s,.s x=>x.size<=140737488351232
 | .sl by' e,.ls rows=>rows.length*by'<=140737488351232/\∀r∈rows,okR e r
 |_,_=>False
def okR:List Sh->List PV->Prop
 | [],[]=>True
 |h::l,x::r=>okP h x/\okR l r
 |_,_=>False
end
theorem nT:∀{l:List Sh} {xs:List PV},okR l xs->xs.length=l.length
 | [],[],_=>rfl
 |_::l,x::xs,h=>by
  simp only [okR] at h;simp [nT h.2]
 | [],_::_,h=>by simp [okR] at h
 |_::_,[],h=>by simp [okR] at h
theorem nU:∀{l m:List Sh} {xs ys:List PV},okR l xs->okR m ys->okR (l++m) (xs++ys)
 | [],m,[],ys,_,h=>h
 |_::l,m,x::xs,ys,h,h'=>by
  simp only [okR] at h;simp only [List.cons_append,okR];exact ⟨h.1,nU h.2 h'⟩
 | [],_,_::_,_,h,_=>by simp [okR] at h
 |_::_,_,[],_,h,_=>by simp [okR] at h
def Cg (P:Program) (q:TypeId->Option (List Sh)):List Field->Nat->Option (List Sh)
 | [],off=>some []
 |f::r,off=>if f.offset=off then (q f.type).bind λa=>if a.length=P.cellsOf f.type then (Cg P q r (off+P.cellsOf f.type)).map (a++ ·) else none else none
def rB (P:Program):Nat->TypeId->Option (List Sh)
 |0,_=>none
 |n+1,t=>match P.underlying t with
  |some .bool=>some [.b]
  |some (.int k)=>some [.i k]
  |some .string=>some [.s]
  |some (.slice e)=>(rB P n e).bind λl=>if l.length=P.cellsOf e/\0<l.length then some [.sl (P.bytesOf e) l] else none
  |some (.struct fs)=>(Cg P (rB P n) fs.toList 0).bind λl=>if l.length=P.cellsOf t then some l else none
  |_=>none
def gG:Nat->Prop:=λ_=>False
def Reps (w:World) (cs:List Value) (xs:List PV):Prop:=cs.length=xs.length/\∀(i:Nat) u x,cs[i]?=some u->xs[i]?=some x->RepP gG w u x
theorem Reps.one {w:World} {u:Value} {x:PV} (h:RepP gG w u x):Reps w [u] [x]:=⟨rfl,λi v y h1 h2=>by
 cases i with
 |zero=>cases h1;cases h2;exact h
 |succ i=>simp at h1⟩
theorem Reps.append {w:World} {cs ds:List Value} {xs ys:List PV} (h:Reps w cs xs) (h':Reps w ds ys):Reps w (cs++ds) (xs++ys):=
 ⟨by simp [h.1,h'.1],λi u x h1 h2=>by
  by_cases hi:i<cs.length
  ·rw [zanA hi] at h1;rw [zanA (h.1▸hi)] at h2;exact h.2 i u x h1 h2
  ·rw [zanB (by omega)] at h1;rw [zanB (by have:=h.1;omega),<-h.1] at h2;exact h'.2 _ u x h1 h2⟩
theorem xH {α:Type} {Q:Nat->α->Prop}:∀n:Nat,(∀i,i<n->∃y,Q i y)->∃ys:List α,ys.length=n/\∀i y,ys[i]?=some y->Q i y
 |0,_=>⟨[],rfl,λi y h=>by simp at h⟩
 |n+1,h=>by
  obtain ⟨ys,hl,hq⟩:=xH n (λi hi=>h i (by omega));obtain ⟨y,hy⟩:=h n (by omega);refine ⟨ys++ [y],by simp [hl],λi z hz=>?_⟩;by_cases hi:i<ys.length
  ·rw [zanA hi] at hz;exact hq i z hz
  ·rw [zanB (by omega)] at hz;have h0:i-ys.length=0:=by
    by_cases h0:i-ys.length=0
    ·exact h0
    ·obtain ⟨m,hm⟩:∃m,i-ys.length=m+1:=⟨i-ys.length-1,by omega⟩;rw [hm] at hz;simp at hz
   rw [h0] at hz;simp at hz;subst hz;have:i=n:=by omega
   subst this;exact hy
theorem lK {P:Program} {H:Type} {e:TypeId}:∀{ds:List (DataW H)},(DataW.weightsAll P e ds).all (· <=reachBytes)=true->∀d∈ds,(d.weights P e).all (· <=reachBytes)=true
 | [],_,d,hd=>by simp at hd
 |d0::ds,h,d,hd=>by
  rw [DataW.weightsAll,List.all_append,zL] at h;rcases zamT.1 hd with rfl|hd
  ·exact h.1
  ·exact lK h.2 d hd
theorem Ch {w:World} {a:Addr} {n:Nat} {u:Value} (h:w.cell? (a.add n)=some u):a.block<w.heap.size:=by
 have hb:(a.add n).block=a.block:=by unfold Addr.add;split<;>rfl
 unfold World.cell? at h;rw [hb] at h;cases hq:w.heap[a.block]? with
 |none=>simp [hq] at h
 |some o=>exact (zamX.1 hq).1
section
variable {P:Program} {t:TypeId} {w:World} {H:Type} {enc:TypeId×Value->H} {sp:Nat->Bool}
theorem tI {q:TypeId->Option (List Sh)} (hq:∀t l,q t=some l->∀(m:Nat) (cs:List Value) (x:DataW H×List MemPlace),DataW.trod enc P w 0 sp true m t cs=some x->(x.1.weights P t).all (· <=reachBytes)=true->∃xs,okR l xs/\Reps w cs xs):
  ∀(fs:List Field) (off:Nat) (l:List Sh) (m:Nat) (cs:List Value) (xs:List (DataW H×List MemPlace)),Cg P q fs off=some l->
   (∀(i:Nat) f,fs[i]?=some f->DataW.trod enc P w 0 sp true m f.type ((cs.drop f.offset).take (P.cellsOf f.type))=xs[i]?)->xs.length=fs.length->
   (DataW.weightsEach P (fs.map (·.type)) (xs.map (·.1))).all (· <=reachBytes)=true->∃ys,okR l ys/\Reps w ((cs.drop off).take l.length) ys
 | [],off,l,m,cs,xs,hl,_,_,_=>by
  cases hl;exact ⟨[],trivial,by simp [Reps]⟩
 |f::fs,off,l,m,cs,xs,hl,hx,hn,hw=>by
  simp only [Cg] at hl;split at hl
  ·rename_i ho;obtain ⟨a,ha,hl⟩:=zK.1 hl;split at hl
   ·rename_i hc;obtain ⟨l',hl',rfl⟩:=zD.1 hl
    match xs,hn with
    |x::xs,hn=>
     have h0:=hx 0 f rfl;simp only [List.getElem?_cons_zero] at h0;rw [ho,<-hc] at h0;simp only [zanE,DataW.weightsEach,List.all_append,zL] at hw;obtain ⟨y,oy,ry⟩:=hq f.type a ha m _ x h0 hw.1;obtain ⟨z,oz,rz⟩:=tI hq fs _ l' m cs xs hl' (λi g hg=>by simpa using hx (i+1) g (by simpa using hg)) (by simpa using hn) hw.2;refine ⟨y++z,nU oy oz,?_⟩;rw [zamO,List.take_add,List.drop_drop,hc];rw [hc] at ry;exact ry.append rz
   ·cases hl
  ·cases hl
theorem BX:∀(n:Nat) (t:TypeId) (l:List Sh),rB P n t=some l->∀(m:Nat) (cs:List Value) (x:DataW H×List MemPlace),DataW.trod enc P w 0 sp true m t cs=some x->(x.1.weights P t).all (· <=reachBytes)=true->
  ∃xs,okR l xs/\Reps w cs xs
 |0,t,l,h,_,_,_,_,_=>by simp [rB] at h
 |n+1,t,l,h,m,cs,x,hx,hw=>by
  simp only [rB] at h;split at h
  ·rename_i ht;cases h;obtain ⟨b,rfl,_⟩:=DataW.trod_bool ht hx;exact ⟨[.b b],⟨trivial,trivial⟩,Reps.one (.b b)⟩
  ·rename_i k ht;cases h;obtain ⟨i,rfl,_,h3⟩:=DataW.trod_int ht hx;exact ⟨[.i k i],⟨⟨rfl,h3⟩,trivial⟩,Reps.one (.i k i)⟩
  ·rename_i ht;cases h;obtain ⟨s,rfl,rfl,_⟩:=DataW.trod_string ht hx;refine ⟨[.s s],⟨?_,trivial⟩,Reps.one (.s s)⟩;show s.size<=140737488351232;simp [DataW.weights,reachBytes] at hw;exact of_decide_eq_true hw
  ·rename_i e ht;obtain ⟨l',hl',h⟩:=zK.1 h;split at h
   ·rename_i he;obtain ⟨he,hpos⟩:=he;cases h;rcases DataW.trod_slice ht hx with ⟨rfl,rfl⟩|⟨a,len,cap,elems,rest,n',rfl,rfl,rfl,_,hlc,hcm,hel,hat,_,_⟩
    ·exact ⟨[.ls []],⟨⟨by simp,by simp⟩,trivial⟩,Reps.one .nls⟩
    ·simp only [DataW.weights,ht,zanC,List.all_append,zL] at hw;obtain ⟨hw0,hw1,_⟩:=hw;have one:∀i,i<len->∃y:List PV,okR l' y/\∃ci:List Value,Reps w ci y/\∀j u,ci[j]?=some u->w.cell? (a.add (i*l'.length+j))=some u:=by
      intro i hi;have hi':i<elems.length:=by omega
      have hh:=hat i hi;rw [zh hi'] at hh;simp only [zK] at hh;obtain ⟨ci,hc,hy⟩:=hh;obtain ⟨_,hcl,hcc⟩:=World.cells?_some hc;obtain ⟨y,oy,ry⟩:=BX n e l' hl' n' ci _ hy (lK hw1 _ (List.mem_map.2 ⟨_,List.getElem_mem hi',rfl⟩));refine ⟨y,oy,ci,ry,λj u hu=>?_⟩;have hj:j<P.cellsOf e:=by
       rw [<-hcl];exact (zamJ.1 hu).1
      have:=hcc j hj;rw [gA,<-he] at this;rw [this,hu]
     obtain ⟨ys,hl,hq⟩:=xH len one;have hlen:elems.length=len:=hel;refine ⟨[.ls ys],⟨⟨?_,λr hr=>?_⟩,trivial⟩,Reps.one ?_⟩
     ·rw [hl,<-hel];have hb:=of_decide_eq_true hw0;simp only [zamV,reachBytes] at hb;exact zU (dN _ (Nat.le_add_right _ _)) hb
     ·obtain ⟨i,hi,rfl⟩:=List.getElem_of_mem hr;exact (hq i _ (zh hi)).1
     ·have key:∀j,∃f:Nat->Value,∀e,ys[j]?=some e->e.length=l'.length/\∀o x,e[o]?=some x->w.cell? (a.add (j*l'.length+o))=some (f o)/\RepP gG w (f o) x:=by
       intro j;cases hj:ys[j]? with
       |none=>exact ⟨λ_=>undef,λe h=>by cases h⟩
       |some y=>
        obtain ⟨oy,ci,ry,hc⟩:=hq j y hj;refine ⟨λo=>ci[o]?.getD undef,λe h=>?_⟩;cases h;refine ⟨nT oy,λo x hx=>?_⟩;have ho:o<ci.length:=by rw [ry.1];exact (zamJ.1 hx).1
        have hu:=zh ho;refine ⟨?_,?_⟩
        ·dsimp only;rw [hu];exact hc o _ hu
        ·dsimp only;rw [hu];exact ry.2 o _ x hu hx
      let val:=λj=>Classical.choose (key j)
      have hval:=λj=>Classical.choose_spec (key j)
      refine .ls (sz:=l'.length) val hl hlc (by simp only [maxLen] at hcm⊢;omega) (λhne=>⟨λh=>h,?_⟩) (λj e he'=>⟨(hval j e he').1,λo x hx=>((hval j e he').2 o x hx).1⟩) (λj e o x he' hx=>((hval j e he').2 o x hx).2);obtain ⟨y,hy⟩:∃y,ys[0]?=some y:=by
       cases hys:ys with
       |nil=>exact absurd hys hne
       |cons y r=>exact ⟨y,rfl⟩
      obtain ⟨h1,h2⟩:=hval 0 y hy;exact Ch (h2 0 y[0] (zh (by omega))).1
   ·cases h
  ·rename_i fs ht;obtain ⟨l',hl',h⟩:=zK.1 h;split at h
   ·rename_i hc;cases h;obtain ⟨xs,n',rfl,rfl,hl,hxl,hat⟩:=DataW.trod_struct ht hx;simp only [DataW.weights,ht] at hw;obtain ⟨y,oy,ry⟩:=tI (q:=rB P n) (BX n) fs.toList 0 l n' cs xs hl' (λi f hf=>hat i f (by simpa using hf)) (by simpa using hxl) hw;rw [List.drop_zero,List.take_of_length_le (by omega)] at ry;exact ⟨y,oy,ry⟩
   ·cases h
  ·cases h
end
section
variable {run run':zo}
theorem dE {α β:Type} {x x':Option α} {f f':α->Option β} {b:β} (hx:∀a,x=some a->x'=some a) (hf:∀a b,f a=some b->f' a=some b) (h:x.bind f=some b):x'.bind f'=some b:=by
 obtain ⟨a,h1,h2⟩:=zK.1 h;rw [hx a h1];exact hf a b h2
theorem tJ (hr:∀f a u r,run f a u=some r->run' f a u=some r) {st:St} {dst:Nat} {bo:Bool} {f:FuncId} {args:List AV} {x:AV×St} (h:dY run st dst bo f args=some x):dY run' st dst bo f args=some x:=by
 unfold dY at h⊢;split at h
 ·rename_i hb;rw [if_pos hb];refine dE (λa h=>h) (λp b h1=>?_) h;exact dE (λr h2=>hr _ _ _ _ h2) (λr b h2=>h2) h1
 ·rename_i hb;rw [if_neg hb];refine dE (λa h=>h) (λp b h1=>?_) h;exact dE (λr h2=>hr _ _ _ _ h2) (λr b h2=>h2) h1
theorem tK (hr:∀f a u r,run f a u=some r->run' f a u=some r) {st:St} {dst:Nat} {k:KOp} {x:AV×St} (h:zB run st dst k=some x):zB run' st dst k=some x:=by
 cases k
 case call bo f args=>
  simp only [zB] at h⊢;split at h
  ·rename_i g caps hg;exact tJ hr h
  ·cases h
 case callN f args=>
  simp only [zB] at h⊢;split at h
  ·rename_i g caps hg;cases hq:args.map st.eval++caps.map Cap.av with
   |nil=>rw [hq] at h;cases h
   |cons a0 r=>
    rw [hq] at h;simp only [callN] at h⊢;refine dE (λa h=>h) (λp b h1=>?_) h;refine dE (λa h=>h) (λp b h1=>?_) h1;exact dE (λr h2=>hr _ _ _ _ h2) (λr b h2=>h2) h1
  ·cases h
 case len s x=>cases s<;>exact h
 all_goals exact h
end
def pW:List (Bool×List Sh)->List (List PV)->Prop
 | [],[]=>True
 |h::l,x::r=>okR h.2 x/\pW l r
 |_,_=>False
def BY:Bool->List PV->AV
 |true,xs=> .agg (xs.map .p)
 |false,[x]=> .c (.p x)
 |false,_=> .c .u
def kO:List (Bool×List Sh)->List (List PV)->List AV
 |h::l,x::r=>BY h.1 x::kO l r
 |_,_=> []
def BZ (P:Program) (ts:List TypeId):Option (List (Bool×List Sh)):=ts.mapM λt=>(rB P 20 t).map λl=>(uK P t,l)
section
variable {P:Program} {w:World} {H:Type} {enc:TypeId×Value->H} {base:Nat}
theorem DO (k:Nat):¬Own gG cE k:=λh=>h.elim (λh=>h) (λ⟨_,_,_,_,h⟩=>by cases h)
theorem Ba {u:Value} {x:PV} (h:RepP gG w u x):RepP (Own gG cE) w u x:=h.step (λ_ _ _=>rfl) (zH _) (λk hk=>absurd hk (DO k))
theorem Bb {t:TypeId} {v:Value} {d:DataW H} {ps:List MemPlace} {l:List Sh} (hl:rB P 20 t=some l) (hv:Value.okWide P w .any base t v) (h:DataW.Trod enc P w 0 (λ_=>true) true t v d ps) (hw:(d.weights P t).all (· <=reachBytes)=true):
  ∃xs,okR l xs/\zf gG [] cE w v (BY (uK P t) xs):=by
 obtain ⟨m,hm⟩:=h;obtain ⟨xs,h1,h2⟩:=BX 20 t l hl m _ _ hm hw;refine ⟨xs,h1,?_⟩;have one:∀{v:Value},v.cells.toList= [v]->Reps w v.cells.toList xs->zf gG [] cE w v (BY false xs):=fun {v} e h=>by
  rw [e] at h
  match xs,h with
  | [x],h=>exact Ba (h.2 0 _ _ rfl rfl)
  | [],h=>exact trivial
  |_::_::_,h=>exact trivial
 unfold rB at hl;split at hl
 ·rename_i ht;obtain ⟨b,rfl⟩:=okWide_bool ht hv;simp only [uK,ht];exact one rfl h2
 ·rename_i k ht;obtain ⟨b,rfl⟩:=okWide_int ht hv;simp only [uK,ht];exact one rfl h2
 ·rename_i ht;obtain ⟨b,rfl⟩:=okWide_string ht hv;simp only [uK,ht];exact one rfl h2
 ·rename_i e ht;obtain ⟨a,len,cap,rfl⟩:=okWide_slice ht hv;simp only [uK,ht];exact one rfl h2
 ·rename_i fs ht;obtain ⟨cs,rfl,_⟩:=okWide_struct ht hv;simp only [uK,ht];refine ⟨cs.toList,by simp,⟨by rw [zamV];exact h2.1,λi u c hu hc=>?_⟩⟩;rw [zamS] at hc;obtain ⟨x,hx,rfl⟩:=zD.1 hc;have hr:=h2.2 i u x hu hx;exact ⟨Ba hr,.inr hr.one.1⟩
 ·cases hl
theorem open_args:∀{ts:List TypeId} {vs:List Value} {ds gs:List (DataW H)} {ps:List MemPlace} {tl:List TypeId} {shs:List (Bool×List Sh)},BZ P ts=some shs->DataW.TrodAll enc P w 0 (λ_=>true) true ts vs ds ps->
  (∀(j:Nat) t v,ts[j]?=some t->vs[j]?=some v->Value.okWide P w .any base t v)->(DataW.weightsEach P (ts++tl) (ds++gs)).all (· <=reachBytes)=true->
  ∃xss,pW shs xss/\cA gG [] cE w vs (kO shs xss)
 | [],[],[],gs,ps,tl,shs,hs,_,_,_=>by
  simp [BZ] at hs;subst hs;exact ⟨[],trivial,by simp [kO,cA]⟩
 |t::ts,v::vs,d::ds,gs,ps,tl,shs,hs,⟨p,q,h1,h2,_⟩,hv,hw=>by
  simp only [BZ,List.mapM_cons,Option.pure_def,Option.bind_eq_bind,zK,zS,zD] at hs;obtain ⟨s0,⟨l,hl,rfl⟩,shs',hs',rfl⟩:=hs;simp only [List.cons_append,DataW.weightsEach,List.all_append,zL] at hw;obtain ⟨xs,o1,r1⟩:=Bb hl (hv 0 t v rfl rfl) h1 hw.1;obtain ⟨xss,o2,r2⟩:=open_args hs' h2 (λj t v ht hv'=>hv (j+1) t v (by simpa using ht) (by simpa using hv')) hw.2;refine ⟨xs::xss,⟨o1,o2⟩,by simp [kO,r2.1],λi u x hu hx=>?_⟩;cases i with
  |zero=>cases hu;cases hx;exact r1
  |succ i=>exact r2.2 i u x (by simpa using hu) (by simpa [kO] using hx)
theorem law_calls_at {G:Nat->Option Obj} {KP:FuncId->Option KFun} {lib:zo} {h:Hints} (hK:∀f kf,KP f=some kf->fZ P h f kf) (hL:lJ G P lib) {f:FuncId} (hf:(KP f).isSome=true) {n:Nat} {vals:Array Value} {args:List AV}
  (hr:fC KP lib n f args []=some ⟨.c (.p (.b true)),[],[]⟩) (ha:cA gG [] cE w vals.toList args) (hG:∀k o,G k=some o->w.heap[k]?=some o):Calls P f vals w (λe w'=>e= .returned (.bool true)/\Below w.heap.size w w'):=by
 have hg:=vF hK hL n f args [] _ hr gG (⟨w.heap.size⟩:Base G) cE w vals.toList ⟨λd n j b s h=>(by cases h),λd n j d' n' j' b s s' h=>(by cases h),λd n B hB=>(by cases hB),λk (hk:False)=>hk.elim,λk o h=>⟨(zamX.1 (hG k o h)).1,hG k o h⟩⟩ (zH _) ha;obtain ⟨kf,hkf⟩:=Option.isSome_iff_exists.1 hf;obtain ⟨fn,hfn,hname,hcomp,_⟩:=hK f kf hkf;simp only [lX,zK,zD] at hcomp;obtain ⟨c,hbd,_⟩:=hcomp;obtain ⟨body,hbody⟩:∃b,fn.body=some b:=by
  cases hq:fn.body with
  |some b=>exact ⟨b,rfl⟩
  |none=>simp [mO,fD,hq] at hbd
 have hn : ¬ fn.name = "runtime.NumGoroutine" := by simpa using hname
 rcases hg with ⟨u,w',h1,_⟩|⟨_,h2⟩
 ·simp [callFunc,hfn,hn,hbody] at h1
 ·refine h2.mono λe w' ⟨u,he,hok⟩=>?_
  obtain ⟨⟨pl',r1,_,r3⟩,_,_⟩:=hok;subst he;have r1:RepP _ w' u (.b true):=r1;cases r1;exact ⟨rfl,r3.step.os,r3.step.tape,r3.step.output,r3.step.size,λk hk=>r3.step.block k hk (λ_ _ _ _ h=>by cases h)⟩
end
end Go.Eng
namespace Go.Eng
inductive Tr (α:Type):Type 1 where
 |done (x:α)
 |fail
 |ask (b:Bool) (t f:Tr α)
 |opt {β:Type} (o:Option β) (k:β->Tr α)
 |alt {β γ:Type} (x:β⊕γ) (k:β->Tr α) (l:γ->Tr α)
def Tr.run {α:Type}:Tr α->Option α
 | .done x=>some x
 | .fail=>none
 | .ask b t f=>bif b then t.run else f.run
 | .opt o k=>match o with
  |some x=>(k x).run
  |none=>none
 | .alt x k l=>match x with
  | .inl a=>(k a).run
  | .inr b=>(l b).run
def Tr.bind {α β:Type}:Tr α->(α->Tr β)->Tr β
 | .done x,f=>f x
 | .fail,_=> .fail
 | .ask b t e,f=> .ask b (t.bind f) (e.bind f)
 | .opt o k,f=> .opt o λx=>(k x).bind f
 | .alt x k l,f=> .alt x (λa=>(k a).bind f) (λb=>(l b).bind f)
theorem Tr.run_bind {α β:Type}:∀(t:Tr α) (f:α->Tr β),(t.bind f).run=t.run.bind λx=>(f x).run
 | .done x,f=>rfl
 | .fail,f=>rfl
 | .ask b t e,f=>by cases b<;>simp only [Tr.bind,Tr.run,cond]<;>exact run_bind _ f
 | .opt o k,f=>by
  simp only [Tr.bind,Tr.run];cases o with
  |none=>rfl
  |some x=>exact run_bind (k x) f
 | .alt x k l,f=>by
  simp only [Tr.bind,Tr.run];cases x with
  |inl a=>exact run_bind (k a) f
  |inr b=>exact run_bind (l b) f
theorem Tr.bind_some {α β:Type} {t:Tr α} {f:α->Tr β} {y:β} (h:(t.bind f).run=some y):∃x,t.run=some x/\(f x).run=some y:=by
 rw [run_bind] at h;exact zK.1 h
theorem Tr.ask_some {α:Type} {b:Bool} {t f:Tr α} {y:α} (h:(Tr.ask b t f).run=some y):(b=true/\t.run=some y)\/(b=false/\f.run=some y):=by
 cases b
 ·exact .inr ⟨rfl,h⟩
 ·exact .inl ⟨rfl,h⟩
theorem Tr.ask_yes {α:Type} {p:Prop} [Decidable p] {t:Tr α} {y:α} (h:(Tr.ask (decide p) t .fail).run=some y):p/\t.run=some y:=by
 rcases Tr.ask_some h with ⟨h1,h2⟩|⟨_,h2⟩
 ·exact ⟨of_decide_eq_true h1,h2⟩
 ·cases h2
theorem Tr.opt_some {α β:Type} {o:Option β} {k:β->Tr α} {y:α} (h:(Tr.opt o k).run=some y):∃x,o=some x/\(k x).run=some y:=by
 cases o with
 |none=>cases h
 |some x=>exact ⟨x,rfl,h⟩
def Tr.ofOpt {α:Type}:Option α->Tr α
 |some x=> .done x
 |none=> .fail
theorem Tr.ofOpt_some {α:Type} {o:Option α} {y:α} (h:(Tr.ofOpt o).run=some y):o=some y:=by
 cases o with
 |none=>cases h
 |some x=>cases h;rfl
abbrev Kn:=List (Nat×Bool)
def KnOK (kn:Kn) (st:St):Prop:=∀n b,zE n kn=some b->zE n st.t=some (.c (.p (.b b)))
def knX (kn:Kn):KX->Option Bool
 | .t n=>zE n kn
 | .k (.c (.p (.b b)))=>some b
 | .k _=>none
def pX (kn:Kn):Option Nat->Option Bool->Kn
 |none,_=>kn
 |some d,some b=>(d,b)::kn.filter (λp=>p.1 !=d)
 |some d,none=>kn.filter (λp=>p.1 !=d)
theorem gH (d n:Nat):∀(kn:Kn),zE n (kn.filter (λp=>p.1 !=d))=if n=d then none else zE n kn
 | []=>by simp [zE]
 |(m,b)::r=>by
  by_cases hm:m=d
  ·subst hm;simp only [List.filter,bne_self_eq_false,zE];rw [gH m n r];by_cases hn:n=m
   ·simp [hn]
   ·simp [hn,Ne.symm hn]
  ·have:((m,b).1 !=d)=true:=by simpa using hm
   simp only [List.filter,this,zE];rw [gH d n r];by_cases hn:m=n
   ·subst hn;simp [hm]
   ·simp [hn]
theorem nV {kn:Kn} {st:St} (h:KnOK kn st) {dst:Option Nat} {v:AV} {kb:Option Bool} (hv:∀b,kb=some b->v= .c (.p (.b b))):KnOK (pX kn dst kb) {st with t:=eF st.t dst v}:=by
 intro n b hn;cases dst with
 |none=>exact h n b hn
 |some d=>
  have key:zE n (kn.filter (λp=>p.1 !=d))=some b->zE n (eF st.t (some d) v)=some (.c (.p (.b b))):=λhn=>by
   rw [gH] at hn;split at hn
   ·cases hn
   ·rename_i hne;simp only [eF,zE];rw [if_neg (Ne.symm hne)];exact h n b hn
  cases kb with
  |none=>exact key hn
  |some b'=>
   simp only [pX,zE] at hn;split at hn
   ·rename_i e;cases hn;simp [eF,zE,e,hv b rfl]
   ·exact key hn
theorem rC {kn:Kn} {st:St} (h:KnOK kn st) {x:KX} {b:Bool} (hx:knX kn x=some b):st.eval x= .c (.p (.b b)):=by
 unfold knX at hx;split at hx
 ·simp only [St.eval,h _ _ hx]
 ·cases hx;rfl
 ·cases hx
theorem KnOK.frame {kn:Kn} {st st':St} (h:KnOK kn st) (ht:st'.t=st.t):KnOK kn st':=λn b hn=>by rw [ht];exact h n b hn
def Bc {α:Type} (st:St) (kn:Kn) (x:KX) (k:Bool->St->Kn->Tr α):Tr α:=
 match x with
 | .t n=>match zE n kn with
  |some b=>k b st kn
  |none=>match zE n st.t with
   |some (.c (.p (.b v)))=> .ask v (k true {st with t:=upd n (.c (.p (.b true))) st.t} ((n,true)::kn)) (k false {st with t:=upd n (.c (.p (.b false))) st.t} ((n,false)::kn))
   |_=> .fail
 | .k (.c (.p (.b b)))=>k b st kn
 | .k _=> .fail
theorem nW {α:Type} {n:Nat} {x:α}:∀{l:List (Nat×α)},zE n l=some x->upd n x l=l
 | [],h=>by cases h
 |(m,a)::r,h=>by
  simp only [zE] at h;simp only [upd];split at h
  ·rename_i e;cases h;rw [if_pos e]
  ·rename_i e;rw [if_neg e,nW h]
theorem rD {α:Type} {st:St} {kn:Kn} {x:KX} {k:Bool->St->Kn->Tr α} {y:α} (hk:KnOK kn st) (h:(Bc st kn x k).run=some y):∃v kn',st.eval x= .c (.p (.b v))/\KnOK kn' st/\(k v st kn').run=some y:=by
 unfold Bc at h;split at h
 ·rename_i n;split at h
  ·rename_i b hb;exact ⟨b,kn,by simp [St.eval,hk n b hb],hk,h⟩
  ·split at h
   ·rename_i v hv;have ok:∀b,v=b->KnOK ((n,b)::kn) st:=λb hb m c hm=>by
     simp only [zE] at hm;split at hm
     ·rename_i e;cases hm;subst e;rw [hv,hb]
     ·exact hk m c hm
    rcases Tr.ask_some h with ⟨rfl,h1⟩|⟨rfl,h1⟩
    ·rw [nW hv] at h1;exact ⟨true,(n,true)::kn,by simp [St.eval,hv],ok true rfl,h1⟩
    ·rw [nW hv] at h1;exact ⟨false,(n,false)::kn,by simp [St.eval,hv],ok false rfl,h1⟩
   ·cases h
 ·rename_i b;exact ⟨b,kn,rfl,hk,h⟩
 ·cases h
def bW (e:List PV) (i:Nat):Option Bool:=match e[i]? with|some (.b x)=>some x|_=>none
def zI (k:IntKind) (e:List PV) (i:Nat):Option Int:=match e[i]? with|some (.i k' x)=>if k'=k then some x else none|_=>none
def z8 (e:List PV) (i:Nat):Option ByteArray:=match e[i]? with|some (.s x)=>some x|_=>none
def cW (e:List PV) (i:Nat):Option (List (List PV)):=match e[i]? with|some (.ls x)=>some x|_=>none
def kP (e:List PV):Nat->List Nat->Tr (List CV)
 |_,[]=> .done []
 |o,k::r=>
  let rest:CV->Tr (List CV):=λc=>(kP e (o+1) r).bind λl=> .done (c::l)
  match k with
  |0=> .opt (bW e o) λx=>rest (.p (.b x))
  |1=> .opt (zI .i64 e o) λx=>rest (.p (.i .i64 x))
  |2=> .opt (z8 e o) λx=>rest (.p (.s x))
  |3=> .opt (cW e o) λx=>rest (.p (.ls x))
  |6=> .opt (zI .u8 e o) λx=>rest (.p (.i .u8 x))
  |_=> .fail
theorem nX {e:List PV} {i:Nat} {x:Bool} (h:bW e i=some x):e[i]?=some (.b x):=by
 unfold bW at h;split at h
 ·cases h;assumption
 ·cases h
theorem fK {k:IntKind} {e:List PV} {i:Nat} {x:Int} (h:zI k e i=some x):e[i]?=some (.i k x):=by
 unfold zI at h;split at h
 ·split at h
  ·rename_i e;cases h;subst e;assumption
  ·cases h
 ·cases h
theorem nY {e:List PV} {i:Nat} {x:ByteArray} (h:z8 e i=some x):e[i]?=some (.s x):=by
 unfold z8 at h;split at h
 ·cases h;assumption
 ·cases h
theorem fL {e:List PV} {i:Nat} {x:List (List PV)} (h:cW e i=some x):e[i]?=some (.ls x):=by
 unfold cW at h;split at h
 ·cases h;assumption
 ·cases h
theorem kQ {e:List PV}:∀{ks:List Nat} {o:Nat} {cs:List CV},(kP e o ks).run=some cs->∃ps:List PV,cs=ps.map .p/\ps.length=ks.length/\∀j p,ps[j]?=some p->e[o+j]?=some p
 | [],o,cs,h=>by cases h;exact ⟨[],rfl,rfl,λj p hp=>by simp at hp⟩
 |k::r,o,cs,h=>by
  have key:∀{q:PV},e[o]?=some q->((kP e (o+1) r).bind λl=>Tr.done (CV.p q::l)).run=some cs->∃ps:List PV,cs=ps.map .p/\ps.length=(k::r).length/\∀j p,ps[j]?=some p->e[o+j]?=some p:=fun {q} hq h=>by
   obtain ⟨l,h1,h2⟩:=Tr.bind_some h;cases h2;obtain ⟨ps,rfl,h3,h4⟩:=kQ h1;refine ⟨q::ps,rfl,by simp [h3],λj p hp=>?_⟩;cases j with
   |zero=>cases hp;exact hq
   |succ j=>rw [<-h4 j p (by simpa using hp)];congr 1;omega
  simp only [kP] at h;split at h
  ·obtain ⟨x,h1,h2⟩:=Tr.opt_some h;exact key (nX h1) h2
  ·obtain ⟨x,h1,h2⟩:=Tr.opt_some h;exact key (fK h1) h2
  ·obtain ⟨x,h1,h2⟩:=Tr.opt_some h;exact key (nY h1) h2
  ·obtain ⟨x,h1,h2⟩:=Tr.opt_some h;exact key (fL h1) h2
  ·obtain ⟨x,h1,h2⟩:=Tr.opt_some h;exact key (fK h1) h2
  ·cases h
theorem iQ {e ps:List PV} {o:Nat} (hn:0<ps.length) (h:∀j p,ps[j]?=some p->e[o+j]?=some p):o+ps.length<=e.length/\(e.drop o).take ps.length=ps:=by
 have hl:o+ps.length<=e.length:=by
  have:=h (ps.length-1) _ (zh (by omega));have:=(zamJ.1 this).1;omega
 refine ⟨hl,List.ext_getElem? λj=>?_⟩;by_cases hj:j<ps.length
 ·rw [List.getElem?_take_of_lt hj,List.getElem?_drop,h j _ (zh hj),zh hj]
 ·rw [zamY (by simp;omega),zamY (by omega)]
def tL (d m g j:Nat) (cols:List (Nat×Nat×TypeId)) (e:List PV):Nat->List Nat->Tr (List CV)
 |_,[]=> .done []
 |o,k::r=>
  let rest:CV->Tr (List CV):=λc=>(tL d m g j cols e (o+1) r).bind λl=> .done (c::l)
  match zE o cols with
  |some q=> .opt (cW e o) λx=>rest (.sub d m g j o x.length q.1)
  |none=>match k with
   |0=> .opt (bW e o) λx=>rest (.p (.b x))
   |1=> .opt (zI .i64 e o) λx=>rest (.p (.i .i64 x))
   |2=> .opt (z8 e o) λx=>rest (.p (.s x))
   |3=> .opt (cW e o) λx=>rest (.p (.ls x))
   |6=> .opt (zI .u8 e o) λx=>rest (.p (.i .u8 x))
   |_=> .fail
theorem tM {d m g j:Nat} {cols:List (Nat×Nat×TypeId)} {e:List PV}:∀{ks:List Nat} {o:Nat} {cs:List CV},(tL d m g j cols e o ks).run=some cs->∃ps:List PV,cs=bK d m g j cols o ps/\ps.length=ks.length/\∀j p,ps[j]?=some p->e[o+j]?=some p
 | [],o,cs,h=>by cases h;exact ⟨[],rfl,rfl,λj p hp=>by simp at hp⟩
 |k::r,o,cs,h=>by
  have key:∀{q:PV} {c:CV},e[o]?=some q->(match zE o cols with|some t=>CV.sub d m g j o (C2 q) t.1|none=> .p q)=c->((tL d m g j cols e (o+1) r).bind λl=>Tr.done (c::l)).run=some cs->∃ps:List PV,cs=bK d m g j cols o ps/\ps.length=(k::r).length/\∀j p,ps[j]?=some p->e[o+j]?=some p:=fun {q c} hq hc h=>by
   obtain ⟨l,h1,h2⟩:=Tr.bind_some h;cases h2;obtain ⟨ps,rfl,h3,h4⟩:=tM h1;refine ⟨q::ps,?_,by simp [h3],λj p hp=>?_⟩
   ·simp only [bK];rw [<-hc];cases zE o cols<;>rfl
   ·cases j with
    |zero=>cases hp;exact hq
    |succ j=>rw [<-h4 j p (by simpa using hp)];congr 1;omega
  simp only [tL] at h;split at h
  ·rename_i t ht;obtain ⟨x,h1,h2⟩:=Tr.opt_some h;exact key (fL h1) (by rw [ht];rfl) h2
  ·rename_i ht;split at h
   ·obtain ⟨x,h1,h2⟩:=Tr.opt_some h;exact key (nX h1) (by rw [ht]) h2
   ·obtain ⟨x,h1,h2⟩:=Tr.opt_some h;exact key (fK h1) (by rw [ht]) h2
   ·obtain ⟨x,h1,h2⟩:=Tr.opt_some h;exact key (nY h1) (by rw [ht]) h2
   ·obtain ⟨x,h1,h2⟩:=Tr.opt_some h;exact key (fL h1) (by rw [ht]) h2
   ·obtain ⟨x,h1,h2⟩:=Tr.opt_some h;exact key (fK h1) (by rw [ht]) h2
   ·cases h
def jO (st:St):CV->Tr (PV×St)
 | .p x=> .done (x.weak,st)
 | .own d n g m=>match st.get d n with
  |some ⟨g',sz,ty,.row rows⟩=>if g=g' then .ask (decide (m=rows.length)) (.done (.ls rows,st.set d n ⟨g+1,sz,ty,.dead⟩)) .fail else .fail
  |_=> .fail
 |_=> .fail
def eZ (st:St):List CV->Tr (List PV×St)
 | []=> .done ([],st)
 |x::r=>(jO st x).bind λ(a,st)=>(eZ st r).bind λ(b,st)=> .done (a::b,st)
theorem lL {st:St} {c:CV} {y:PV×St} (h:(jO st c).run=some y):cD st c=some y/\y.2.t=st.t:=by
 unfold jO at h;unfold cD;split at h
 ·cases h;exact ⟨rfl,rfl⟩
 ·split at h
  ·rename_i g' sz ty rows hB;split at h
   ·rename_i hg;obtain ⟨hm,h⟩:=Tr.ask_yes h;cases h;simp only [hB];rw [if_pos ⟨hg,hm⟩];refine ⟨rfl,?_⟩;unfold St.set;split<;>rfl
   ·cases h
  ·cases h
 ·cases h
theorem dM:∀{l:List CV} {st:St} {y:List PV×St},(eZ st l).run=some y->aP st l=some y/\y.2.t=st.t
 | [],st,y,h=>by cases h;exact ⟨rfl,rfl⟩
 |x::r,st,y,h=>by
  obtain ⟨⟨a,st1⟩,h1,h2⟩:=Tr.bind_some h;obtain ⟨⟨b,st2⟩,h3,h4⟩:=Tr.bind_some h2;cases h4;obtain ⟨e1,t1⟩:=lL h1;obtain ⟨e2,t2⟩:=dM h3;simp only [aP,e1,aN,e2];exact ⟨by first|rfl|trivial,t2.trans t1⟩
def vG (st:St):CV->Tr (PV×Bool)
 | .p x=> .done (x.weak,false)
 | .own d n g m=>match st.get d n with
  |some ⟨g',_,_,.row rows⟩=>if g=g' then .ask (decide (m=rows.length)) (.done (.ls rows,true)) .fail else .fail
  |_=> .fail
 |_=> .fail
def rE (st:St):List CV->Tr (List PV×Bool)
 | []=> .done ([],false)
 |x::r=>(vG st x).bind λ(a,p)=>(rE st r).bind λ(b,q)=> .done (a::b,p||q)
def nZ (st:St):Cap->Tr (Cap×Bool)
 | .ptr d n g=>match st.get d n with
  |some ⟨g',_,_,.box cells⟩=>if g=g' then (rE st cells).bind λ(r,p)=> .done (.rp r,p) else .fail
  |_=> .fail
 |c=> .done (c,false)
def kR (st:St):List Cap->Tr (List Cap×Bool)
 | []=> .done ([],false)
 |x::r=>(nZ st x).bind λ(a,p)=>(kR st r).bind λ(b,q)=> .done (a::b,p||q)
theorem yS {st:St} {c:CV} {y:PV×Bool} (h:(vG st c).run=some y):kT st c=some y:=by
 cases c with
 |own d n g m=>
  simp only [vG] at h;simp only [kT];split at h
  ·rename_i g' sz ty rows hB;split at h
   ·rename_i hg;obtain ⟨hm,h⟩:=Tr.ask_yes h;cases h;simp only [hB];rw [if_pos ⟨hg,hm⟩]
   ·cases h
  ·cases h
 |p x=>cases h;rfl
 |_=>cases h
theorem oA:∀{l:List CV} {st:St} {y:List PV×Bool},(rE st l).run=some y->eP st l=some y
 | [],st,y,h=>by cases h;rfl
 |x::r,st,y,h=>by
  obtain ⟨⟨a,p⟩,h1,h2⟩:=Tr.bind_some h;obtain ⟨⟨b,q⟩,h3,h4⟩:=Tr.bind_some h2;cases h4;simp only [eP,yS h1,aN,oA h3]
theorem tN {st:St} {c:Cap} {y:Cap×Bool} (h:(nZ st c).run=some y):eH st c=some y:=by
 cases c with
 |ptr d n g=>
  simp only [nZ] at h;simp only [eH];split at h
  ·rename_i g' sz ty cells hB;split at h
   ·rename_i hg;obtain ⟨⟨a,p⟩,h1,h2⟩:=Tr.bind_some h;cases h2;simp only [hB];rw [if_pos hg,oA h1];rfl
   ·cases h
  ·cases h
 |_=>cases h;rfl
theorem jP:∀{l:List Cap} {st:St} {y:List Cap×Bool},(kR st l).run=some y->cK st l=some y
 | [],st,y,h=>by cases h;rfl
 |x::r,st,y,h=>by
  obtain ⟨⟨a,p⟩,h1,h2⟩:=Tr.bind_some h;obtain ⟨⟨b,q⟩,h3,h4⟩:=Tr.bind_some h2;cases h4;simp only [cK,tN h1,aN,jP h3]
def Ci (st:St) (d n g j o m esz:Nat):Tr (TypeId×List (List PV)):=match st.get d n with
 |some ⟨g',sz,_,.deep cols rows⟩=>match zE o cols with
  |some (esz',ety)=>if g=g'/\esz'=esz/\o<sz then .opt (rows[j]?) λe=> .opt (cW e o) λinner=> .ask (decide (m=inner.length)) (.done (ety,inner)) .fail else .fail
  |none=> .fail
 |_=> .fail
theorem xI {st:St} {d n g j o m esz:Nat} {q:TypeId×List (List PV)} (h:(Ci st d n g j o m esz).run=some q):st.subB d n g j o m esz=some q:=by
 unfold Ci at h;unfold St.subB;split at h
 ·rename_i g' sz ty cols rows hB;rw [hB];simp only;split at h
  ·rename_i esz' ety hl;rw [hl];split at h
   ·rename_i hc;obtain ⟨e,he,h⟩:=Tr.opt_some h;obtain ⟨inner,hi,h⟩:=Tr.opt_some h;obtain ⟨hm,h⟩:=Tr.ask_yes h;cases h;rw [he];simp only;rw [fL hi];simp only;rw [if_pos ⟨hc.1,hc.2.1,hm,hc.2.2⟩]
   ·cases h
  ·cases h
 ·cases h
def iR (st:St):CV->Tr (CV×Bool)
 | .own d n g m=>match st.get d n with
  |some ⟨g',_,_,.row rows⟩|some ⟨g',_,_,.deep _ rows⟩=>if g=g' then .ask (decide (m=rows.length)) (.done (.p (.ls rows),true)) .fail else .fail
  |_=> .fail
 | .sub d n g j o m esz=>(Ci st d n g j o m esz).bind λq=> .done (.p (.ls q.2),true)
 | .p x=> .done (.p x.weak,false)
 | .fn f caps=>(kR st caps).bind λ(l,p)=> .done (.fn f l,p)
 |x=>if x.pure then .done (x,false) else .fail
def vH (st:St):List CV->Tr (List CV×Bool)
 | []=> .done ([],false)
 |x::r=>(iR st x).bind λ(a,p)=>(vH st r).bind λ(b,q)=> .done (a::b,p||q)
def Bd (st:St):AV->Tr (AV×Bool)
 | .c x=>(iR st x).bind λ(a,p)=> .done (.c a,p)
 | .agg cs=>(vH st cs).bind λ(a,p)=> .done (.agg a,p)
 | .tup _=> .fail
def rF (st:St):List AV->Tr (List AV×Bool)
 | []=> .done ([],false)
 |x::r=>(Bd st x).bind λ(a,p)=>(rF st r).bind λ(b,q)=> .done (a::b,p||q)
theorem pY {st:St} {c:CV} {y:CV×Bool} (h:(iR st c).run=some y):dW st c=some y:=by
 cases c with
 |own d n g m=>
  simp only [iR] at h;simp only [dW];split at h
  ·rename_i g' sz ty rows hB;split at h
   ·rename_i hg;obtain ⟨hm,h⟩:=Tr.ask_yes h;cases h;simp only [hB];rw [if_pos ⟨hg,hm⟩]
   ·cases h
  ·rename_i g' sz ty cols rows hB;split at h
   ·rename_i hg;obtain ⟨hm,h⟩:=Tr.ask_yes h;cases h;simp only [hB];rw [if_pos ⟨hg,hm⟩]
   ·cases h
  ·cases h
 |sub d n g j o m esz=>
  simp only [iR] at h;obtain ⟨q,h1,h2⟩:=Tr.bind_some h;cases h2;simp only [dW,xI h1,zamW]
 |p x=>cases h;rfl
 |fn f caps=>
  simp only [iR] at h;obtain ⟨⟨l,p⟩,h1,h2⟩:=Tr.bind_some h;cases h2;simp only [dW,jP h1,zamW]
 |_=>
  simp only [iR] at h;simp only [dW];split at h
  ·rename_i hp;cases h;rw [if_pos hp]
  ·cases h
theorem pZ:∀{l:List CV} {st:St} {y:List CV×Bool},(vH st l).run=some y->hO st l=some y
 | [],st,y,h=>by cases h;rfl
 |x::r,st,y,h=>by
  obtain ⟨⟨a,p⟩,h1,h2⟩:=Tr.bind_some h;obtain ⟨⟨b,q⟩,h3,h4⟩:=Tr.bind_some h2;cases h4;simp only [hO,pY h1,aN,pZ h3]
theorem yT {st:St} {a:AV} {y:AV×Bool} (h:(Bd st a).run=some y):fO st a=some y:=by
 cases a with
 |c x=>
  obtain ⟨⟨a,p⟩,h1,h2⟩:=Tr.bind_some h;cases h2;simp only [fO,pY h1,zamW]
 |agg cs=>
  obtain ⟨⟨a,p⟩,h1,h2⟩:=Tr.bind_some h;cases h2;simp only [fO,pZ h1,zamW]
 |tup vs=>cases h
theorem oB:∀{l:List AV} {st:St} {y:List AV×Bool},(rF st l).run=some y->eQ st l=some y
 | [],st,y,h=>by cases h;rfl
 |x::r,st,y,h=>by
  obtain ⟨⟨a,p⟩,h1,h2⟩:=Tr.bind_some h;obtain ⟨⟨b,q⟩,h3,h4⟩:=Tr.bind_some h2;cases h4;simp only [eQ,yT h1,aN,oB h3]
def xJ (st:St):AV->Tr (List (List PV))
 | .c (.p .nl)=> .done []
 | .c (.p (.ls rows))=> .done rows
 | .c (.own d n g m)=>match st.get d n with
  |some ⟨g',_,_,.row rows⟩=>if g=g' then .ask (decide (m=rows.length)) (.done rows) .fail else .fail
  |_=> .fail
 |_=> .fail
theorem tO {st:St} {a:AV} {y:List (List PV)} (h:(xJ st a).run=some y):st.rows a=some y:=by
 unfold xJ at h;unfold St.rows;split at h
 ·cases h;rfl
 ·cases h;rfl
 ·split at h
  ·rename_i g' sz ty rows hB;split at h
   ·rename_i hg;obtain ⟨hm,h⟩:=Tr.ask_yes h;cases h;simp only [hB];rw [if_pos ⟨hg,hm⟩]
   ·cases h
  ·cases h
 ·cases h
end Go.Eng
