import Derived.Test.YtilkdjfhbahhdaaE6
set_option linter.unusedVariables false
set_option linter.unusedSimpArgs false
namespace Go.Eng
open Go.RowKit
section
variable {P:Program} {F:Nat→Prop} {G:Nat→Option Obj} {N0:Base G} {T:Nat} {pl pl':Pl} {st st':St} {a:Act} {w w':World} {fs fs':List Frame}
structure Same (F:Nat→Prop) {G:Nat→Option Obj} (N0:Base G) (pl:Pl) (st st':St) (w:World) (pl':Pl):Prop where
 mem:MemOK F N0 (st'.fr::st'.up) pl' w
 keep:Keep F (st.fr::st.up) (st'.fr::st'.up) pl pl' w w
 t:st'.t=st.t
theorem Same.refl (hm:MemOK F N0 (st.fr::st.up) pl w):Same F N0 pl st st w pl:=⟨hm,Keep.refl,rfl⟩
theorem Same.trans {st'':St} {pl'':Pl} (h:Same F N0 pl st st' w pl') (h':Same F N0 pl' st' st'' w pl''):Same F N0 pl st st'' w pl'':=⟨h'.mem,h.keep.trans h'.keep,h'.t.trans h.t⟩
theorem zAt {p:Pc} {b s b' s':Nat} (h:p 0=some (b,s)) (h1:p=one b' s'):b'=b∧s'=s:=by
 rw [h1] at h
 cases h
 exact ⟨rfl,rfl⟩
theorem zHM {p:Pc} {b s b' s':Nat} (h:p 0=some (b,s)) (h1:p=one b' s'):b=b'∧s=s':=⟨(zAt h h1).1.symm,(zAt h h1).2.symm⟩
theorem zA2 {p:Pc} {b s:Nat} (h:p 0=some (b,s)) (h1:p=nop):False:=by rw [h1] at h;cases h
theorem zCV {p:Pc}:One p w w:=⟨rfl,rfl,rfl,Nat.le_refl _,fun _ _ _=>rfl⟩
theorem zEc (a:Addr) (i:Nat):(a.add i).block=a.block:=by unfold Addr.add;split<;>rfl
theorem zCv (hm:MemOK F N0 fs pl w) {v:Value} {d n g m:Nat} {sz ty:Nat} {rows:List (List PV)} (hv:zAM F fs pl w v (.own d n g m)) (hB:zB d n fs=some ⟨g,sz,ty,.row rows⟩) (hml:m=rows.length)
  {own':Nat→Prop} (h1:∀b s,pl d n 0=some (b,s)→¬own' b) (h2:∀{u x},RepP (Own F pl) w u x→RepP own' w u x):RepP own' w v (.ls rows):=by
 obtain ⟨h0,B,h3,h4,h5⟩:=hv
 rw [hB] at h3
 cases h3
 have hb:=hm.blk d n _ hB
 rcases h5 rfl with ⟨rfl,hm0,hp⟩|⟨b,s,cap,hp,rfl,hs,hmc,hcm⟩
 ·have:rows= []:=zAQ (by omega)
  subst this
  exact .nls
 ·rcases hb with ⟨h6,h7⟩|⟨b',s',us,h6,h7,h8,h9,h10,h11⟩
  ·exact (zA2 hp h7).elim
  ·obtain ⟨rfl,rfl⟩:=zAt hp h6
   simp only at h7 h9 h10 h11
   refine .ls (sz:=sz) (fun j o=>us.getD (j*sz+o) .nilIface) hml.symm hmc (Nat.le_trans hmc hcm) (fun _=>⟨h1 _ _ hp,(Array.getElem?_eq_some_iff.1 (by simpa using h7)).1⟩) (fun j e he=>⟨h10 e (zn he),fun o x hx=>?_⟩) (fun j e o x he hx=>?_)
   ·obtain ⟨v,hv,_⟩:=h11 j e o x he hx
    rw [zAV,Nat.zero_add,zA1 h7,hv]
    simp [Array.getD_eq_getD_getElem?,hv]
   ·obtain ⟨v,hv,hr⟩:=h11 j e o x he hx
    have:us.getD (j*sz+o) .nilIface=v:=by simp [Array.getD_eq_getD_getElem?,hv]
    rw [this]
    exact h2 hr
theorem zCD (hm:MemOK F N0 (st.fr::st.up) pl w) (hN:N0.n≤w.heap.size) {v:Value} {c:CV} {y:PV} (h:zAH st c=some (y,st')) (hv:zAM F (st.fr::st.up) pl w v c):
  ∃pl',Same F N0 pl st st' w pl'∧RepP (Own F pl') w v y:=by
 unfold zAH at h
 split at h
 ·cases h
  exact ⟨pl,Same.refl hm,RepP.weak hv⟩
 ·rename_i d n g m
  split at h
  ·rename_i g' sz ty rows hB
   split at h
   ·rename_i hc
    obtain ⟨rfl,hml⟩:=hc
    cases h
    have hB':zB d n (st.fr::st.up)=some ⟨g,sz,ty,.row rows⟩:=hB
    have hd:=zH hB'
    have hk:=zBE (B:=⟨g+1,sz,ty,.dead⟩) (x:=nop) hm hd (fun B0 h0=>by
     rw [hB'] at h0;cases h0
     exact ⟨by simp,fun e=>by simp at e⟩) (zCV (w:=w)) (fun j b s h=>by cases h)
    have hmem:=zBl hm hN hd hk zCV (fun j b s h=>by cases h) zBn (by show zx pl d n nop d n=nop;exact zF ..)
    refine ⟨zx pl d n nop,⟨by rw [zJ];exact hmem,by rw [zJ];exact hk,zy ..⟩,?_⟩
    refine zCv hm hv hB' hml (fun b s hp hown=>?_) (fun hr=>hk.repP hr)
    rcases hown with hF|⟨d',n',j',s',hp'⟩
    ·exact (hm.live _ _ _ _ _ hp).2.2.1 hF
    ·by_cases e:d'=d∧n'=n
     ·obtain ⟨rfl,rfl⟩:=e;rw [zF] at hp';cases hp'
     ·rw [zr pl nop e] at hp'
      obtain ⟨e1,e2,_⟩:=hm.inj _ _ _ _ _ _ _ _ _ hp' hp
      exact e ⟨e1,e2⟩
   ·cases h
  ·cases h
 ·cases h
def RepPs (own:Nat→Prop) (w:World) (us:List Value) (ps:List PV):Prop:=us.length=ps.length∧∀(i:Nat) u x,us[i]?=some u→ps[i]?=some x→RepP own w u x
theorem RepPs.cs {us:List Value} {ps:List PV} (h:RepPs (Own F pl) w us ps):zK F fs pl w us (ps.map .p):=
 ⟨by rw [List.length_map];exact h.1,fun i u c hu hc=>by
  rw [List.getElem?_map] at hc
  obtain ⟨x,hx,rfl⟩:=Option.map_eq_some_iff.1 hc
  have:=h.2 i u x hu hx
  exact ⟨this,.inr this.one.1⟩⟩
theorem zAu:∀{cs:List CV} {st st':St} {pl:Pl} {ps:List PV} {us:List Value},MemOK F N0 (st.fr::st.up) pl w→N0.n≤w.heap.size→zq st cs=some (ps,st')→zK F (st.fr::st.up) pl w us cs→
  ∃pl',Same F N0 pl st st' w pl'∧RepPs (Own F pl') w us ps
 | [],st,st',pl,ps,us,hm,hN,h,hv=>by
  simp only [zq,zM,Prod.mk.injEq] at h
  obtain ⟨rfl,rfl⟩:=h
  have:us= []:=zAQ hv.1
  subst this
  exact ⟨pl,Same.refl hm,rfl,fun i u x hu=>by simp at hu⟩
 |c::r,st,st',pl,ps,us,hm,hN,h,hv=>by
  simp only [zq,zN,Prod.exists] at h
  obtain ⟨y,st1,h1,qs,st2,h2,h3⟩:=h
  simp only [zM,Prod.mk.injEq] at h3
  obtain ⟨rfl,rfl⟩:=h3
  match us,hv with
  |u::us,hv=>
   obtain ⟨pl1,s1,r1⟩:=zCD hm hN h1 (hv.2 0 u c rfl rfl).1
   have hv':zK F (st1.fr::st1.up) pl1 w us r:=s1.keep.repCs ⟨by simpa using hv.1,fun i u c hu hc=>hv.2 (i+1) u c (by simpa using hu) (by simpa using hc)⟩
   obtain ⟨pl2,s2,r2⟩:=zAu s1.mem hN h2 hv'
   refine ⟨pl2,s1.trans s2,by simp [r2.1],fun i u' x hu hx=>?_⟩
   cases i with
   |zero=>simp at hu hx;subst hu;subst hx;exact s2.keep.repP r1
   |succ i=>exact r2.2 i u' x (by simpa using hu) (by simpa using hx)
  | [],hv=>simp [zK] at hv
theorem zj {α:Type} (l xs:List α) (o:Nat) (h:o+xs.length≤l.length) (i:Nat):(zA l o xs)[i]?=if o≤i∧i<o+xs.length then xs[i-o]? else l[i]?:=by
 unfold zA
 by_cases h1:i<o
 ·rw [if_neg (by omega),List.append_assoc,List.getElem?_append_left (by simp;omega),List.getElem?_take,if_pos h1]
 ·by_cases h2:i<o+xs.length
  ·rw [if_pos ⟨by omega,h2⟩,List.append_assoc,List.getElem?_append_right (by simp;omega),List.getElem?_append_left (by simp;omega)]
   congr 1
   simp;omega
  ·rw [if_neg (by omega),List.getElem?_append_right (by simp;omega),List.getElem?_drop]
   congr 1
   simp;omega
theorem zf {α:Type} (l xs:List α) (o:Nat) (h:o+xs.length≤l.length):(zA l o xs).length=l.length:=by unfold zA;simp;omega
theorem zCE {p:Pc} {b s j:Nat} (hp:p j=some (b,s)) (row:Array Value):One p w (w.setRow b row):=by
 refine ⟨rfl,rfl,rfl,by simp [World.setRow],fun k hk hn=>?_⟩
 have hne:k≠b:=fun e=>hn j s (e▸hp)
 simp only [World.setRow]
 rw [Array.getElem?_modify]
 simp [Ne.symm hne]
theorem zBe {b:Nat} (row:Array Value):KeepB (fun k=>k≠b) w (w.setRow b row):=by
 refine ⟨by simp [World.setRow],fun k hk hne=>?_⟩
 simp only [World.setRow]
 rw [Array.getElem?_modify]
 simp [Ne.symm hne]
theorem zBM {b:Nat} {old cs:Array Value} {t:TypeId} (hg:w.heap[b]?=some (.cells old t (0,0))):(w.setRow b cs).heap[b]?=some (.cells cs t (0,0)):=setRow_heap w b old cs t _ hg
theorem zHN {us:List Value} {xs:List CV} (h:zK F fs pl w us xs) (hk:xs.all (·.known)=true):∀v∈us,v.oneCell'=true:=by
 intro v hv
 obtain ⟨i,hi,rfl⟩:=List.getElem_of_mem hv
 have hx:i<xs.length:=by have:=h.1;omega
 rcases (h.2 i _ _ (zb hi) (zb hx)).2 with e|e
 ·have:=List.all_eq_true.1 hk _ (List.getElem_mem hx)
  rw [e] at this
  cases this
 ·exact e
def zDU (pl:Pl) (d m idx d2 n2:Nat):Pl:=fun d' n'=>if d'=d∧n'=m then (fun i=>if i=idx then pl d2 n2 0 else pl d m i) else if d'=d2∧n'=n2 then nop else pl d' n'
theorem zA3 (pl:Pl) (d m idx d2 n2:Nat):zDU pl d m idx d2 n2 d m=fun i=>if i=idx then pl d2 n2 0 else pl d m i:=by simp [zDU]
theorem zHO (pl:Pl) {d m idx d2 n2:Nat} (hne:¬(d=d2∧m=n2)):zDU pl d m idx d2 n2 d2 n2=nop:=by
 unfold zDU
 rw [if_neg (fun e=>hne ⟨e.1.symm,e.2.symm⟩),if_pos ⟨rfl,rfl⟩]
theorem zDu (pl:Pl) {d m idx d2 n2 d' n':Nat} (h1:¬(d'=d∧n'=m)) (h2:¬(d'=d2∧n'=n2)):zDU pl d m idx d2 n2 d' n'=pl d' n':=by
 unfold zDU
 rw [if_neg h1,if_neg h2]
theorem zDc {pl:Pl} {d m idx d2 n2 d' n' i:Nat} {x:Nat×Nat} (hne:¬(d=d2∧m=n2)) (h:zDU pl d m idx d2 n2 d' n' i=some x):
  (d'=d∧n'=m∧i=idx∧pl d2 n2 0=some x)∨(pl d' n' i=some x∧¬(d'=d2∧n'=n2)∧¬(d'=d∧n'=m∧i=idx)):=by
 by_cases e1:d'=d∧n'=m
 ·obtain ⟨rfl,rfl⟩:=e1
  rw [zA3] at h
  by_cases e3:i=idx
  ·simp only [if_pos e3] at h
   exact .inl ⟨rfl,rfl,e3,h⟩
  ·simp only [if_neg e3] at h
   exact .inr ⟨h,hne,fun e=>e3 e.2.2⟩
 ·by_cases e2:d'=d2∧n'=n2
  ·obtain ⟨rfl,rfl⟩:=e2
   rw [zHO pl hne] at h
   cases h
  ·rw [zDu pl e1 e2] at h
   exact .inr ⟨h,e2,fun e=>e1 ⟨e.1,e.2.1⟩⟩
theorem zHz (hm:MemOK F N0 fs pl w) {d m d2 n2 idx:Nat} (hne:¬(d=d2∧m=n2)) (hi:idx≠0) (hfree:pl d m idx=none) {B B1 B2 R1:Blk} (hB:zB d m fs=some B1) (hR:zB d2 n2 fs=some R1)
  (hBg:B.g=B1.g) (hBs:B.sz=B1.sz) (hRg:R1.g<B2.g) (hs:One (pl d m) w w') (hlen:fs'.length=fs.length) (hfs:∀d' n',zB d' n' fs'=if d'=d∧n'=m then some B else if d'=d2∧n'=n2 then some B2 else zB d' n' fs):
  Keep F fs fs' pl (zDU pl d m idx d2 n2) w w':=by
 refine ⟨⟨hs.os,hs.tape,hs.output,hs.size,fun k hk hn=>hs.block k hk (fun j s=>hn d m j s)⟩,hlen,fun d' n' b hb=>?_,fun d' n' i b s h=>?_⟩
 ·rw [hfs]
  by_cases e1:d'=d∧n'=m
  ·obtain ⟨rfl,rfl⟩:=e1
   rw [hB] at hb
   cases hb
   refine ⟨B,by rw [if_pos ⟨rfl,rfl⟩],by omega,fun _=>⟨⟨?_,fun i x hx=>?_⟩,hBs⟩⟩
   ·rw [zA3]
    simp only [if_neg (Ne.symm hi)]
   ·rw [zA3]
    by_cases e:i=idx
    ·subst e;rw [hfree] at hx;cases hx
    ·simp only [if_neg e];exact hx
  ·rw [if_neg e1]
   by_cases e2:d'=d2∧n'=n2
   ·obtain ⟨rfl,rfl⟩:=e2
    rw [hR] at hb
    cases hb
    exact ⟨B2,by rw [if_pos ⟨rfl,rfl⟩],Nat.le_of_lt hRg,fun e=>by omega⟩
   ·exact ⟨b,by rw [if_neg e2];exact hb,Nat.le_refl _,fun _=>⟨Ext.of (zDu pl e1 e2),rfl⟩⟩
 ·rcases zDc hne h with ⟨_,_,_,h1⟩|⟨h1,_,_⟩
  ·exact .inl ⟨_,_,_,_,h1⟩
  ·exact .inl ⟨_,_,_,_,h1⟩
theorem zIv (hm:MemOK F N0 fs pl w) {d m d2 n2 idx:Nat} (hne:¬(d=d2∧m=n2)) {B B2:Blk} {B1 R1:Blk} (hB:zB d m fs=some B1) (hR:zB d2 n2 fs=some R1)
  (hdead:B2.k= .dead) (hs:One (pl d m) w w') (hfs:∀d' n',zB d' n' fs'=if d'=d∧n'=m then some B else if d'=d2∧n'=n2 then some B2 else zB d' n' fs)
  (hK:Keep F fs fs' pl (zDU pl d m idx d2 n2) w w') (hblk:zY F fs' (zDU pl d m idx d2 n2) w' d m B):MemOK F N0 fs' (zDU pl d m idx d2 n2) w':=by
 refine ⟨fun d' n' i b s h=>?_,fun e1 m1 i1 e2 m2 i2 b s s' h1 h2=>?_,fun d' n' Bx hBx=>?_,fun k hk=>Nat.lt_of_lt_of_le (hm.fsz k hk) hs.size,zAr hm hK.step.block⟩
 ·have fin:∀{d0 n0 i0},pl d0 n0 i0=some (b,s)→N0.n≤b∧b<w'.heap.size∧¬F b:=fun {d0 n0 i0} h=>by
   obtain ⟨a1,a2,a3,_⟩:=hm.live _ _ _ _ _ h
   exact ⟨a1,Nat.lt_of_lt_of_le a2 hs.size,a3⟩
  rcases zDc hne h with ⟨rfl,rfl,_,h1⟩|⟨h1,e2,_⟩
  ·obtain ⟨a1,a2,a3⟩:=fin h1
   exact ⟨a1,a2,a3,B,by rw [hfs,if_pos ⟨rfl,rfl⟩]⟩
  ·obtain ⟨a1,a2,a3⟩:=fin h1
   obtain ⟨_,_,_,Bq,a4⟩:=hm.live _ _ _ _ _ h1
   refine ⟨a1,a2,a3,?_⟩
   rw [hfs]
   by_cases e1:d'=d∧n'=m
   ·exact ⟨B,by rw [if_pos e1]⟩
   ·exact ⟨Bq,by rw [if_neg e1,if_neg e2];exact a4⟩
 ·rcases zDc hne h1 with ⟨rfl,rfl,rfl,g1⟩|⟨g1,k1,k2⟩<;>rcases zDc hne h2 with ⟨rfl,rfl,rfl,g2⟩|⟨g2,k3,k4⟩
  ·exact ⟨rfl,rfl,rfl⟩
  ·obtain ⟨rfl,rfl,_⟩:=hm.inj _ _ _ _ _ _ _ _ _ g1 g2
   exact absurd ⟨rfl,rfl⟩ k3
  ·obtain ⟨rfl,rfl,_⟩:=hm.inj _ _ _ _ _ _ _ _ _ g2 g1
   exact absurd ⟨rfl,rfl⟩ k1
  ·exact hm.inj _ _ _ _ _ _ _ _ _ g1 g2
 ·rw [hfs] at hBx
  by_cases e1:d'=d∧n'=m
  ·rw [if_pos e1] at hBx
   cases hBx
   obtain ⟨rfl,rfl⟩:=e1
   exact hblk
  ·rw [if_neg e1] at hBx
   by_cases e2:d'=d2∧n'=n2
   ·rw [if_pos e2] at hBx
    cases hBx
    obtain ⟨rfl,rfl⟩:=e2
    unfold zY
    rw [hdead]
    exact zHO pl hne
   ·rw [if_neg e2] at hBx
    refine zAN hK (zDu pl e1 e2) (fun i b s h=>hs.block b (hm.live _ _ _ _ _ h).2.1 (fun j s' h'=>?_)) (hm.blk d' n' Bx hBx)
    obtain ⟨a1,a2,_⟩:=hm.inj _ _ _ _ _ _ _ _ _ h h'
    exact e1 ⟨a1,a2⟩
theorem zFJ {cols:List (Nat×Nat×TypeId)}:∀{xs:List CV} {o:Nat} {ys:List PV} {q:Option (Nat×Nat×TypeId×Nat×Nat×Nat×Nat)},zGa cols o xs=some (ys,q)→ys.length=xs.length∧
  (∀(i:Nat) c,xs[i]?=some c→(look (o+i) cols=none∧∃y,c= .p y∧ys[i]?=some y.weak)∨
   (∃esz ety d n g m,look (o+i) cols=some (esz,ety)∧c= .own d n g m∧ys[i]?=some .nl∧q=some (o+i,esz,ety,d,n,g,m)))∧
  ∀k esz ety d n g m,q=some (k,esz,ety,d,n,g,m)→o≤k∧look k cols=some (esz,ety)∧xs[k-o]?=some (.own d n g m)
 | [],o,ys,q,h=>by
  simp only [zGa,zM,Prod.mk.injEq] at h
  obtain ⟨rfl,rfl⟩:=h
  exact ⟨rfl,fun i c hc=>by simp at hc,fun k esz ety d n g m h=>by cases h⟩
 |x::r,o,ys,q,h=>by
  simp only [zGa,zN,Prod.exists] at h
  obtain ⟨l,q1,h1,h⟩:=h
  obtain ⟨k1,k2,k3⟩:=zFJ h1
  split at h
  ·rename_i y hl
   simp only [zM,Prod.mk.injEq] at h
   obtain ⟨rfl,rfl⟩:=h
   refine ⟨by simp [k1],fun i c hc=>?_,fun k esz ety d n g m e=>?_⟩
   ·cases i with
    |zero=>cases hc;exact .inl ⟨hl,y,rfl,rfl⟩
    |succ i=>
     have:=k2 i c (by simpa using hc)
     rw [show o+1+i=o+(i+1) by omega] at this
     simpa using this
   ·obtain ⟨a1,a2,a3⟩:=k3 k esz ety d n g m e
    refine ⟨by omega,a2,?_⟩
    rw [show k-o=(k-(o+1))+1 by omega]
    simpa using a3
  ·rename_i esz ety d n g m hl
   simp only [zM,Prod.mk.injEq] at h
   obtain ⟨rfl,rfl⟩:=h
   refine ⟨by simp [k1],fun i c hc=>?_,fun k esz' ety' d' n' g' m' e=>?_⟩
   ·cases i with
    |zero=>cases hc;exact .inr ⟨esz,ety,d,n,g,m,hl,rfl,rfl,rfl⟩
    |succ i=>
     rcases k2 i c (by simpa using hc) with ⟨a1,a2⟩|⟨_,_,_,_,_,_,_,_,_,a⟩
     ·rw [show o+1+i=o+(i+1) by omega] at a1
      exact .inl ⟨a1,by simpa using a2⟩
     ·cases a
   ·cases e
    exact ⟨Nat.le_refl _,hl,by simp⟩
  ·cases h
theorem DCell.at {F:Nat→Prop} {w:World} {pl:Pl} {p p':Pc} {cols:List (Nat×Nat×TypeId)} {sz j o:Nat} {v:Value} {x:PV} (h:DCell F w pl p cols sz j o v x) (hp:p' (j*sz+o+1)=p (j*sz+o+1)):DCell F w pl p' cols sz j o v x:=by
 unfold DCell at h⊢
 rw [hp]
 exact h
theorem zFs {j j' o o' sz:Nat} (ho:o<sz) (ho':o'<sz) (h:¬(j'=j∧o'=o)):j'*sz+o'≠j*sz+o:=by
 intro e
 rcases Nat.lt_trichotomy j' j with hlt|he|hlt
 ·have:=Nat.mul_le_mul_right sz (show j'+1≤j by omega)
  rw [Nat.add_mul] at this
  omega
 ·subst he
  exact h ⟨rfl,by omega⟩
 ·have:=Nat.mul_le_mul_right sz (show j+1≤j' by omega)
  rw [Nat.add_mul] at this
  omega
theorem zGm (hm:MemOK F N0 (st.fr::st.up) pl w) (hN:N0.n≤w.heap.size) {d m g j o sz ty:Nat} {cols:List (Nat×Nat×TypeId)} {rows:List (List PV)} (hB:zB d m (st.fr::st.up)=some ⟨g,sz,ty,.deep cols rows⟩) {v:Value}
  (hv:∃b s,pl d m 0=some (b,s)∧v= .pointer (some ⟨b,j*sz+o,none⟩)) {us:List Value} {xs:List CV} (hxs:zK F (st.fr::st.up) pl w us xs) {ys:List PV} {q:Option (Nat×Nat×TypeId×Nat×Nat×Nat×Nat)} (hq:zGa cols o xs=some (ys,q))
  {e:List PV} (hj:rows[j]?=some e) (ho:o+ys.length≤e.length)
  (h:(match (generalizing:=false) q with
   |none=>some (st.set d m ⟨g,sz,ty,.deep cols (rows.set j (zA e o ys))⟩)
   |some (k,esz,ety,d2,n2,g2,m2)=>match st.get d2 n2,e[k]? with
    |some ⟨g2',esz',ety',.row rows2⟩,some .nl=>if g2=g2'∧esz'=esz∧ety'=ety∧m2=rows2.length then
      some ((st.set d2 n2 ⟨g2+1,esz,ety,.dead⟩).set d m ⟨g,sz,ty,.deep cols (rows.set j ((zA e o ys).set k (.ls rows2)))⟩) else none
    |_,_=>none)=some st'):
  ∃ad w' pl',v= .pointer (some ad)∧(storeCells ad us).run P w= .ok () w'∧MemOK F N0 (st'.fr::st'.up) pl' w'∧Keep F (st.fr::st.up) (st'.fr::st'.up) pl pl' w w'∧st'.t=st.t∧KeepB (fun k=>k≠ad.block) w w':=by
 obtain ⟨b,s,hp,rfl⟩:=hv
 obtain ⟨q1,q2,q3⟩:=zFJ hq
 rcases hm.blk d m _ hB with ⟨h1,h2⟩|⟨b',s',cur,h1,h2,h3,h4,h5,h6,h7⟩
 ·have h1:rows= []:=h1
  subst h1;simp at hj
 have hbs:b'=b∧s'=s:=by rw [hp] at h1;cases h1;exact ⟨rfl,rfl⟩
 obtain ⟨rfl,rfl⟩:=hbs
 simp only at h2 h4 h5 h6 h7
 have hjl:j<rows.length:=(List.getElem?_eq_some_iff.1 hj).1
 have hel:e.length=sz:=h5 e (zn hj)
 have hmul:=Nat.mul_le_mul_right sz (show j+1≤rows.length by omega)
 rw [Nat.add_mul] at hmul
 have hul:=hxs.1
 have hone:∀v∈us,v.oneCell'=true:=fun v hv=>by
  obtain ⟨i,hi,rfl⟩:=List.getElem_of_mem hv
  have hx:i<xs.length:=by omega
  rcases (hxs.2 i _ _ (zb hi) (zb hx)).2 with e1|e1
  ·rcases q2 i _ (zb hx) with ⟨_,y,e2,_⟩|⟨_,_,_,_,_,_,_,e2,_⟩<;>(rw [e1] at e2;cases e2)
  ·exact e1
 have hrun:=run_storeCells_at (P:=P) b' (j*sz+o) ty us 0 cur w h2 (by simp only [Nat.add_zero];omega) hone
 simp only [Nat.add_zero] at hrun
 have hd:=zH hB
 have hset:(cur.toList.take (j*sz+o)++us++cur.toList.drop (j*sz+o+us.length))=zA cur.toList (j*sz+o) us:=rfl
 rw [hset] at hrun
 have hs:=zCE (w:=w) hp (zA cur.toList (j*sz+o) us).toArray
 have hkb:=zBe (w:=w) (b:=b') (zA cur.toList (j*sz+o) us).toArray
 have hheap:(w.setRow b' (zA cur.toList (j*sz+o) us).toArray).heap[b']?=some (.cells (zA cur.toList (j*sz+o) us).toArray ty (0,0)):=zBM h2
 generalize w.setRow b' (zA cur.toList (j*sz+o) us).toArray=w2 at hrun hs hkb hheap⊢
 have hc2:j*sz+o+us.length≤cur.toList.length:=by simp;omega
 have hnest:∀c b2 s2,pl d m (c+1)=some (b2,s2)→w2.heap[b2]?=w.heap[b2]?:=fun c b2 s2 h=>by
  refine hkb.2 b2 (hm.live _ _ _ _ _ h).2.1 (fun e=>?_)
  subst e
  have:=(hm.inj _ _ _ _ _ _ _ _ _ h hp).2.2
  omega
 have olt:∀{e2:List PV} {j' o':Nat} {x':PV},rows[j']?=some e2→e2[o']?=some x'→o'<sz:=fun {e2 j' o' x'} h1 h2=>by
  rw [←h5 e2 (zn h1)]
  exact (List.getElem?_eq_some_iff.1 h2).1
 have mk:∀(pl2:Pl) (e':List PV) (fs2:List Frame),e'.length=sz→pl2 d m 0=some (b',s')→(∀{u x},RepP (Own F pl) w u x→RepP (Own F pl2) w2 u x)→
   (∀o' x',e'[o']?=some x'→∃v,(zA cur.toList (j*sz+o) us)[j*sz+o']?=some v∧DCell F w2 pl2 (pl2 d m) cols sz j o' v x')→
   (∀j' o',j'≠j→o'<sz→pl2 d m (j'*sz+o'+1)=pl d m (j'*sz+o'+1))→(∀c,rows.length*sz≤c→pl2 d m (c+1)=none)→
   zY F fs2 pl2 w2 d m ⟨g,sz,ty,.deep cols (rows.set j e')⟩:=fun pl2 e' fs2 hle hp2 hPP hcells hold hend=>by
  refine .inr ⟨b',s',(zA cur.toList (j*sz+o) us).toArray,hp2,hheap,by simp [zf _ _ _ hc2];omega,by simpa using h4,?_,?_,?_⟩
  ·intro e2 he2
   rcases List.mem_or_eq_of_mem_set he2 with h8|rfl
   ·exact h5 _ h8
   ·exact hle
  ·intro j' e2 o' x' hj' ho'
   simp only [List.getElem?_toArray]
   by_cases e1:j'=j
   ·subst e1
    rw [List.getElem?_set_self hjl] at hj'
    cases hj'
    exact hcells o' x' ho'
   ·rw [List.getElem?_set_ne (Ne.symm e1)] at hj'
    obtain ⟨v,hv,hr⟩:=h6 j' e2 o' x' hj' ho'
    have ho2:=olt hj' ho'
    have hne:¬(j*sz+o≤j'*sz+o'∧j'*sz+o'<j*sz+o+us.length):=by
     intro hcon
     rcases Nat.lt_or_gt_of_ne e1 with hlt|hlt
     ·have:=Nat.mul_le_mul_right sz (show j'+1≤j by omega)
      rw [Nat.add_mul] at this
      omega
     ·have:=Nat.mul_le_mul_right sz (show j+1≤j' by omega)
      rw [Nat.add_mul] at this
      omega
    refine ⟨v,?_,?_⟩
    ·rw [zj _ _ _ hc2,if_neg hne]
     simpa using hv
    ·exact (hr.keep (fun h=>hPP h) (fun c b2 s2 h=>hnest c b2 s2 h)).at (hold j' o' e1 ho2)
  ·simpa using hend
 have old:∀(pl2:Pl) (o':Nat) (x':PV),(∀{u x},RepP (Own F pl) w u x→RepP (Own F pl2) w2 u x)→pl2 d m (j*sz+o'+1)=pl d m (j*sz+o'+1)→(zA e o ys)[o']?=some x'→
   (∀k esz ety d n g m,q=some (k,esz,ety,d,n,g,m)→o'≠k)→∃v,(zA cur.toList (j*sz+o) us)[j*sz+o']?=some v∧DCell F w2 pl2 (pl2 d m) cols sz j o' v x':=fun pl2 o' x' hPP hp2 hx' hk=>by
  rw [zj _ _ _ ho] at hx'
  rw [zj _ _ _ hc2]
  by_cases hi:o≤o'∧o'<o+ys.length
  ·rw [if_pos hi] at hx'
   rw [if_pos (by omega)]
   have hlt:o'-o<us.length:=by omega
   have hlx:o'-o<xs.length:=by omega
   rw [show j*sz+o'-(j*sz+o)=o'-o by omega]
   refine ⟨us[o'-o],zb hlt,?_⟩
   have hr:=(hxs.2 (o'-o) _ _ (zb hlt) (zb hlx)).1
   rcases q2 (o'-o) _ (zb hlx) with ⟨a1,y,a2,a3⟩|⟨_,_,_,_,_,_,_,_,_,a⟩
   ·rw [a2] at hr
    rw [hx'] at a3
    cases a3
    rw [show o+(o'-o)=o' by omega] at a1
    unfold DCell
    rw [a1]
    exact hPP (RepP.weak hr)
   ·exact absurd (show o'=o+(o'-o) by omega) (hk _ _ _ _ _ _ _ a)
  ·rw [if_neg hi] at hx'
   rw [if_neg (by omega)]
   obtain ⟨v,hv,hr⟩:=h6 j e o' x' hj hx'
   exact ⟨v,by simpa using hv,(hr.keep (fun h=>hPP h) (fun c b2 s2 h=>hnest c b2 s2 h)).at hp2⟩
 have hle0:(zA e o ys).length=sz:=by rw [zf _ _ _ ho];exact hel
 cases q with
 |none=>
  simp only [zM] at h
  subst h
  have hk:=zBE (B:=⟨g,sz,ty,.deep cols (rows.set j (zA e o ys))⟩) (x:=pl d m) hm hd (fun B0 hB0=>by rw [hB] at hB0;cases hB0;exact ⟨Nat.le_refl _,fun _=>⟨Ext.refl _,rfl⟩⟩) hs (fun j b s h=> .inl ⟨_,_,j,s,h⟩)
  refine ⟨_,_,_,rfl,hrun,?_,by rw [zJ];exact hk,zy ..,hkb⟩
  rw [zJ]
  refine zBl hm hN hd hk hs (fun j b s h=>⟨.inl ⟨j,s,h⟩,Nat.lt_of_lt_of_le (hm.live _ _ _ _ _ h).2.1 hs.size⟩) (fun j j' b s s' h h'=>(hm.inj _ _ _ _ _ _ _ _ _ h h').2.2) ?_
  refine mk _ _ _ hle0 (by rw [zF];exact hp) (fun h=>hk.repP h) (fun o' x' hx'=>old _ o' x' (fun h=>hk.repP h) (by rw [zF]) hx' (fun _ _ _ _ _ _ _ h=>by cases h)) (fun j' o' _ _=>by rw [zF]) (fun c hc=>by rw [zF];exact h7 c hc)
 |some t=>
  obtain ⟨k,esz,ety,d2,n2,g2,m2⟩:=t
  simp only at h
  split at h
  ·rename_i g2' esz' ety' rows2 hR hek
   split at h
   ·rename_i hc
    obtain ⟨rfl,rfl,rfl,hm2⟩:=hc
    simp only [zM] at h
    subst h
    obtain ⟨k1,k2,k3⟩:=q3 _ _ _ _ _ _ _ rfl
    have hR':zB d2 n2 (st.fr::st.up)=some ⟨g2,esz',ety',.row rows2⟩:=hR
    have hne:¬(d=d2∧m=n2):=fun e=>by
     obtain ⟨rfl,rfl⟩:=e
     rw [hB] at hR'
     cases hR'
    have hksz:k<sz:=by rw [←hel];exact (List.getElem?_eq_some_iff.1 hek).1
    have hfree:pl d m (j*sz+k+1)=none:=by
     obtain ⟨v,_,hr⟩:=h6 j e k _ hj hek
     unfold DCell at hr
     rw [k2] at hr
     rcases hr with ⟨_,_,e3⟩|⟨_,_,_,_,_,e1,_⟩
     ·exact e3
     ·cases e1
    have hd2:=zH hR'
    have hfs:∀d' n',zB d' n' (((st.set d2 n2 ⟨g2+1,esz',ety',.dead⟩).set d m ⟨g,sz,ty,.deep cols (rows.set j ((zA e o ys).set k (.ls rows2)))⟩).fr::((st.set d2 n2 ⟨g2+1,esz',ety',.dead⟩).set d m ⟨g,sz,ty,.deep cols (rows.set j ((zA e o ys).set k (.ls rows2)))⟩).up)=
      if d'=d∧n'=m then some ⟨g,sz,ty,.deep cols (rows.set j ((zA e o ys).set k (.ls rows2)))⟩ else if d'=d2∧n'=n2 then some ⟨g2+1,esz',ety',.dead⟩ else zB d' n' (st.fr::st.up):=fun d' n'=>by
     rw [zJ,zR d' n' (by rw [zJ,ze];exact hd),zJ,zR d' n' hd2]
    have hlen:(((st.set d2 n2 ⟨g2+1,esz',ety',.dead⟩).set d m ⟨g,sz,ty,.deep cols (rows.set j ((zA e o ys).set k (.ls rows2)))⟩).fr::((st.set d2 n2 ⟨g2+1,esz',ety',.dead⟩).set d m ⟨g,sz,ty,.deep cols (rows.set j ((zA e o ys).set k (.ls rows2)))⟩).up).length=(st.fr::st.up).length:=by
     rw [zJ,ze,zJ,ze]
    have hk:=zHz (idx:=j*sz+k+1) (B:=⟨g,sz,ty,.deep cols (rows.set j ((zA e o ys).set k (.ls rows2)))⟩) (B2:=⟨g2+1,esz',ety',.dead⟩) hm hne (Nat.succ_ne_zero _) hfree hB hR' rfl rfl (Nat.lt_succ_self _) hs hlen hfs
    have hPP:∀{u x},RepP (Own F pl) w u x→RepP (Own F (zDU pl d m (j*sz+k+1) d2 n2)) w2 u x:=fun h=>hk.repP h
    refine ⟨_,_,_,rfl,hrun,zIv hm hne hB hR' rfl hs hfs hk (mk _ _ _ (by simpa using hle0) (by rw [zA3];simp only [if_neg (Ne.symm (Nat.succ_ne_zero _))];exact hp) hPP (fun o' x' hx'=>?_) (fun j' o' hjj ho'=>?_) (fun c hc=>?_)),hk,by rw [zy,zy],hkb⟩
    ·by_cases e1:o'=k
     ·subst e1
      have hkl:o'<(zA e o ys).length:=by rw [hle0];exact hksz
      rw [List.getElem?_set_self hkl] at hx'
      cases hx'
      have hlx:=(List.getElem?_eq_some_iff.1 k3).1
      have hlt:o'-o<us.length:=by omega
      have hr:=(hxs.2 (o'-o) _ _ (zb hlt) k3).1
      refine ⟨us[o'-o],?_,?_⟩
      ·rw [zj _ _ _ hc2,if_pos (by omega),show j*sz+o'-(j*sz+o)=o'-o by omega]
       exact zb hlt
      ·unfold DCell
       rw [k2,zA3]
       simp only [if_pos]
       obtain ⟨r1,Bq,r2,r3,r4⟩:=hr
       rw [hR'] at r2
       cases r2
       rcases r4 rfl with ⟨a1,a2,a3⟩|⟨b2,s2,cap,a1,a2,a3,a4,a5⟩
       ·exact .inl ⟨.inr (by rw [zAQ (hm2.symm.trans a2)]),a1,a3⟩
       ·rcases hm.blk d2 n2 _ hR' with ⟨c1,c2⟩|⟨b3,s3,us3,c1,c2,c3,c4,c5,c6⟩
        ·exact (zA2 a1 c2).elim
        ·obtain ⟨rfl,rfl⟩:=zAt a1 c1
         refine .inr ⟨rows2,b3,s3,cap,us3,rfl,a1,by rw [←hm2];exact a2,a3,by rw [←hm2];exact a4,a5,?_,c3,c5,fun j2 e2 o2 y he2 hy=>?_⟩
         ·refine (hkb.2 b3 (hm.live _ _ _ _ _ a1).2.1 (fun e=>?_)).trans c2
          subst e
          obtain ⟨g1,g3,_⟩:=hm.inj _ _ _ _ _ _ _ _ _ hp a1
          exact hne ⟨g1,g3⟩
         ·obtain ⟨u,hu,hru⟩:=c6 j2 e2 o2 y he2 hy
          exact ⟨u,hu,hPP hru⟩
     ·rw [List.getElem?_set_ne (Ne.symm e1)] at hx'
      refine old _ o' x' hPP ?_ hx' (fun k' esz ety d n g m h=>by cases h;exact e1)
      rw [zA3]
      simp only
      rw [if_neg (by omega)]
    ·rw [zA3]
     simp only
     have:=zFs (j:=j) (j':=j') hksz ho' (fun e=>hjj e.1)
     rw [if_neg (by omega)]
    ·rw [zA3]
     simp only
     rw [if_neg (by omega)]
     exact h7 c hc
   ·cases h
  ·cases h
theorem zDv (hm:MemOK F N0 (st.fr::st.up) pl w) (hN:N0.n≤w.heap.size) {v:Value} {x:AV} {us:List Value} {xs:List CV} (h:st.write x xs=some st') (hv:zd F (st.fr::st.up) pl w v x) (hxs:zK F (st.fr::st.up) pl w us xs):
  ∃ad w' pl',v= .pointer (some ad)∧(storeCells ad us).run P w= .ok () w'∧MemOK F N0 (st'.fr::st'.up) pl' w'∧Keep F (st.fr::st.up) (st'.fr::st'.up) pl pl' w w'∧st'.t=st.t∧KeepB (fun k=>k≠ad.block) w w':=by
 unfold St.write at h
 split at h
 ·rename_i d m g j o
  obtain ⟨h0,B,hB,hg,hv⟩:=hv
  have hB':st.get d m=some B:=hB
  split at h
  ·rename_i g' sz ty cells he
   rw [hB'] at he
   cases he
   split at h
   ·rename_i hc
    obtain ⟨rfl,hc,hdep,hko⟩:=hc
    cases h
    obtain ⟨b,s,hp,⟨_,rfl⟩|⟨hk2,_⟩⟩:=hv rfl
    rotate_left
    ·exact absurd hk2 hko
    obtain ⟨b',cur,h1,h2,h3,h4⟩:=hm.blk d m _ hB
    have hp0:=h1
    obtain ⟨rfl,rfl⟩:=zAt hp h1
    have hul:=hxs.1
    have hcl:cur.size=cells.length:=by simpa using h3.1
    have hrun:=run_storeCells_at (P:=P) b' (j*sz+o) ty us 0 cur w h2 (by simp only [Nat.add_zero];omega) (zHN hxs (zBL hdep))
    simp only [Nat.add_zero] at hrun
    have hd:=zH hB
    have hs:=zCE (w:=w) hp (cur.toList.take (j*sz+o)++us++cur.toList.drop (j*sz+o+us.length)).toArray
    have hk:=zBE (B:=⟨g,sz,ty,.box (zA cells (j*sz+o) xs)⟩) (x:=pl d m) hm hd (fun B0 hB0=>by rw [hB] at hB0;cases hB0;exact ⟨Nat.le_refl _,fun _=>⟨Ext.refl _,rfl⟩⟩) hs (fun j b s h=> .inl ⟨_,_,j,s,h⟩)
    refine ⟨_,_,_,rfl,hrun,?_,by rw [zJ];exact hk,zy ..,zBe _⟩
    rw [zJ]
    refine zBl hm hN hd hk hs (fun j b s h=>⟨.inl ⟨j,s,h⟩,Nat.lt_of_lt_of_le (hm.live _ _ _ _ _ h).2.1 hs.size⟩) (fun j j' b s s' h h'=>(hm.inj _ _ _ _ _ _ _ _ _ h h').2.2) ?_
    refine ⟨b',(cur.toList.take (j*sz+o)++us++cur.toList.drop (j*sz+o+us.length)).toArray,?_,zBM h2,?_,?_⟩
    ·rw [zF,hp0,zf _ _ _ hc]
    ·have hset:(cur.toList.take (j*sz+o)++us++cur.toList.drop (j*sz+o+us.length))=zA cur.toList (j*sz+o) us:=rfl
     simp only [List.toList_toArray]
     rw [hset]
     have hc2:j*sz+o+us.length≤cur.toList.length:=by simp;omega
     refine ⟨by rw [zf _ _ _ hc2,zf _ _ _ hc];simpa using hcl,fun i u c hu hc'=>?_⟩
     rw [zj _ _ _ hc2] at hu
     rw [zj _ _ _ hc] at hc'
     by_cases hi:j*sz+o≤i∧i<j*sz+o+us.length
     ·rw [if_pos hi] at hu
      rw [if_pos (by omega)] at hc'
      exact (hk.repCs hxs).2 _ _ _ hu hc'
     ·rw [if_neg hi] at hu
      rw [if_neg (by omega)] at hc'
      exact (hk.repCs h3).2 _ _ _ hu hc'
    ·intro c hc'
     obtain ⟨i,hi,rfl⟩:=List.getElem_of_mem hc'
     have hi2:=zb hi
     rw [zj _ _ _ hc] at hi2
     split at hi2
     ·exact List.all_eq_true.1 hdep _ (zn hi2)
     ·exact h4 _ (zn hi2)
   ·cases h
  ·rename_i hB2
   simp only [zN,Prod.exists] at h
   obtain ⟨ys,st1,hf,h⟩:=h
   obtain ⟨pl1,s1,r1⟩:=zAu hm hN hf hxs
   split at h
   ·rename_i g' sz ty rows hB1
    split at h
    ·rename_i hgg
     obtain ⟨hgg,hko⟩:=hgg
     subst hgg
     split at h
     ·rename_i e hj
      split at h
      ·rename_i ho
       cases h
       have hB1':zB d m (st1.fr::st1.up)=some ⟨g,sz,ty,.row rows⟩:=hB1
       have hv1:=s1.keep.repC (c:= .ptr d m g j o) ⟨h0,B,hB,hg,hv⟩
       obtain ⟨_,B1,hB1'',_,hv2⟩:=hv1
       rw [hB1'] at hB1''
       cases hB1''
       obtain ⟨b,s,hp,⟨_,rfl⟩|⟨hk2,_⟩⟩:=hv2 rfl
       rotate_left
       ·exact absurd hk2 hko
       rcases s1.mem.blk d m _ hB1' with ⟨h1,h2⟩|⟨b',s',cur,h1,h2,h3,h4,h5,h6⟩
       ·subst h1;simp at hj
       have hp0:=h1
       obtain ⟨rfl,rfl⟩:=zAt hp h1
       simp only at h2 h4 h5 h6
       have hjl:j<rows.length:=by
        by_cases hj':j<rows.length
        ·exact hj'
        ·rw [List.getElem?_eq_none (by omega)] at hj;cases hj
       have hel:e.length=sz:=h5 e (zn hj)
       have hmul:=Nat.mul_le_mul_right sz (show j+1≤rows.length by omega)
       rw [Nat.add_mul] at hmul
       have hul:=r1.1
       have hone:∀v∈us,v.oneCell'=true:=fun v hv=>by
        obtain ⟨i,hi,rfl⟩:=List.getElem_of_mem hv
        exact (r1.2 i _ _ (zb hi) (zb (by omega))).one.1
       have hrun:=run_storeCells_at (P:=P) b' (j*sz+o) ty us 0 cur w h2 (by simp only [Nat.add_zero];omega) hone
       simp only [Nat.add_zero] at hrun
       have hd:=zH hB1'
       have hs:=zCE (w:=w) hp (cur.toList.take (j*sz+o)++us++cur.toList.drop (j*sz+o+us.length)).toArray
       have hk:=zBE (B:=⟨g,sz,ty,.row (rows.set j (zA e o ys))⟩) (x:=pl1 d m) s1.mem hd (fun B0 hB0=>by rw [hB1'] at hB0;cases hB0;exact ⟨Nat.le_refl _,fun _=>⟨Ext.refl _,rfl⟩⟩) hs (fun j b s h=> .inl ⟨_,_,j,s,h⟩)
       refine ⟨_,_,_,rfl,hrun,?_,by rw [zJ];exact s1.keep.trans hk,by rw [zy];exact s1.t,zBe _⟩
       rw [zJ]
       refine zBl s1.mem hN hd hk hs (fun j b s h=>⟨.inl ⟨j,s,h⟩,Nat.lt_of_lt_of_le (s1.mem.live _ _ _ _ _ h).2.1 hs.size⟩) (fun j j' b s s' h h'=>(s1.mem.inj _ _ _ _ _ _ _ _ _ h h').2.2) ?_
       have hset:(cur.toList.take (j*sz+o)++us++cur.toList.drop (j*sz+o+us.length))=zA cur.toList (j*sz+o) us:=rfl
       have hc2:j*sz+o+us.length≤cur.toList.length:=by simp;omega
       refine .inr ⟨b',s',(zA cur.toList (j*sz+o) us).toArray,by rw [zF];exact hp0,by rw [←hset];exact zBM h2,by simp [zf _ _ _ hc2];omega,by simpa using h4,?_,?_⟩
       ·intro e' he'
        rcases List.mem_or_eq_of_mem_set he' with h7|rfl
        ·exact h5 _ h7
        ·rw [zf _ _ _ ho];exact hel
       ·intro j' e' o' x' hj' ho'
        have hel':e'.length=sz:=by
         have he':=zn hj'
         rcases List.mem_or_eq_of_mem_set he' with h7|rfl
         ·exact h5 _ h7
         ·rw [zf _ _ _ ho];exact hel
        have ho2:o'<sz:=by
         rw [←hel']
         by_cases h7:o'<e'.length
         ·exact h7
         ·rw [List.getElem?_eq_none (by omega)] at ho';cases ho'
        simp only [List.getElem?_toArray]
        rw [zj _ _ _ hc2]
        by_cases e1:j'=j
        ·subst e1
         rw [List.getElem?_set_self hjl] at hj'
         cases hj'
         rw [zj _ _ _ ho] at ho'
         by_cases hi:o≤o'∧o'<o+ys.length
         ·rw [if_pos hi] at ho'
          rw [if_pos (by omega)]
          have hlt:o'-o<us.length:=by omega
          refine ⟨us[o'-o],by rw [show j'*sz+o'-(j'*sz+o)=o'-o by omega];exact zb hlt,hk.repP (r1.2 _ _ _ (zb hlt) ho')⟩
         ·rw [if_neg hi] at ho'
          rw [if_neg (by omega)]
          obtain ⟨v,hv,hr⟩:=h6 j' e o' x' hj ho'
          exact ⟨v,by simpa using hv,hk.repP hr⟩
        ·rw [List.getElem?_set_ne (Ne.symm e1)] at hj'
         have hne:¬(j*sz+o≤j'*sz+o'∧j'*sz+o'<j*sz+o+us.length):=by
          intro hcon
          rcases Nat.lt_or_gt_of_ne e1 with hlt|hlt
          ·have:=Nat.mul_le_mul_right sz (show j'+1≤j by omega)
           rw [Nat.add_mul] at this
           omega
          ·have:=Nat.mul_le_mul_right sz (show j+1≤j' by omega)
           rw [Nat.add_mul] at this
           omega
         rw [if_neg hne]
         obtain ⟨v,hv,hr⟩:=h6 j' e' o' x' hj' ho'
         exact ⟨v,by simpa using hv,hk.repP hr⟩
      ·cases h
     ·cases h
    ·cases h
   ·cases h
  ·rename_i g' sz ty cols rows he
   rw [hB'] at he
   cases he
   obtain ⟨⟨ys,q⟩,hq,h⟩:=Option.bind_eq_some_iff.1 h
   simp only at h
   split at h
   ·rename_i hgg
    obtain ⟨rfl,hko⟩:=hgg
    split at h
    ·rename_i e hj
     split at h
     ·rename_i ho
      obtain ⟨b,s,hp,⟨_,rfl⟩|⟨hk2,_⟩⟩:=hv rfl
      rotate_left
      ·exact absurd hk2 hko
      exact zGm hm hN hB ⟨b,s,hp,rfl⟩ hxs hq hj ho h
     ·cases h
    ·cases h
   ·cases h
  ·cases h
 ·cases h
end
end Go.Eng

