import Derived.Test.YtilkdjfhbahhdaaE11
set_option linter.unusedVariables false
set_option linter.unusedSimpArgs false
namespace Go.Eng
open Go.RowKit
section
variable {d n:Nat} {P:Program} {F:Nat→Prop} {G:Nat→Option Obj} {N0:Base G} {T:Nat} {pl pl':Pl} {st st':St} {a:Act} {w w':World} {fs fs':List Frame}
theorem zz {α:Type} {l:List α} {i:Nat} (h:i<l.length):∃x,l[i]?=some x:=⟨l[i],zb h⟩
theorem zHR {own:Nat→Prop} {ys:List (List PV)} {sz:Nat} (h0:0<sz) (hl:∀e∈ys,e.length=sz) {ad:Addr} (val:Nat→Nat→Value)
  (h:∀j e o x,ys[j]?=some e→e[o]?=some x→w.cell? (ad.add (j*sz+o))=some (val j o)∧RepP own w (val j o) x):
  ∃news:List Value,news.length=ys.length*sz∧(∀(j:Nat) u,news[j]?=some u→w.cell? (ad.add j)=some u)∧RepPs own w news ys.flatten:=by
 obtain ⟨h1,h2⟩:=zt hl
 refine ⟨(List.range (ys.length*sz)).map fun i=>val (i/sz) (i%sz),by simp,fun j u hu=>?_,by simp [h1],fun j u x hu hx=>?_⟩
 all_goals
  simp only [List.getElem?_map,zL] at hu
  obtain ⟨j',hj,rfl⟩:=hu
  obtain ⟨hj1,hj2⟩:=List.getElem?_eq_some_iff.1 hj
  clear hj
  have hj:j<ys.length*sz:=by simpa using hj1
  rw [List.getElem_range] at hj2
  subst hj2
  have hdiv:j/sz<ys.length:=Nat.div_lt_of_lt_mul (by rw [Nat.mul_comm];exact hj)
  have hmod:j%sz<sz:=Nat.mod_lt _ h0
  obtain ⟨e,he⟩:=zz hdiv
  have hel:=hl e (zn he)
  obtain ⟨x',hx'⟩:=zz (l:=e) (i:=j%sz) (by omega)
  have e1:j/sz*sz+j%sz=j:=by rw [Nat.mul_comm];exact Nat.div_add_mod j sz
  obtain ⟨h3,h4⟩:=h _ _ _ _ he hx'
  have h5:=h2 _ _ (j%sz) he hmod
  rw [e1] at h3 h5
 ·exact h3
 ·rw [hx'] at h5
  rw [h5] at hx
  cases hx
  exact h4
theorem zHS (hm:MemOK F N0 (st.fr::st.up) pl w) {v:Value} {x:AV} {ys:List (List PV)} {sz:Nat} (h:st.rows x=some ys) (h0:0<sz) (hl:∀e∈ys,e.length=sz) (hv:zd F (st.fr::st.up) pl w v x):
  (v= .slice none 0 0∧ys= [])∨∃ad c news,v= .slice (some ad) ys.length c∧news.length=ys.length*sz∧(∀(j:Nat) u,news[j]?=some u→w.cell? (ad.add j)=some u)∧RepPs (Own F pl) w news ys.flatten:=by
 unfold St.rows at h
 split at h
 ·cases h
  have hv:=zAe hv
  cases hv
  exact .inl ⟨rfl,rfl⟩
 ·cases h
  have hv:=zAe hv
  cases hv with
  |nls=>exact .inl ⟨rfl,rfl⟩
  | @ls ad n c sz' _ val hn hc hmx hown hcell hrep=>
   subst hn
   by_cases hy:ys= []
   ·subst hy
    exact .inr ⟨ad,c,[],rfl,by simp,by simp,by simp,by simp⟩
   ·have hsz:sz'=sz:=by
     obtain ⟨e,he⟩:=zz (l:=ys) (i:=0) (List.length_pos_iff.2 hy)
     rw [←(hcell 0 e he).1]
     exact hl e (zn he)
    subst hsz
    obtain ⟨news,h1,h2,h3⟩:=zHR h0 hl val (fun j e o x he hx=>⟨(hcell j e he).2 o x hx,hrep j e o x he hx⟩)
    exact .inr ⟨ad,c,news,rfl,h1,h2,h3⟩
 ·rename_i d n g m
  split at h
  ·rename_i g' sz' ty rows hB
   split at h
   ·rename_i hc
    obtain ⟨rfl,rfl⟩:=hc
    cases h
    obtain ⟨hone,B,h3,h4,h5⟩:=hv
    have hB':zB d n (st.fr::st.up)=_:=hB
    rw [hB'] at h3
    cases h3
    have hb:=hm.blk d n _ hB
    rcases h5 rfl with ⟨rfl,hm0,hp⟩|⟨b,s,cap,hp,rfl,hs,hmc,hcm⟩
    ·exact .inl ⟨rfl,zAQ hm0⟩
    ·rcases hb with ⟨h6,h7⟩|⟨b',s',us,h6,h7,h8,h9,h10,h11⟩
     ·exact (zA2 hp h7).elim
     ·obtain ⟨rfl,rfl⟩:=zHM hp h6
      simp only at h7 h9 h10 h11
      by_cases hy:ys= []
      ·subst hy
       exact .inr ⟨_,cap,[],rfl,by simp,by simp,by simp,by simp⟩
      have hsz:sz'=sz:=by
       obtain ⟨e,he⟩:=zz (l:=ys) (i:=0) (List.length_pos_iff.2 hy)
       rw [←h10 e (zn he)]
       exact hl e (zn he)
      subst hsz
      obtain ⟨news,g1,g2,g3⟩:=zHR (own:=Own F pl) (w:=w) (ad:=⟨b,0,none⟩) h0 hl (fun j o=>us.getD (j*sz'+o) .nilIface) (fun j e o x he hx=>by
       obtain ⟨v,hv,hr⟩:=h11 j e o x he hx
       have e1:us.getD (j*sz'+o) .nilIface=v:=by simp [Array.getD_eq_getD_getElem?,hv]
       rw [e1,zAV,Nat.zero_add,zA1 h7]
       exact ⟨hv,hr⟩)
      exact .inr ⟨_,cap,news,rfl,g1,g2,g3⟩
   ·cases h
  ·cases h
 ·cases h
def pcO:Option (Nat×Nat)→Pc
 |none=>nop
 |some (b,s)=>one b s
theorem zHT (x:Option (Nat×Nat)):∀j j' b s s',pcO x j=some (b,s)→pcO x j'=some (b,s')→j=j':=by
 cases x with
 |none=>exact zBn
 |some x=>exact zBm
theorem zF0 (hr:Rel F N0 T pl st a w) {d n m:Nat} (hd:d<(st.fr::st.up).length) {B:Blk} {rows:List (List PV)} {x:Option (Nat×Nat)} {u:Value} (hB:B.k= .row rows) (hg:∀B0,zB d n (st.fr::st.up)=some B0→B0.g<B.g) (h1:One (pl d n) w w')
  (hv:(u= .slice none 0 0∧m=0∧x=none∧rows= [])∨∃b cap us,x=some (b,us.size)∧((∃s0,pl d n 0=some (b,s0))∨w.heap.size≤b)∧w'.heap[b]?=some (.cells us B.ty (0,0))∧u= .slice (some ⟨b,0,none⟩) m cap∧us.size=cap*B.sz∧m≤cap∧cap≤maxLen∧m=rows.length∧(∀e∈rows,e.length=B.sz)∧RepPs (Own F pl) w (us.toList.take (m*B.sz)) rows.flatten):
  Post F N0 pl st w (.c (.own d n B.g m)) (st.set d n B) u w':=by
 have hx:∀j b s,pcO x j=some (b,s)→((∃j0 s0,pl d n j0=some (b,s0))∨w.heap.size≤b)∧b<w'.heap.size:=by
  intro j b s hb
  rcases hv with ⟨_,_,h,_⟩|⟨b',cap,us,h,h2,h3,_⟩
  ·rw [h] at hb;cases hb
  ·rw [h] at hb
   cases (zAE hb).2
   exact ⟨h2.imp (fun ⟨s0,h⟩=>⟨0,s0,h⟩) id,(Array.getElem?_eq_some_iff.1 h3).1⟩
 have hk:=zBE (B:=B) (x:=pcO x) hr.mem hd (fun B0 h0=>⟨Nat.le_of_lt (hg B0 h0),fun e=>by have:=hg B0 h0;omega⟩) h1 (fun j b s h=>(hx j b s h).1.imp (fun ⟨j0,s0,h⟩=>⟨_,_,j0,s0,h⟩) id)
 have hblk:zY F (zAD d n B (st.fr::st.up)) (zx pl d n (pcO x)) w' d n B:=by
  unfold zY
  rw [hB]
  rcases hv with ⟨_,_,h,h2⟩|⟨b,cap,us,h,h2,h3,h4,h5,h6,h7,h8,h9,h10⟩
  ·exact .inl ⟨h2,by rw [zF,h];rfl⟩
  ·obtain ⟨f1,f2⟩:=zt h9
   refine .inr ⟨b,us.size,us,by rw [zF,h];rfl,h3,rfl,by rw [h5,←h8];exact Nat.mul_le_mul_right _ h6,h9,fun j e o y he hy=>?_⟩
   have ho:o<B.sz:=by
    rw [←h9 e (zn he)]
    by_cases ho:o<e.length
    ·exact ho
    ·rw [List.getElem?_eq_none (by omega)] at hy;cases hy
   have hfl:=f2 j e o he ho
   rw [hy] at hfl
   have hlt:j*B.sz+o<(us.toList.take (m*B.sz)).length:=by
    rw [h10.1]
    by_cases hlt:j*B.sz+o<rows.flatten.length
    ·exact hlt
    ·rw [List.getElem?_eq_none (by omega)] at hfl;cases hfl
   obtain ⟨v,hv⟩:=zz hlt
   have hv':us[j*B.sz+o]?=some v:=by
    rw [List.getElem?_take] at hv
    simp only [Option.ite_none_right_eq_some] at hv
    simpa using hv.2
   exact ⟨v,hv',hk.repP (h10.2 _ _ _ hv hfl)⟩
 have hm:=zBl hr.mem hr.low hd hk h1 hx (zHT x) hblk
 refine ⟨⟨zx pl d n (pcO x),?_,by rw [zJ];exact hm,by rw [zJ];exact hk⟩,zy ..⟩
 rw [zJ]
 rcases hv with ⟨rfl,rfl,h,h2⟩|⟨b,cap,us,h,h2,h3,rfl,h5,h6,h7,h8,h9,h10⟩
 ·exact ⟨rfl,B,by rw [zR _ _ hd];simp,Nat.le_refl _,fun _=> .inl ⟨rfl,rfl,by rw [zF,h];rfl⟩⟩
 ·exact ⟨rfl,B,by rw [zR _ _ hd];simp,Nat.le_refl _,fun _=> .inr ⟨b,us.size,cap,by rw [zF,h];rfl,rfl,h5,h6,h7⟩⟩
theorem zFK {own:Nat→Prop} {us vs:List Value} {ps qs:List PV} (h:RepPs own w us ps) (h':RepPs own w vs qs):RepPs own w (us++vs) (ps++qs):=by
 refine ⟨by simp [h.1,h'.1],fun i u x hu hx=>?_⟩
 rw [List.getElem?_append] at hu hx
 rw [h.1] at hu
 split at hx
 ·rename_i hi
  rw [if_pos hi] at hu
  exact h.2 i u x hu hx
 ·rename_i hi
  rw [if_neg hi] at hu
  exact h'.2 _ u x hu hx
theorem zHU {t ty e:TypeId} {i:TypeInfo} {z:Value} (hu:P.underlying t=some (.slice e)) (hi:P.info? e=some i) (hz:i.zero=some z) (hzs:z.cells.size=i.size) (h0:0<i.size) (hb0:0<i.bytes)
  (hm:MemOK F N0 (st.fr::st.up) pl w) {v vy:Value} {ky:AV} {m:Nat} {rows ys:List (List PV)} {us:List Value} (hown:w.ownsRow 0 e i.size v m us) (hmr:m=rows.length) (hrl:∀e∈rows,e.length=i.size) (hus:RepPs (Own F pl) w us rows.flatten)
  (hy:st.rows ky=some ys) (hyr:zd F (st.fr::st.up) pl w vy ky) (hyl:∀e∈ys,e.length=i.size) (hbytes:(m+ys.length)*i.bytes≤140737488355328) (hpl:∀b,v.ownBlock=some b→∃s,pl d n 0=some (b,s)):
  ∃u w' x,(Builtin.append_ #[t,t] ty #[v,vy]).run P w= .ok u w'∧One (pl d n) w w'∧
   ((u= .slice none 0 0∧m+ys.length=0∧x=none∧rows++ys= [])∨∃b cap us,x=some (b,us.size)∧((∃s0,pl d n 0=some (b,s0))∨w.heap.size≤b)∧w'.heap[b]?=some (.cells us e (0,0))∧u= .slice (some ⟨b,0,none⟩) (m+ys.length) cap∧us.size=cap*i.size∧m+ys.length≤cap∧cap≤maxLen∧m+ys.length=(rows++ys).length∧(∀e∈rows++ys,e.length=i.size)∧RepPs (Own F pl) w (us.toList.take ((m+ys.length)*i.size)) (rows++ys).flatten):=by
 have hall:∀e∈rows++ys,e.length=i.size:=fun e he=>(List.mem_append.1 he).elim (hrl e) (hyl e)
 rcases zHS hm hy h0 hyl hyr with ⟨rfl,rfl⟩|⟨ad,c,news,rfl,hl,hcell,hrep⟩
 ·have hrun:=run_append_owned_none (P:=P) w 0 t ty e i i.size hu hi v m us hown
  rcases hown.2 with ⟨rfl,rfl⟩|⟨g,cap,cur,rfl,_,hg,hnc,hcm,hcs,htk⟩
  ·exact ⟨_,w,none,hrun,zCV,.inl ⟨rfl,rfl,rfl,by simpa using zAQ hmr.symm⟩⟩
  ·refine ⟨_,w,some (g,cur.size),hrun,zCV,.inr ⟨g,cap,cur,rfl,.inl (hpl g rfl),hg,rfl,hcs,hnc,hcm,by simp [hmr],hall,?_⟩⟩
   rw [List.length_nil,Nat.add_zero,htk,List.append_nil]
   exact hus
 ·have hle:m+ys.length≤140737488355328:=Nat.le_trans (Nat.le_mul_of_pos_right _ hb0) hbytes
  obtain ⟨v',w',hrun,h1,h2,h3,h4⟩:=run_append_own_at (P:=P) w 0 t ty e i z i.size i.bytes hu hi hz rfl rfl hzs h0 v m us hown ad ys.length c news hl hcell (fun u hu=>by
   obtain ⟨j,hj⟩:=List.mem_iff_getElem?.1 hu
   obtain ⟨x,hx⟩:=zz (l:=ys.flatten) (i:=j) (by rw [←hrep.1];exact (List.getElem?_eq_some_iff.1 hj).1)
   exact (hrep.2 j u x hj hx).one.1) (by simp only [maxLen];omega) hbytes (Nat.zero_le _)
  have hone:One (pl d n) w w':=⟨h2.os,h2.tape,h2.output,h2.size,fun k hk hn=>h2.block k hk (fun e=>by obtain ⟨s,hs⟩:=hpl k e.symm;exact hn 0 s hs)⟩
  rcases h1.2 with ⟨rfl,hmn⟩|⟨g,cap,cur,rfl,_,hg,hnc,hcm,hcs,htk⟩
  ·exact ⟨_,w',none,hrun,hone,.inl ⟨rfl,hmn,rfl,zAQ (by rw [List.length_append];omega)⟩⟩
  ·refine ⟨_,w',some (g,cur.size),hrun,hone,.inr ⟨g,cap,cur,rfl,?_,hg,rfl,hcs,hnc,hcm,by simp [hmr],hall,?_⟩⟩
   ·rcases h4 with h4|h4
    ·exact .inl (hpl g h4.symm)
    ·cases h4;exact .inr (Nat.le_refl _)
   ·rw [htk,List.flatten_append]
    exact zFK hus hrep
theorem zHV {cols:List (Nat×Nat×TypeId)}:∀{xs:List CV} {o:Nat} {ys:List PV} {q:Option (Nat×Nat×TypeId×Nat×Nat×Nat×Nat)},zFF cols o xs=some (ys,q)→ys.length=xs.length∧
  (∀(i:Nat) c,xs[i]?=some c→(look (o+i) cols=none∧∃y,c= .p y∧ys[i]?=some y.weak)∨((∃t,look (o+i) cols=some t)∧c= .p .nl∧ys[i]?=some (.ls []))∨
   (∃esz ety d n g m,look (o+i) cols=some (esz,ety)∧c= .own d n g m∧ys[i]?=some .nl∧q=some (o+i,esz,ety,d,n,g,m)))∧
  ∀k esz ety d n g m,q=some (k,esz,ety,d,n,g,m)→o≤k∧look k cols=some (esz,ety)∧xs[k-o]?=some (.own d n g m)
 | [],o,ys,q,h=>by
  simp only [zFF,zM,Prod.mk.injEq] at h
  obtain ⟨rfl,rfl⟩:=h
  exact ⟨rfl,fun i c hc=>by simp at hc,fun k esz ety d n g m h=>by cases h⟩
 |x::r,o,ys,q,h=>by
  simp only [zFF,zN,Prod.exists] at h
  obtain ⟨l,q1,h1,h⟩:=h
  obtain ⟨k1,k2,k3⟩:=zHV h1
  have up:∀(c0:CV) (y0:PV),(∀(i:Nat) c,r[i]?=some c→(look (o+(i+1)) cols=none∧∃y,c= .p y∧(y0::l)[i+1]?=some y.weak)∨((∃t,look (o+(i+1)) cols=some t)∧c= .p .nl∧(y0::l)[i+1]?=some (.ls []))∨
   (∃esz ety d n g m,look (o+(i+1)) cols=some (esz,ety)∧c= .own d n g m∧(y0::l)[i+1]?=some .nl∧q1=some (o+(i+1),esz,ety,d,n,g,m))):=fun c0 y0 i c hc=>by
   have:=k2 i c hc
   rw [show o+1+i=o+(i+1) by omega] at this
   simpa using this
  have up3:∀k esz ety d n g m,q1=some (k,esz,ety,d,n,g,m)→o≤k∧look k cols=some (esz,ety)∧(x::r)[k-o]?=some (.own d n g m):=fun k esz ety d n g m e=>by
   obtain ⟨a1,a2,a3⟩:=k3 k esz ety d n g m e
   refine ⟨by omega,a2,?_⟩
   rw [show k-o=(k-(o+1))+1 by omega]
   simpa using a3
  split at h
  ·rename_i y hl
   simp only [zM,Prod.mk.injEq] at h
   obtain ⟨rfl,rfl⟩:=h
   refine ⟨by simp [k1],fun i c hc=>?_,up3⟩
   cases i with
   |zero=>cases hc;exact .inl ⟨hl,y,rfl,rfl⟩
   |succ i=>exact up (.p y) _ i c (by simpa using hc)
  ·rename_i t hl
   simp only [zM,Prod.mk.injEq] at h
   obtain ⟨rfl,rfl⟩:=h
   refine ⟨by simp [k1],fun i c hc=>?_,up3⟩
   cases i with
   |zero=>cases hc;exact .inr (.inl ⟨⟨t,hl⟩,rfl,rfl⟩)
   |succ i=>exact up .u _ i c (by simpa using hc)
  ·rename_i esz ety d n g m hl
   simp only [zM,Prod.mk.injEq] at h
   obtain ⟨rfl,rfl⟩:=h
   refine ⟨by simp [k1],fun i c hc=>?_,fun k esz' ety' d' n' g' m' e=>?_⟩
   ·cases i with
    |zero=>cases hc;exact .inr (.inr ⟨esz,ety,d,n,g,m,hl,rfl,rfl,rfl⟩)
    |succ i=>
     rcases k2 i c (by simpa using hc) with a|a|⟨_,_,_,_,_,_,_,_,_,a⟩
     ·rw [show o+1+i=o+(i+1) by omega] at a
      exact .inl (by simpa using a)
     ·rw [show o+1+i=o+(i+1) by omega] at a
      exact .inr (.inl (by simpa using a))
     ·cases a
   ·cases e
    exact ⟨Nat.le_refl _,hl,by simp⟩
  ·cases h
def aPl (pl:Pl) (d m:Nat) (p0:Nat×Nat) (gone:Nat→Nat→Bool) (ex:Pc):Pl:=fun d' n'=>
 if d'=d∧n'=m then (fun i=>if i=0 then some p0 else match ex i with|some x=>some x|none=>pl d m i) else if gone d' n'=true then nop else pl d' n'
theorem zGo (pl:Pl) (d m:Nat) (p0:Nat×Nat) (gone:Nat→Nat→Bool) (ex:Pc):aPl pl d m p0 gone ex d m=fun i=>if i=0 then some p0 else match ex i with|some x=>some x|none=>pl d m i:=by simp [aPl]
theorem zHW (hm:MemOK F N0 fs pl w) (hN:N0.n≤w.heap.size) {d m:Nat} {p0:Nat×Nat} {gone:Nat→Nat→Bool} {ex:Pc} {B B1:Blk} (hB:zB d m fs=some B1) (hg:B1.g<B.g) (hg0:gone d m=false)
  (hex:∀i x,ex i=some x→i≠0∧∃d3 n3,gone d3 n3=true∧pl d3 n3 0=some x) (hexi:∀i i' b s s',ex i=some (b,s)→ex i'=some (b,s')→i=i')
  (hs:One (pl d m) w w') (hp0:((∃s0,pl d m 0=some (p0.1,s0))∨w.heap.size≤p0.1)∧p0.1<w'.heap.size) (hlen:fs'.length=fs.length) (hB':zB d m fs'=some B)
  (hgone:∀d' n',gone d' n'=true→(∀b,zB d' n' fs=some b→∃b',zB d' n' fs'=some b'∧b.g<b'.g)∧∀b',zB d' n' fs'=some b'→b'.k= .dead)
  (hoth:∀d' n',¬(d'=d∧n'=m)→gone d' n'=false→zB d' n' fs'=zB d' n' fs)
  (hblk:Keep F fs fs' pl (aPl pl d m p0 gone ex) w w'→zY F fs' (aPl pl d m p0 gone ex) w' d m B):MemOK F N0 fs' (aPl pl d m p0 gone ex) w'∧Keep F fs fs' pl (aPl pl d m p0 gone ex) w w':=by
 have back:∀{d' n' i:Nat} {x:Nat×Nat},aPl pl d m p0 gone ex d' n' i=some x→(d'=d∧n'=m∧i=0∧x=p0)∨(d'=d∧n'=m∧i≠0∧ex i=some x∧∃d3 n3,gone d3 n3=true∧pl d3 n3 0=some x)∨(pl d' n' i=some x∧gone d' n'=false∧¬(d'=d∧n'=m∧i=0)):=by
  intro d' n' i x h
  by_cases e1:d'=d∧n'=m
  ·obtain ⟨rfl,rfl⟩:=e1
   rw [zGo] at h
   simp only at h
   by_cases e0:i=0
   ·rw [if_pos e0] at h
    cases h
    exact .inl ⟨rfl,rfl,e0,rfl⟩
   ·rw [if_neg e0] at h
    cases hq:ex i with
    |some y=>
     rw [hq] at h
     cases h
     exact .inr (.inl ⟨rfl,rfl,e0,rfl,(hex i x hq).2⟩)
    |none=>
     rw [hq] at h
     exact .inr (.inr ⟨h,hg0,fun e=>e0 e.2.2⟩)
  ·unfold aPl at h
   rw [if_neg e1] at h
   cases hq:gone d' n' with
   |true=>rw [hq,if_pos rfl] at h;cases h
   |false=>
    rw [hq,if_neg (by decide)] at h
    exact .inr (.inr ⟨h,rfl,fun e=>e1 ⟨e.1,e.2.1⟩⟩)
 have oth:∀{d' n':Nat},¬(d'=d∧n'=m)→gone d' n'=false→aPl pl d m p0 gone ex d' n'=pl d' n':=fun {d' n'} e1 e2=>by
  unfold aPl
  rw [if_neg e1,e2,if_neg (by decide)]
 have hK:Keep F fs fs' pl (aPl pl d m p0 gone ex) w w':=by
  refine ⟨⟨hs.os,hs.tape,hs.output,hs.size,fun k hk hn=>hs.block k hk (fun j s=>hn d m j s)⟩,hlen,fun d' n' b hb=>?_,fun d' n' i b s h=>?_⟩
  ·by_cases e1:d'=d∧n'=m
   ·obtain ⟨rfl,rfl⟩:=e1
    rw [hB] at hb
    cases hb
    exact ⟨B,hB',Nat.le_of_lt hg,fun e=>by omega⟩
   ·cases hq:gone d' n' with
    |true=>
     obtain ⟨b',h1,h2⟩:=(hgone d' n' hq).1 b hb
     exact ⟨b',h1,Nat.le_of_lt h2,fun e=>by omega⟩
    |false=>exact ⟨b,by rw [hoth d' n' e1 hq];exact hb,Nat.le_refl _,fun _=>⟨Ext.of (oth e1 hq),rfl⟩⟩
  ·rcases back h with ⟨_,_,_,h1⟩|⟨_,_,_,_,d3,n3,_,h1⟩|⟨h1,_⟩
   ·rcases hp0.1 with ⟨s0,h2⟩|h2
    ·exact .inl ⟨d,m,0,s0,by rw [h2,←h1]⟩
    ·rw [←h1] at h2;exact .inr h2
   ·exact .inl ⟨_,_,_,_,h1⟩
   ·exact .inl ⟨_,_,_,_,h1⟩
 refine ⟨⟨fun d' n' i b s h=>?_,fun e1 m1 i1 e2 m2 i2 b s s' h1 h2=>?_,fun d' n' Bx hBx=>?_,fun k hk=>Nat.lt_of_lt_of_le (hm.fsz k hk) hs.size,zAr hm hK.step.block⟩,hK⟩
 ·have fin:∀{d0 n0 i0 s},pl d0 n0 i0=some (b,s)→N0.n≤b∧b<w'.heap.size∧¬F b:=fun {d0 n0 i0 s} h=>by
   obtain ⟨a1,a2,a3,_⟩:=hm.live _ _ _ _ _ h
   exact ⟨a1,Nat.lt_of_lt_of_le a2 hs.size,a3⟩
  rcases back h with ⟨rfl,rfl,_,h1⟩|⟨rfl,rfl,_,_,d3,n3,_,h1⟩|⟨h1,e2,_⟩
  ·rcases hp0.1 with ⟨s0,h2⟩|h2
   ·rw [←h1] at h2
    obtain ⟨a1,a2,a3⟩:=fin h2
    exact ⟨a1,a2,a3,B,hB'⟩
   ·have h3:=hp0.2
    rw [←h1] at h2 h3
    obtain ⟨a1,a2,_⟩:=zDs hm hN h2
    exact ⟨a1,h3,a2,B,hB'⟩
  ·obtain ⟨a1,a2,a3⟩:=fin h1
   exact ⟨a1,a2,a3,B,hB'⟩
  ·obtain ⟨a1,a2,a3⟩:=fin h1
   obtain ⟨_,_,_,Bq,a4⟩:=hm.live _ _ _ _ _ h1
   refine ⟨a1,a2,a3,?_⟩
   by_cases e1:d'=d∧n'=m
   ·obtain ⟨rfl,rfl⟩:=e1;exact ⟨B,hB'⟩
   ·exact ⟨Bq,by rw [hoth d' n' e1 e2];exact a4⟩
 ·--the new place of the row is nobody else's
  have p0free:∀{d' n' i' s1 s2},(b,s1)=p0→pl d' n' i'=some (b,s2)→d'=d∧n'=m∧i'=0:=fun {d' n' i' s1 s2} he h=>by
   rcases hp0.1 with ⟨s0,h0⟩|h0
   ·rw [←he] at h0
    exact hm.inj _ _ _ _ _ _ _ _ _ h h0
   ·rw [←he] at h0
    have:=(hm.live _ _ _ _ _ h).2.1
    omega
  rcases back h1 with ⟨rfl,rfl,rfl,g1⟩|⟨rfl,rfl,z1,x1,d3,n3,y1,g1⟩|⟨g1,k1,k2⟩<;>rcases back h2 with ⟨rfl,rfl,rfl,g2⟩|⟨rfl,rfl,z2,x2,d4,n4,y2,g2⟩|⟨g2,k3,k4⟩
  ·exact ⟨rfl,rfl,rfl⟩
  ·obtain ⟨rfl,rfl,_⟩:=p0free g1 g2
   rw [hg0] at y2;cases y2
  ·exact absurd (p0free g1 g2) k4
  ·obtain ⟨rfl,rfl,_⟩:=p0free g2 g1
   rw [hg0] at y1;cases y1
  ·exact ⟨rfl,rfl,hexi _ _ _ _ _ x1 x2⟩
  ·obtain ⟨rfl,rfl,_⟩:=hm.inj _ _ _ _ _ _ _ _ _ g1 g2
   rw [k3] at y1;cases y1
  ·exact absurd (p0free g2 g1) k2
  ·obtain ⟨rfl,rfl,_⟩:=hm.inj _ _ _ _ _ _ _ _ _ g1 g2
   rw [k1] at y2;cases y2
  ·exact hm.inj _ _ _ _ _ _ _ _ _ g1 g2
 ·by_cases e1:d'=d∧n'=m
  ·obtain ⟨rfl,rfl⟩:=e1
   rw [hB'] at hBx
   cases hBx
   exact hblk hK
  ·cases hq:gone d' n' with
   |true=>
    have h1:=(hgone d' n' hq).2 Bx hBx
    unfold zY
    rw [h1]
    unfold aPl
    rw [if_neg e1,hq,if_pos rfl]
   |false=>
    rw [hoth d' n' e1 hq] at hBx
    refine zAN hK (oth e1 hq) (fun i b s h=>hs.block b (hm.live _ _ _ _ _ h).2.1 (fun j s' h'=>?_)) (hm.blk d' n' Bx hBx)
    obtain ⟨a1,a2,_⟩:=hm.inj _ _ _ _ _ _ _ _ _ h h'
    exact e1 ⟨a1,a2⟩
theorem zKB {o:Oper} {t ty e:TypeId} {x y:Operand} {kx' ky:KX} {g m:Nat} {v:AV} (hexec:∀u w',(Builtin.append_ #[t,t] ty #[a.eval x,a.eval y]).run P w= .ok u w'→(execOp a.eval o).run P w= .ok (.value u) w')
  (hu:P.underlying t=some (.slice e)) (hok:zCR P e=true) (hx:kx x=some kx') (hy:kx y=some ky) (hr:Rel F N0 T pl st a w) (hkx:st.eval kx'= .c (.own d n g m))
  (h:zEX st d n g m e (P.cellsOf e) (P.bytesOf e) (st.eval ky)=some (v,st')):Runs1 P o a w (Post F N0 pl st w v st'):=by
 obtain ⟨i,z,hi,hz,hzs,hz0,hci⟩:=zBN hok
 have hby:P.bytesOf e=i.bytes:=by simp [Program.bytesOf,hi]
 have e1:=zD hr hx
 have e2:=zD hr hy
 rw [hkx] at e1
 unfold zEX at h
 split at h
 ·rename_i d2 n2 g2 m2 hky
  rw [hky] at e2
  split at h
  ·rename_i g' sz' ty' cols rows g2' sz2 ty2 cells hB hY
   split at h
   ·rename_i hc
    obtain ⟨rfl,q1,q2,rfl,rfl,hcl,c1,c2,rfl,c3⟩:=hc
    replace q1:=q1.symm
    replace q2:=q2.symm
    subst q1
    subst q2
    obtain ⟨⟨ys,q⟩,hq,h⟩:=Option.bind_eq_some_iff.1 h
    simp only at h
    obtain ⟨p1,p2,p3⟩:=zHV hq
    have hB':zB d n (st.fr::st.up)=some ⟨g,P.cellsOf e,e,.deep cols rows⟩:=hB
    have hY':zB d2 n2 (st.fr::st.up)=some ⟨g2,sz2,ty2,.box cells⟩:=hY
    obtain ⟨b2,us2,y1,y2,y3,y4⟩:=hr.mem.blk d2 n2 _ hY'
    have hvy:∃cap2,a.eval y= .slice (some ⟨b2,0,none⟩) 1 cap2:=by
     obtain ⟨_,Bq,r2,_,r4⟩:=e2
     rw [hY'] at r2
     cases r2
     rcases r4 rfl with ⟨_,h0,_⟩|⟨b,s,cap,hp,hv,_⟩
     ·cases h0
     ·obtain ⟨rfl,_⟩:=zAt hp y1
      exact ⟨cap,hv⟩
    obtain ⟨cap2,hvy⟩:=hvy
    have hnl:us2.toList.length=i.size:=by rw [y3.1,hcl,hci]
    have hknown:cells.all (·.known)=true:=zBL (List.all_eq_true.2 y4)
    have hone1:=zHN y3 hknown
    have key:∃us,w.ownsRow 0 e i.size (a.eval x) rows.length us∧(∀b,(a.eval x).ownBlock=some b→∃s,pl d n 0=some (b,s))∧(∀e∈rows,e.length=i.size)∧
      (∀j e o x,rows[j]?=some e→e[o]?=some x→∃v,us[j*i.size+o]?=some v∧DCell F w pl (pl d n) cols i.size j o v x)∧∀c,rows.length*i.size≤c→pl d n (c+1)=none:=by
     obtain ⟨_,Bq,r2,_,r4⟩:=e1
     rw [hB'] at r2
     cases r2
     have hb:=hr.mem.blk d n _ hB'
     rcases r4 rfl with ⟨h6,hm0,hp⟩|⟨b,s,cap,hp,h6,hs,hmc,hcm⟩
     ·have hnil:rows= []:=zAQ hm0
      rcases hb with ⟨_,h8⟩|⟨b',s',us,h7,_⟩
      ·subst hnil
       exact ⟨[],by rw [h6];exact World.ownsRow_nil w 0 e i.size,(by rw [h6];intro b hb;cases hb),by simp,fun j e o x he=>by simp at he,fun c _=>by rw [h8];rfl⟩
      ·rw [hp] at h7;cases h7
     ·rcases hb with ⟨_,h8⟩|⟨b',s',us,h7,h8,h9,h10,h11,h12,h13⟩
      ·exact (zA2 hp h8).elim
      ·rw [hp] at h7
       cases h7
       simp only at h8 h10 h11 h12 h13 hs
       rw [hci] at h10 h11 h12 h13 hs
       refine ⟨us.toList.take (rows.length*i.size),⟨by simp;omega,.inr ⟨b,cap,us,h6,Nat.zero_le _,h8,hmc,hcm,by omega,rfl⟩⟩,(by rw [h6];intro b' hb';cases hb';exact ⟨s,hp⟩),h11,fun j e o x he hx=>?_,h13⟩
       obtain ⟨v,hv,hd⟩:=h12 j e o x he hx
       have hj:=(List.getElem?_eq_some_iff.1 he).1
       have ho:o<i.size:=by rw [←h11 e (zn he)];exact (List.getElem?_eq_some_iff.1 hx).1
       have hmul:=Nat.mul_le_mul_right i.size (show j+1≤rows.length by omega)
       rw [Nat.add_mul] at hmul
       exact ⟨v,by rw [List.getElem?_take,if_pos (by omega)];simpa using hv,hd⟩
    obtain ⟨us,k1,k2,k3,k4,k5⟩:=key
    have hle:rows.length+1≤140737488355328:=Nat.le_trans (Nat.le_mul_of_pos_right _ c2) c3
    obtain ⟨v',w',hrun,h1,h2,h3,h4⟩:=run_append_own_at (P:=P) w 0 t ty e i z i.size i.bytes hu hi hz rfl rfl hzs hz0 (a.eval x) rows.length us k1 ⟨b2,0,none⟩ 1 cap2 us2.toList (by rw [hnl];omega) (fun j u hj=>by
     rw [zAV,Nat.zero_add,zA1 y2];simpa using hj) hone1 (by simp only [maxLen];omega) (by rw [←hby];exact c3) (Nat.zero_le _)
    rw [←hvy] at hrun
    rcases h1.2 with ⟨_,h0⟩|⟨g0,cap,cur,rfl,_,hg0,hnc,hcm,hcs,htk⟩
    ·omega
    have hlt0:g0<w'.heap.size:=(Array.getElem?_eq_some_iff.1 hg0).1
    have hp0:(∃s0,pl d n 0=some (g0,s0))∨w.heap.size≤g0:=by
     rcases h4 with h4|h4
     ·exact .inl (k2 g0 h4.symm)
     ·cases h4;exact .inr (Nat.le_refl _)
    have hblock:∀k,k<w.heap.size→(∀s,pl d n 0≠some (k,s))→w'.heap[k]?=w.heap[k]?:=fun k hk hn=>h2.block k hk (fun e=>by obtain ⟨s,hs⟩:=k2 k e.symm;exact hn s hs)
    have hone:One (pl d n) w w':=⟨h2.os,h2.tape,h2.output,h2.size,fun k hk hn=>hblock k hk (fun s=>hn 0 s)⟩
    have nest:∀c b s,pl d n (c+1)=some (b,s)→w'.heap[b]?=w.heap[b]?:=fun c b s hp=>hblock b (hr.mem.live _ _ _ _ _ hp).2.1 (fun s' h'=>by
     have:=(hr.mem.inj _ _ _ _ _ _ _ _ _ hp h').2.2
     omega)
    have hcur:∀j,j<(rows.length+1)*i.size→cur[j]?=(us++us2.toList)[j]?:=fun j hj=>by
     rw [←htk,List.getElem?_take,if_pos hj];simp
    have hul:us.length=rows.length*i.size:=k1.1
    have hmul1:(rows.length+1)*i.size=rows.length*i.size+i.size:=by rw [Nat.add_mul,Nat.one_mul]
    have fin:∀{fs':List Frame} {pl':Pl} {ys':List PV},(∀{u x},RepP (Own F pl) w u x→RepP (Own F pl') w' u x)→pl' d n 0=some (g0,cur.size)→(∀c,c<rows.length*i.size→pl' d n (c+1)=pl d n (c+1))→ys'.length=i.size→
      (∀o x',ys'[o]?=some x'→∃u,us2.toList[o]?=some u∧DCell F w' pl' (pl' d n) cols i.size rows.length o u x')→(∀c,(rows.length+1)*i.size≤c→pl' d n (c+1)=none)→zY F fs' pl' w' d n ⟨g+1,P.cellsOf e,e,.deep cols (rows++ [ys'])⟩:=by
     intro fs' pl' ys' hP q0 qold qlen qnew qbey
     refine .inr ⟨g0,cur.size,cur,q0,hg0,rfl,?_,?_,?_,?_⟩
     ·simp only [List.length_append,List.length_singleton]
      rw [hcs,hci]
      exact Nat.mul_le_mul_right _ hnc
     ·intro e' he'
      simp only at he'⊢
      rw [hci]
      rcases List.mem_append.1 he' with h'|h'
      ·exact k3 _ h'
      ·rw [List.mem_singleton.1 h'];exact qlen
     ·intro j e' o' x' he hx'
      simp only at he hx'⊢
      rw [hci]
      by_cases hj:j<rows.length
      ·rw [List.getElem?_append_left hj] at he
       obtain ⟨v,hv,hd⟩:=k4 j e' o' x' he hx'
       have ho:o'<i.size:=by rw [←k3 e' (zn he)];exact (List.getElem?_eq_some_iff.1 hx').1
       have hmul:=Nat.mul_le_mul_right i.size (show j+1≤rows.length by omega)
       rw [Nat.add_mul] at hmul
       have hlt:j*i.size+o'<rows.length*i.size:=by omega
       refine ⟨v,?_,(hd.keep hP nest).at (qold _ hlt)⟩
       rw [hcur _ (by omega),List.getElem?_append_left (by omega)]
       exact hv
      ·have hj2:j=rows.length:=by
        have:=(List.getElem?_eq_some_iff.1 he).1
        simp at this
        omega
       subst hj2
       rw [List.getElem?_append_right (Nat.le_refl _),Nat.sub_self] at he
       cases he
       obtain ⟨u,hu',hd⟩:=qnew o' x' hx'
       have ho:o'<i.size:=by rw [←qlen];exact (List.getElem?_eq_some_iff.1 hx').1
       refine ⟨u,?_,hd⟩
       rw [hcur _ (by omega),List.getElem?_append_right (by omega),hul,Nat.add_sub_cancel_left]
       exact hu'
     ·intro c hc
      simp only [List.length_append,List.length_singleton] at hc
      rw [hci] at hc
      exact qbey c hc
    have hyl:ys.length=i.size:=by rw [p1,hcl,hci]
    have cell:∀{pl':Pl},(∀{u x},RepP (Own F pl) w u x→RepP (Own F pl') w' u x)→∀o x',ys[o]?=some x'→(∀k esz ety d n g m,q=some (k,esz,ety,d,n,g,m)→o≠k)→pl' d n (rows.length*i.size+o+1)=none→∃u,us2.toList[o]?=some u∧DCell F w' pl' (pl' d n) cols i.size rows.length o u x':=by
     intro pl' hP o x' hx' hk hfree
     have ho:o<cells.length:=by rw [←p1];exact (List.getElem?_eq_some_iff.1 hx').1
     obtain ⟨c,hc⟩:=zz ho
     have hlu:o<us2.toList.length:=by rw [y3.1];exact ho
     obtain ⟨u,hu'⟩:=zz hlu
     have hrep:=(y3.2 o u c hu' hc).1
     refine ⟨u,hu',?_⟩
     have:=p2 o c hc
     rw [Nat.zero_add] at this
     unfold DCell
     rcases this with ⟨a1,y,rfl,a2⟩|⟨⟨t,a1⟩,rfl,a2⟩|⟨esz,ety,d',n',g',m',a1,_,_,a2⟩
     ·rw [a1]
      rw [hx'] at a2
      cases a2
      exact hP (RepP.weak hrep)
     ·rw [a1]
      rw [hx'] at a2
      cases a2
      have hrep:RepP (Own F pl) w u .nl:=hrep
      cases hrep
      exact .inl ⟨.inr rfl,rfl,hfree⟩
     ·exact absurd rfl (hk _ _ _ _ _ _ _ a2)
    have hres:∀{fs':List Frame} {pl':Pl} {ys':List PV},zB d n fs'=some ⟨g+1,P.cellsOf e,e,.deep cols (rows++ [ys'])⟩→pl' d n 0=some (g0,cur.size)→zd F fs' pl' w' (.slice (some ⟨g0,0,none⟩) (rows.length+1) cap) (.c (.own d n (g+1) (rows.length+1))):=by
     intro fs' pl' ys' hf hp
     exact ⟨rfl,_,hf,Nat.le_refl _,fun _=> .inr ⟨g0,cur.size,cap,hp,rfl,by rw [hcs,hci],hnc,hcm⟩⟩
    have hd:=zH hB'
    cases hqq:q with
    |none=>
     subst hqq
     simp only [zM,Prod.mk.injEq] at h
     obtain ⟨rfl,rfl⟩:=h
     have hfs:∀d' n',zB d' n' ((st.set d n ⟨g+1,P.cellsOf e,e,.deep cols (rows++ [ys])⟩).fr::(st.set d n ⟨g+1,P.cellsOf e,e,.deep cols (rows++ [ys])⟩).up)=if d'=d∧n'=n then some ⟨g+1,P.cellsOf e,e,.deep cols (rows++ [ys])⟩ else zB d' n' (st.fr::st.up):=fun d' n'=>by
      rw [zJ,zR d' n' hd]
     have hpl:aPl pl d n (g0,cur.size) (fun _ _=>false) nop d n=fun i=>if i=0 then some (g0,cur.size) else pl d n i:=by rw [zGo];rfl
     obtain ⟨m1,m2⟩:=zHW (B:=⟨g+1,P.cellsOf e,e,.deep cols (rows++ [ys])⟩) (fs':=(st.set d n ⟨g+1,P.cellsOf e,e,.deep cols (rows++ [ys])⟩).fr::(st.set d n ⟨g+1,P.cellsOf e,e,.deep cols (rows++ [ys])⟩).up) (p0:=(g0,cur.size)) (gone:=fun _ _=>false) (ex:=nop) hr.mem hr.low hB' (Nat.lt_succ_self _) rfl (fun i x h=>by cases h) zBn hone ⟨hp0,hlt0⟩ (by rw [zJ,ze]) (by rw [hfs,if_pos ⟨rfl,rfl⟩]) (fun _ _ h=>by cases h) (fun d' n' e1 _=>by rw [hfs,if_neg e1])
      (fun hk=>fin (fun h=>hk.repP h) (by rw [hpl];rfl) (fun c _=>by rw [hpl];rfl) hyl (fun o x' hx'=>cell (fun h=>hk.repP h) o x' hx' (fun k esz ety d n g m h=>by cases h) (by rw [hpl];exact k5 _ (by omega))) (fun c hc=>by rw [hpl];exact k5 c (by omega)))
     exact zU (hexec _ _ hrun) ⟨⟨_,hres (by rw [hfs,if_pos ⟨rfl,rfl⟩]) (by rw [hpl];rfl),m1,m2⟩,zy ..⟩
    |some tq=>
     subst hqq
     obtain ⟨k,esz,ety,d3,n3,g3,m3⟩:=tq
     simp only at h
     split at h
     ·rename_i g3' esz' ety' rows3 hR
      split at h
      ·rename_i hc
       obtain ⟨rfl,rfl,rfl,hm3⟩:=hc
       simp only [zM,Prod.mk.injEq] at h
       obtain ⟨rfl,rfl⟩:=h
       obtain ⟨_,l2,l3⟩:=p3 _ _ _ _ _ _ _ rfl
       rw [Nat.sub_zero] at l3
       have hR':zB d3 n3 (st.fr::st.up)=some ⟨g3,esz',ety',.row rows3⟩:=hR
       have hne:¬(d=d3∧n=n3):=fun e=>by
        obtain ⟨rfl,rfl⟩:=e
        rw [hB'] at hR'
        cases hR'
       have hksz:k<i.size:=by rw [←hci,←hcl];exact (List.getElem?_eq_some_iff.1 l3).1
       have hd3:=zH hR'
       have hfs:∀d' n',zB d' n' (((st.set d3 n3 ⟨g3+1,esz',ety',.dead⟩).set d n ⟨g+1,P.cellsOf e,e,.deep cols (rows++ [ys.set k (.ls rows3)])⟩).fr::((st.set d3 n3 ⟨g3+1,esz',ety',.dead⟩).set d n ⟨g+1,P.cellsOf e,e,.deep cols (rows++ [ys.set k (.ls rows3)])⟩).up)=
         if d'=d∧n'=n then some ⟨g+1,P.cellsOf e,e,.deep cols (rows++ [ys.set k (.ls rows3)])⟩ else if d'=d3∧n'=n3 then some ⟨g3+1,esz',ety',.dead⟩ else zB d' n' (st.fr::st.up):=fun d' n'=>by
        rw [zJ,zR d' n' (by rw [zJ,ze];exact hd),zJ,zR d' n' hd3]
       let gone:Nat→Nat→Bool:=fun d' n'=>decide (d'=d3∧n'=n3)
       let ex:Pc:=fun i'=>if i'=rows.length*i.size+k+1 then pl d3 n3 0 else none
       have gt:∀{d' n'},gone d' n'=true→d'=d3∧n'=n3:=fun h=>of_decide_eq_true h
       have gf:∀{d' n'},gone d' n'=false→¬(d'=d3∧n'=n3):=fun h=>of_decide_eq_false h
       have hpl:aPl pl d n (g0,cur.size) gone ex d n=fun i'=>if i'=0 then some (g0,cur.size) else match ex i' with|some x=>some x|none=>pl d n i':=zGo ..
       have hplk:aPl pl d n (g0,cur.size) gone ex d n (rows.length*i.size+k+1)=pl d3 n3 0:=by
        rw [hpl]
        simp only [Nat.succ_ne_zero,if_false,ex,if_true]
        cases hq0:pl d3 n3 0 with
        |some x=>rfl
        |none=>exact k5 _ (by omega)
       have hplo:∀c,c≠rows.length*i.size+k→aPl pl d n (g0,cur.size) gone ex d n (c+1)=pl d n (c+1):=fun c hc=>by
        rw [hpl]
        simp only [Nat.succ_ne_zero,if_false,ex]
        rw [if_neg (by omega)]
       obtain ⟨m1,m2⟩:=zHW (B:=⟨g+1,P.cellsOf e,e,.deep cols (rows++ [ys.set k (.ls rows3)])⟩) (fs':=((st.set d3 n3 ⟨g3+1,esz',ety',.dead⟩).set d n ⟨g+1,P.cellsOf e,e,.deep cols (rows++ [ys.set k (.ls rows3)])⟩).fr::((st.set d3 n3 ⟨g3+1,esz',ety',.dead⟩).set d n ⟨g+1,P.cellsOf e,e,.deep cols (rows++ [ys.set k (.ls rows3)])⟩).up) (p0:=(g0,cur.size)) (gone:=gone) (ex:=ex) hr.mem hr.low hB' (Nat.lt_succ_self _) (zAJ hne) (fun i' x h=>by
         simp only [ex] at h
         split at h
         ·exact ⟨by omega,d3,n3,zo ⟨rfl,rfl⟩,h⟩
         ·cases h) (fun i1 i2 b s s' h1 h2=>by
         simp only [ex] at h1 h2
         split at h1
         ·split at h2
          ·omega
          ·cases h2
         ·cases h1) hone ⟨hp0,hlt0⟩ (by rw [zJ,ze,zJ,ze]) (by rw [hfs,if_pos ⟨rfl,rfl⟩]) (fun d' n' hg=>by
         obtain ⟨rfl,rfl⟩:=gt hg
         refine ⟨fun b hb=>?_,fun b' hb'=>?_⟩
         ·rw [hR'] at hb
          cases hb
          exact ⟨⟨g3+1,esz',ety',.dead⟩,by rw [hfs,if_neg (fun e=>hne ⟨e.1.symm,e.2.symm⟩),if_pos ⟨rfl,rfl⟩],Nat.lt_succ_self _⟩
         ·rw [hfs,if_neg (fun e=>hne ⟨e.1.symm,e.2.symm⟩),if_pos ⟨rfl,rfl⟩] at hb'
          cases hb'
          rfl) (fun d' n' e1 hg=>by rw [hfs,if_neg e1,if_neg (gf hg)])
        (fun hk=>fin (fun h=>hk.repP h) (by rw [hpl];rfl) (fun c hc=>hplo c (by omega)) (by rw [List.length_set];exact hyl) (fun o x' hx'=>by
         by_cases e1:o=k
         ·subst e1
          have hkl:o<ys.length:=by omega
          rw [List.getElem?_set_self hkl] at hx'
          cases hx'
          have hlu:o<us2.toList.length:=by omega
          obtain ⟨u,hu'⟩:=zz hlu
          have hr3:=(y3.2 o u _ hu' l3).1
          refine ⟨u,hu',?_⟩
          unfold DCell
          rw [l2,hplk]
          obtain ⟨_,Bq,r2,_,r4⟩:=hr3
          rw [hR'] at r2
          cases r2
          rcases r4 rfl with ⟨a1,a2,a3⟩|⟨b3,s3,cap3,a1,a2,a3,a4,a5⟩
          ·exact .inl ⟨.inr (by rw [zAQ (hm3.symm.trans a2)]),a1,a3⟩
          ·rcases hr.mem.blk d3 n3 _ hR' with ⟨z1,z2⟩|⟨b4,s4,us3,z1,z2,z3,z4,z5,z6⟩
           ·exact (zA2 a1 z2).elim
           ·obtain ⟨rfl,rfl⟩:=zAt a1 z1
            refine .inr ⟨rows3,b4,s4,cap3,us3,rfl,a1,by rw [←hm3];exact a2,a3,by rw [←hm3];exact a4,a5,?_,z3,z5,fun j2 e2 o2 y he2 hy=>?_⟩
            ·refine (hblock b4 (hr.mem.live _ _ _ _ _ a1).2.1 (fun s' h'=>?_)).trans z2
             obtain ⟨g1,g3,_⟩:=hr.mem.inj _ _ _ _ _ _ _ _ _ h' a1
             exact hne ⟨g1,g3⟩
            ·obtain ⟨u,hu,hru⟩:=z6 j2 e2 o2 y he2 hy
             exact ⟨u,hu,hk.repP hru⟩
         ·rw [List.getElem?_set_ne (Ne.symm e1)] at hx'
          exact cell (fun h=>hk.repP h) o x' hx' (fun k' esz ety d n g m h=>by cases h;exact e1) (by rw [hplo _ (by omega)];exact k5 _ (by omega))) (fun c hc=>by rw [hplo _ (by omega)];exact k5 c (by omega)))
       exact zU (hexec _ _ hrun) ⟨⟨_,hres (by rw [hfs,if_pos ⟨rfl,rfl⟩]) (by rw [hpl];rfl),m1,m2⟩,by rw [zy,zy]⟩
      ·cases h
     ·cases h
   ·cases h
  ·cases h
 ·cases h
theorem zKz {o:Oper} {c:Call} {t e:TypeId} {x y:Operand} {kx' ky:KX} {dst:Nat} {v:AV} (ho:o.op= .call c) (hcal:c.callee= .builtin .append) (hargs:c.args.toList= [x,y]) (htys:c.argTypes= #[t,t])
  (hu:P.underlying t=some (.slice e)) (hok:zCR P e=true) (hx:kx x=some kx') (hy:kx y=some ky) (hr:Rel F N0 T pl st a w) {run:zh}
  (h:zC run st dst (.app e (P.cellsOf e) (P.bytesOf e) kx' ky)=some (v,st')):Runs1 P o a w (Post F N0 pl st w v st'):=by
 obtain ⟨i,z,hi,hz,hzs,hz0,hci⟩:=zBN hok
 have hby:P.bytesOf e=i.bytes:=by simp [Program.bytesOf,hi]
 have e1:=zD hr hx
 have e2:=zD hr hy
 have hargs':c.args= #[x,y]:=by rw [←Array.toArray_toList (xs:=c.args),hargs]
 have hexec:∀u w',(Builtin.append_ #[t,t] o.type #[a.eval x,a.eval y]).run P w= .ok u w'→(execOp a.eval o).run P w= .ok (.value u) w':=by
  intro u w' hrun
  simp only [execOp,ho,resolve,hcal,hargs',htys,invoke,builtin,List.map_toArray,List.map_cons,List.map_nil,Sem.run_bind,Sem.run_pure,Result.andThen_ok,hrun]
  first|done|rfl
 simp only [zC] at h
 split at h
 ·rename_i ys hkx hys
  split at h
  ·rename_i hc
   obtain ⟨c1,c2,c3,c4⟩:=hc
   simp only [List.all_eq_true,beq_iff_eq] at c4
   cases h
   rw [hkx] at e1
   have e1:=zAe e1
   generalize hvx:a.eval x=vx at*
   cases e1
   have hd:st.up.length<(st.fr::st.up).length:=by simp
   obtain ⟨u,w',x',hrun,hone,hv⟩:=zHU (d:=st.up.length) (n:=dst*64) (pl:=pl) (ty:=o.type) hu hi hz hzs hz0 (by omega) hr.mem (World.ownsRow_nil w 0 e i.size) (rows:= []) rfl (by simp) ⟨rfl,by simp⟩ hys e2 (by rw [←hci];exact c4) (by rw [Nat.zero_add,←hby];exact c3) (by intro b hb;cases hb)
   refine zU (hexec u w' hrun) ?_
   have hset:(st.new (dst*64) (P.cellsOf e) e (.row ys)).2=st.set st.up.length (dst*64) ⟨st.fresh (dst*64),P.cellsOf e,e,.row ys⟩:=by simp [St.set,St.new]
   rw [hset]
   simp only [Nat.zero_add,List.nil_append] at hv
   exact zF0 (B:=⟨st.fresh (dst*64),P.cellsOf e,e,.row ys⟩) hr hd rfl (fun B0 h0=>by
    have:look (dst*64) st.fr=some B0:=by simpa [zB] using h0
    have e:st.fresh (dst*64)=B0.g+1:=by simp [St.fresh,this]
    show B0.g<st.fresh (dst*64)
    omega) hone (by simp only [hci];exact hv)
  ·cases h
 ·rename_i d n g m ys hkx hys
  split at h
  ·rename_i g' sz' ty' rows hB
   split at h
   ·rename_i hc
    obtain ⟨rfl,q1,q2,rfl,c1,c2,c3,c4⟩:=hc
    replace q1:=q1.symm
    replace q2:=q2.symm
    subst q1
    subst q2
    simp only [List.all_eq_true,beq_iff_eq] at c4
    cases h
    rw [hkx] at e1
    have hB':zB d n (st.fr::st.up)=some ⟨g,P.cellsOf e,e,.row rows⟩:=hB
    have hb:=hr.mem.blk d n _ hB
    obtain ⟨hone1,B,h3,h4,h5⟩:=e1
    rw [hB'] at h3
    cases h3
    have key:∃us,w.ownsRow 0 e i.size (a.eval x) rows.length us∧(∀e∈rows,e.length=i.size)∧RepPs (Own F pl) w us rows.flatten∧(∀b,(a.eval x).ownBlock=some b→∃s,pl d n 0=some (b,s)):=by
     rcases h5 rfl with ⟨h6,hm0,hp⟩|⟨b,s,cap,hp,h6,hs,hmc,hcm⟩
     ·have:rows= []:=zAQ hm0
      subst this
      exact ⟨[],by rw [h6];exact World.ownsRow_nil w 0 e i.size,by simp,⟨rfl,by simp⟩,by rw [h6];intro b hb;cases hb⟩
     ·rcases hb with ⟨h7,h8⟩|⟨b',s',us,h7,h8,h9,h10,h11,h12⟩
      ·exact (zA2 hp h8).elim
      ·obtain ⟨rfl,rfl⟩:=zHM hp h7
       simp only at h8 h10 h11 h12 hs
       rw [hci] at h10 h11 h12 hs
       obtain ⟨f1,f2⟩:=zt h11
       refine ⟨us.toList.take (rows.length*i.size),⟨by simp;omega,.inr ⟨b,cap,us,h6,Nat.zero_le _,h8,hmc,hcm,by omega,rfl⟩⟩,h11,⟨by simp [f1];omega,fun j u x hu hx=>?_⟩,by rw [h6];intro b' hb';cases hb';exact ⟨s,hp⟩⟩
       have hj:j<rows.length*i.size:=by
        rw [←f1]
        exact (List.getElem?_eq_some_iff.1 hx).1
       have hdiv:j/i.size<rows.length:=Nat.div_lt_of_lt_mul (by rw [Nat.mul_comm];exact hj)
       have hmod:j%i.size<i.size:=Nat.mod_lt _ hz0
       obtain ⟨r,hr'⟩:=zz hdiv
       have e1:j/i.size*i.size+j%i.size=j:=by rw [Nat.mul_comm];exact Nat.div_add_mod j i.size
       have h13:=f2 _ _ _ hr' hmod
       rw [e1,hx] at h13
       obtain ⟨v,hv,hvr⟩:=h12 _ _ _ _ hr' h13.symm
       rw [e1] at hv
       rw [List.getElem?_take,if_pos hj] at hu
       have:u=v:=by
        have h14:us[j]?=some u:=by simpa using hu
        rw [h14] at hv;cases hv;rfl
       subst this
       exact hvr
    obtain ⟨us,k1,k2,k3,k4⟩:=key
    obtain ⟨u,w',x',hrun,hone,hv⟩:=zHU (d:=d) (n:=n) (pl:=pl) (ty:=o.type) hu hi hz hzs hz0 (by omega) hr.mem k1 rfl k2 k3 hys e2 (by rw [←hci];exact c4) (by rw [←hby];exact c3) k4
    refine zU (hexec u w' hrun) ?_
    exact zF0 (B:=⟨g+1,P.cellsOf e,e,.row (rows++ys)⟩) hr (zH hB') rfl (fun B0 h0=>by
     rw [hB'] at h0
     cases h0
     exact Nat.lt_succ_self _) hone (by simp only [hci];exact hv)
   ·cases h
  ·cases h
 ·rename_i d n g m hkx _
  exact zKB hexec hu hok hx hy hr hkx h
 ·cases h
end
end Go.Eng

