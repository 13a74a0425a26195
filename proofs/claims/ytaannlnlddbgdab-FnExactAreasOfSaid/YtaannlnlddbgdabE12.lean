import Derived.Test.YtaannlnlddbgdabE11
set_option linter.unusedVariables false
set_option linter.unusedSimpArgs false
namespace Go.Eng
open Go.RowKit
section
variable {d n:Nat} {P:Program} {F:Nat→Prop} {G:Nat→Option Obj} {N0:Base G} {T:Nat} {pl pl':Pl} {st st':St} {a:Act} {w w':World} {fs fs':List Frame}
theorem zy {α:Type} {l:List α} {i:Nat} (h:i<l.length):∃x,l[i]?=some x:=⟨l[i],List.getElem?_eq_getElem h⟩
theorem zG3 {own:Nat→Prop} {ys:List (List PV)} {sz:Nat} (h0:0<sz) (hl:∀e∈ys,e.length=sz) {ad:Addr} (val:Nat→Nat→Value)
  (h:∀j e o x,ys[j]?=some e→e[o]?=some x→w.cell? (ad.add (j*sz+o))=some (val j o)∧RepP own w (val j o) x):
  ∃news:List Value,news.length=ys.length*sz∧(∀(j:Nat) u,news[j]?=some u→w.cell? (ad.add j)=some u)∧RepPs own w news ys.flatten:=by
 obtain ⟨h1,h2⟩:=zk hl
 refine ⟨(List.range (ys.length*sz)).map fun i=>val (i/sz) (i%sz),by simp,fun j u hu=>?_,by simp [h1],fun j u x hu hx=>?_⟩
 all_goals
  simp only [List.getElem?_map,Option.map_eq_some_iff] at hu
  obtain ⟨j',hj,rfl⟩:=hu
  obtain ⟨hj1,hj2⟩:=List.getElem?_eq_some_iff.1 hj
  clear hj
  have hj:j<ys.length*sz:=by simpa using hj1
  rw [List.getElem_range] at hj2
  subst hj2
  have hdiv:j/sz<ys.length:=Nat.div_lt_of_lt_mul (by rw [Nat.mul_comm];exact hj)
  have hmod:j%sz<sz:=Nat.mod_lt _ h0
  obtain ⟨e,he⟩:=zy hdiv
  have hel:=hl e (List.mem_of_getElem? he)
  obtain ⟨x',hx'⟩:=zy (l:=e) (i:=j%sz) (by omega)
  have e1:j/sz*sz+j%sz=j:=by rw [Nat.mul_comm];exact Nat.div_add_mod j sz
  obtain ⟨h3,h4⟩:=h _ _ _ _ he hx'
  have h5:=h2 _ _ (j%sz) he hmod
  rw [e1] at h3 h5
 ·exact h3
 ·rw [hx'] at h5
  rw [h5] at hx
  cases hx
  exact h4
theorem zG4 (hm:MemOK F N0 (st.fr::st.up) pl w) {v:Value} {x:AV} {ys:List (List PV)} {sz:Nat} (h:st.rows x=some ys) (h0:0<sz) (hl:∀e∈ys,e.length=sz) (hv:zW F (st.fr::st.up) pl w v x):
  (v= .slice none 0 0∧ys= [])∨∃ad c news,v= .slice (some ad) ys.length c∧news.length=ys.length*sz∧(∀(j:Nat) u,news[j]?=some u→w.cell? (ad.add j)=some u)∧RepPs (Own F pl) w news ys.flatten:=by
 unfold St.rows at h
 split at h
 ·cases h
  have hv:=zAT hv
  cases hv
  exact .inl ⟨rfl,rfl⟩
 ·cases h
  have hv:=zAT hv
  cases hv with
  |nls=>exact .inl ⟨rfl,rfl⟩
  | @ls ad n c sz' _ val hn hc hmx hown hcell hrep=>
   subst hn
   by_cases hy:ys= []
   ·subst hy
    exact .inr ⟨ad,c,[],rfl,by simp,by simp,by simp,by simp⟩
   ·have hsz:sz'=sz:=by
     obtain ⟨e,he⟩:=zy (l:=ys) (i:=0) (List.length_pos_iff.2 hy)
     rw [←(hcell 0 e he).1]
     exact hl e (List.mem_of_getElem? he)
    subst hsz
    obtain ⟨news,h1,h2,h3⟩:=zG3 h0 hl val (fun j e o x he hx=>⟨(hcell j e he).2 o x hx,hrep j e o x he hx⟩)
    exact .inr ⟨ad,c,news,rfl,h1,h2,h3⟩
 ·rename_i d n g m
  split at h
  ·rename_i g' sz' ty rows hB
   split at h
   ·rename_i hc
    obtain ⟨rfl,rfl⟩:=hc
    cases h
    obtain ⟨hone,B,h3,h4,h5⟩:=hv
    have hB':zB d n (st.fr::st.up)=_:=hB
    rw [hB'] at h3
    cases h3
    have hb:=hm.blk d n _ hB
    rcases h5 rfl with ⟨rfl,hm0,hp⟩|⟨b,s,cap,hp,rfl,hs,hmc,hcm⟩
    ·exact .inl ⟨rfl,List.eq_nil_of_length_eq_zero hm0⟩
    ·rcases hb with ⟨h6,h7⟩|⟨b',s',us,h6,h7,h8,h9,h10,h11⟩
     ·exact (zBa hp h7).elim
     ·obtain ⟨rfl,rfl⟩:=zGz hp h6
      simp only at h7 h9 h10 h11
      by_cases hy:ys= []
      ·subst hy
       exact .inr ⟨_,cap,[],rfl,by simp,by simp,by simp,by simp⟩
      have hsz:sz'=sz:=by
       obtain ⟨e,he⟩:=zy (l:=ys) (i:=0) (List.length_pos_iff.2 hy)
       rw [←h10 e (List.mem_of_getElem? he)]
       exact hl e (List.mem_of_getElem? he)
      subst hsz
      obtain ⟨news,g1,g2,g3⟩:=zG3 (own:=Own F pl) (w:=w) (ad:=⟨b,0,none⟩) h0 hl (fun j o=>us.getD (j*sz'+o) .nilIface) (fun j e o x he hx=>by
       obtain ⟨v,hv,hr⟩:=h11 j e o x he hx
       have e1:us.getD (j*sz'+o) .nilIface=v:=by simp [Array.getD_eq_getD_getElem?,hv]
       rw [e1,zAR,Nat.zero_add,zA8 h7]
       exact ⟨hv,hr⟩)
      exact .inr ⟨_,cap,news,rfl,g1,g2,g3⟩
   ·cases h
  ·cases h
 ·cases h
def pcO:Option (Nat×Nat)→Pc
 |none=>nop
 |some (b,s)=>one b s
theorem zG5 (x:Option (Nat×Nat)):∀j j' b s s',pcO x j=some (b,s)→pcO x j'=some (b,s')→j=j':=by
 cases x with
 |none=>exact zCB
 |some x=>exact zBZ
theorem zFf (hr:Rel F N0 T pl st a w) {d n m:Nat} (hd:d<(st.fr::st.up).length) {B:Blk} {rows:List (List PV)} {x:Option (Nat×Nat)} {u:Value} (hB:B.k= .row rows) (hg:∀B0,zB d n (st.fr::st.up)=some B0→B0.g<B.g) (h1:One (pl d n) w w')
  (hv:(u= .slice none 0 0∧m=0∧x=none∧rows= [])∨∃b cap us,x=some (b,us.size)∧((∃s0,pl d n 0=some (b,s0))∨w.heap.size≤b)∧w'.heap[b]?=some (.cells us B.ty (0,0))∧u= .slice (some ⟨b,0,none⟩) m cap∧us.size=cap*B.sz∧m≤cap∧cap≤maxLen∧m=rows.length∧(∀e∈rows,e.length=B.sz)∧RepPs (Own F pl) w (us.toList.take (m*B.sz)) rows.flatten):
  Post F N0 pl st w (.c (.own d n B.g m)) (st.set d n B) u w':=by
 have hx:∀j b s,pcO x j=some (b,s)→((∃j0 s0,pl d n j0=some (b,s0))∨w.heap.size≤b)∧b<w'.heap.size:=by
  intro j b s hb
  rcases hv with ⟨_,_,h,_⟩|⟨b',cap,us,h,h2,h3,_⟩
  ·rw [h] at hb;cases hb
  ·rw [h] at hb
   cases (zx hb).2
   exact ⟨h2.imp (fun ⟨s0,h⟩=>⟨0,s0,h⟩) id,(Array.getElem?_eq_some_iff.1 h3).1⟩
 have hk:=zA1 (B:=B) (x:=pcO x) hr.mem hd (fun B0 h0=>⟨Nat.le_of_lt (hg B0 h0),fun e=>by have:=hg B0 h0;omega⟩) h1 (fun j b s h=>(hx j b s h).1.imp (fun ⟨j0,s0,h⟩=>⟨_,_,j0,s0,h⟩) id)
 have hblk:zU F (z6 d n B (st.fr::st.up)) (zn pl d n (pcO x)) w' d n B:=by
  unfold zU
  rw [hB]
  rcases hv with ⟨_,_,h,h2⟩|⟨b,cap,us,h,h2,h3,h4,h5,h6,h7,h8,h9,h10⟩
  ·exact .inl ⟨h2,by rw [zG,h];rfl⟩
  ·obtain ⟨f1,f2⟩:=zk h9
   refine .inr ⟨b,us.size,us,by rw [zG,h];rfl,h3,rfl,by rw [h5,←h8];exact Nat.mul_le_mul_right _ h6,h9,fun j e o y he hy=>?_⟩
   have ho:o<B.sz:=by
    rw [←h9 e (List.mem_of_getElem? he)]
    by_cases ho:o<e.length
    ·exact ho
    ·rw [List.getElem?_eq_none (by omega)] at hy;cases hy
   have hfl:=f2 j e o he ho
   rw [hy] at hfl
   have hlt:j*B.sz+o<(us.toList.take (m*B.sz)).length:=by
    rw [h10.1]
    by_cases hlt:j*B.sz+o<rows.flatten.length
    ·exact hlt
    ·rw [List.getElem?_eq_none (by omega)] at hfl;cases hfl
   obtain ⟨v,hv⟩:=zy hlt
   have hv':us[j*B.sz+o]?=some v:=by
    rw [List.getElem?_take] at hv
    simp only [Option.ite_none_right_eq_some] at hv
    simpa using hv.2
   exact ⟨v,hv',hk.repP (h10.2 _ _ _ hv hfl)⟩
 have hm:=zBY hr.mem hr.low hd hk h1 hx (zG5 x) hblk
 refine ⟨⟨zn pl d n (pcO x),?_,by rw [zO];exact hm,by rw [zO];exact hk⟩,z0 ..⟩
 rw [zO]
 rcases hv with ⟨rfl,rfl,h,h2⟩|⟨b,cap,us,h,h2,h3,rfl,h5,h6,h7,h8,h9,h10⟩
 ·exact ⟨rfl,B,by rw [zY _ _ hd];simp,Nat.le_refl _,fun _=> .inl ⟨rfl,rfl,by rw [zG,h];rfl⟩⟩
 ·exact ⟨rfl,B,by rw [zY _ _ hd];simp,Nat.le_refl _,fun _=> .inr ⟨b,us.size,cap,by rw [zG,h];rfl,rfl,h5,h6,h7⟩⟩
theorem zEw {own:Nat→Prop} {us vs:List Value} {ps qs:List PV} (h:RepPs own w us ps) (h':RepPs own w vs qs):RepPs own w (us++vs) (ps++qs):=by
 refine ⟨by simp [h.1,h'.1],fun i u x hu hx=>?_⟩
 rw [List.getElem?_append] at hu hx
 rw [h.1] at hu
 split at hx
 ·rename_i hi
  rw [if_pos hi] at hu
  exact h.2 i u x hu hx
 ·rename_i hi
  rw [if_neg hi] at hu
  exact h'.2 _ u x hu hx
theorem zG6 {t ty e:TypeId} {i:TypeInfo} {z:Value} (hu:P.underlying t=some (.slice e)) (hi:P.info? e=some i) (hz:i.zero=some z) (hzs:z.cells.size=i.size) (h0:0<i.size) (hb0:0<i.bytes)
  (hm:MemOK F N0 (st.fr::st.up) pl w) {v vy:Value} {ky:AV} {m:Nat} {rows ys:List (List PV)} {us:List Value} (hown:w.ownsRow 0 e i.size v m us) (hmr:m=rows.length) (hrl:∀e∈rows,e.length=i.size) (hus:RepPs (Own F pl) w us rows.flatten)
  (hy:st.rows ky=some ys) (hyr:zW F (st.fr::st.up) pl w vy ky) (hyl:∀e∈ys,e.length=i.size) (hbytes:(m+ys.length)*i.bytes≤140737488355328) (hpl:∀b,v.ownBlock=some b→∃s,pl d n 0=some (b,s)):
  ∃u w' x,(Builtin.append_ #[t,t] ty #[v,vy]).run P w= .ok u w'∧One (pl d n) w w'∧
   ((u= .slice none 0 0∧m+ys.length=0∧x=none∧rows++ys= [])∨∃b cap us,x=some (b,us.size)∧((∃s0,pl d n 0=some (b,s0))∨w.heap.size≤b)∧w'.heap[b]?=some (.cells us e (0,0))∧u= .slice (some ⟨b,0,none⟩) (m+ys.length) cap∧us.size=cap*i.size∧m+ys.length≤cap∧cap≤maxLen∧m+ys.length=(rows++ys).length∧(∀e∈rows++ys,e.length=i.size)∧RepPs (Own F pl) w (us.toList.take ((m+ys.length)*i.size)) (rows++ys).flatten):=by
 have hall:∀e∈rows++ys,e.length=i.size:=fun e he=>(List.mem_append.1 he).elim (hrl e) (hyl e)
 rcases zG4 hm hy h0 hyl hyr with ⟨rfl,rfl⟩|⟨ad,c,news,rfl,hl,hcell,hrep⟩
 ·have hrun:=run_append_owned_none (P:=P) w 0 t ty e i i.size hu hi v m us hown
  rcases hown.2 with ⟨rfl,rfl⟩|⟨g,cap,cur,rfl,_,hg,hnc,hcm,hcs,htk⟩
  ·exact ⟨_,w,none,hrun,zCE,.inl ⟨rfl,rfl,rfl,by simpa using List.eq_nil_of_length_eq_zero hmr.symm⟩⟩
  ·refine ⟨_,w,some (g,cur.size),hrun,zCE,.inr ⟨g,cap,cur,rfl,.inl (hpl g rfl),hg,rfl,hcs,hnc,hcm,by simp [hmr],hall,?_⟩⟩
   rw [List.length_nil,Nat.add_zero,htk,List.append_nil]
   exact hus
 ·have hle:m+ys.length≤140737488355328:=Nat.le_trans (Nat.le_mul_of_pos_right _ hb0) hbytes
  obtain ⟨v',w',hrun,h1,h2,h3,h4⟩:=run_append_own_at (P:=P) w 0 t ty e i z i.size i.bytes hu hi hz rfl rfl hzs h0 v m us hown ad ys.length c news hl hcell (fun u hu=>by
   obtain ⟨j,hj⟩:=List.mem_iff_getElem?.1 hu
   obtain ⟨x,hx⟩:=zy (l:=ys.flatten) (i:=j) (by rw [←hrep.1];exact (List.getElem?_eq_some_iff.1 hj).1)
   exact (hrep.2 j u x hj hx).one.1) (by simp only [maxLen];omega) hbytes (Nat.zero_le _)
  have hone:One (pl d n) w w':=⟨h2.os,h2.tape,h2.output,h2.size,fun k hk hn=>h2.block k hk (fun e=>by obtain ⟨s,hs⟩:=hpl k e.symm;exact hn 0 s hs)⟩
  rcases h1.2 with ⟨rfl,hmn⟩|⟨g,cap,cur,rfl,_,hg,hnc,hcm,hcs,htk⟩
  ·exact ⟨_,w',none,hrun,hone,.inl ⟨rfl,hmn,rfl,List.eq_nil_of_length_eq_zero (by rw [List.length_append];omega)⟩⟩
  ·refine ⟨_,w',some (g,cur.size),hrun,hone,.inr ⟨g,cap,cur,rfl,?_,hg,rfl,hcs,hnc,hcm,by simp [hmr],hall,?_⟩⟩
   ·rcases h4 with h4|h4
    ·exact .inl (hpl g h4.symm)
    ·cases h4;exact .inr (Nat.le_refl _)
   ·rw [htk,List.flatten_append]
    exact zEw hus hrep
theorem zKX {o:Oper} {c:Call} {t e:TypeId} {x y:Operand} {kx' ky:KX} {dst:Nat} {v:AV} (ho:o.op= .call c) (hcal:c.callee= .builtin .append) (hargs:c.args.toList= [x,y]) (htys:c.argTypes= #[t,t])
  (hu:P.underlying t=some (.slice e)) (hok:zCx P e=true) (hx:kx x=some kx') (hy:kx y=some ky) (hr:Rel F N0 T pl st a w) {run:zd}
  (h:zC run st dst (.app e (P.cellsOf e) (P.bytesOf e) kx' ky)=some (v,st')):Runs1 P o a w (Post F N0 pl st w v st'):=by
 obtain ⟨i,z,hi,hz,hzs,hz0,hci⟩:=zBy hok
 have hby:P.bytesOf e=i.bytes:=by simp [Program.bytesOf,hi]
 have e1:=zF hr hx
 have e2:=zF hr hy
 have hargs':c.args= #[x,y]:=by rw [←Array.toArray_toList (xs:=c.args),hargs]
 have hexec:∀u w',(Builtin.append_ #[t,t] o.type #[a.eval x,a.eval y]).run P w= .ok u w'→(execOp a.eval o).run P w= .ok (.value u) w':=by
  intro u w' hrun
  simp only [execOp,ho,resolve,hcal,hargs',htys,invoke,builtin,List.map_toArray,List.map_cons,List.map_nil,Sem.run_bind,Sem.run_pure,Result.andThen_ok,hrun]
  first|done|rfl
 simp only [zC] at h
 split at h
 ·rename_i ys hkx hys
  split at h
  ·rename_i hc
   obtain ⟨c1,c2,c3,c4⟩:=hc
   simp only [List.all_eq_true,beq_iff_eq] at c4
   cases h
   rw [hkx] at e1
   have e1:=zAT e1
   generalize hvx:a.eval x=vx at*
   cases e1
   have hd:st.up.length<(st.fr::st.up).length:=by simp
   obtain ⟨u,w',x',hrun,hone,hv⟩:=zG6 (d:=st.up.length) (n:=dst*64) (pl:=pl) (ty:=o.type) hu hi hz hzs hz0 (by omega) hr.mem (World.ownsRow_nil w 0 e i.size) (rows:= []) rfl (by simp) ⟨rfl,by simp⟩ hys e2 (by rw [←hci];exact c4) (by rw [Nat.zero_add,←hby];exact c3) (by intro b hb;cases hb)
   refine zX (hexec u w' hrun) ?_
   have hset:(st.new (dst*64) (P.cellsOf e) e (.row ys)).2=st.set st.up.length (dst*64) ⟨st.fresh (dst*64),P.cellsOf e,e,.row ys⟩:=by simp [St.set,St.new]
   rw [hset]
   simp only [Nat.zero_add,List.nil_append] at hv
   exact zFf (B:=⟨st.fresh (dst*64),P.cellsOf e,e,.row ys⟩) hr hd rfl (fun B0 h0=>by
    have:zD (dst*64) st.fr=some B0:=by simpa [zB] using h0
    have e:st.fresh (dst*64)=B0.g+1:=by simp [St.fresh,this]
    show B0.g<st.fresh (dst*64)
    omega) hone (by simp only [hci];exact hv)
  ·cases h
 ·rename_i d n g m ys hkx hys
  split at h
  ·rename_i g' sz' ty' rows hB
   split at h
   ·rename_i hc
    obtain ⟨rfl,q1,q2,rfl,c1,c2,c3,c4⟩:=hc
    replace q1:=q1.symm
    replace q2:=q2.symm
    subst q1
    subst q2
    simp only [List.all_eq_true,beq_iff_eq] at c4
    cases h
    rw [hkx] at e1
    have hB':zB d n (st.fr::st.up)=some ⟨g,P.cellsOf e,e,.row rows⟩:=hB
    have hb:=hr.mem.blk d n _ hB
    obtain ⟨hone1,B,h3,h4,h5⟩:=e1
    rw [hB'] at h3
    cases h3
    have key:∃us,w.ownsRow 0 e i.size (a.eval x) rows.length us∧(∀e∈rows,e.length=i.size)∧RepPs (Own F pl) w us rows.flatten∧(∀b,(a.eval x).ownBlock=some b→∃s,pl d n 0=some (b,s)):=by
     rcases h5 rfl with ⟨h6,hm0,hp⟩|⟨b,s,cap,hp,h6,hs,hmc,hcm⟩
     ·have:rows= []:=List.eq_nil_of_length_eq_zero hm0
      subst this
      exact ⟨[],by rw [h6];exact World.ownsRow_nil w 0 e i.size,by simp,⟨rfl,by simp⟩,by rw [h6];intro b hb;cases hb⟩
     ·rcases hb with ⟨h7,h8⟩|⟨b',s',us,h7,h8,h9,h10,h11,h12⟩
      ·exact (zBa hp h8).elim
      ·obtain ⟨rfl,rfl⟩:=zGz hp h7
       simp only at h8 h10 h11 h12 hs
       rw [hci] at h10 h11 h12 hs
       obtain ⟨f1,f2⟩:=zk h11
       refine ⟨us.toList.take (rows.length*i.size),⟨by simp;omega,.inr ⟨b,cap,us,h6,Nat.zero_le _,h8,hmc,hcm,by omega,rfl⟩⟩,h11,⟨by simp [f1];omega,fun j u x hu hx=>?_⟩,by rw [h6];intro b' hb';cases hb';exact ⟨s,hp⟩⟩
       have hj:j<rows.length*i.size:=by
        rw [←f1]
        exact (List.getElem?_eq_some_iff.1 hx).1
       have hdiv:j/i.size<rows.length:=Nat.div_lt_of_lt_mul (by rw [Nat.mul_comm];exact hj)
       have hmod:j%i.size<i.size:=Nat.mod_lt _ hz0
       obtain ⟨r,hr'⟩:=zy hdiv
       have e1:j/i.size*i.size+j%i.size=j:=by rw [Nat.mul_comm];exact Nat.div_add_mod j i.size
       have h13:=f2 _ _ _ hr' hmod
       rw [e1,hx] at h13
       obtain ⟨v,hv,hvr⟩:=h12 _ _ _ _ hr' h13.symm
       rw [e1] at hv
       rw [List.getElem?_take,if_pos hj] at hu
       have:u=v:=by
        have h14:us[j]?=some u:=by simpa using hu
        rw [h14] at hv;cases hv;rfl
       subst this
       exact hvr
    obtain ⟨us,k1,k2,k3,k4⟩:=key
    obtain ⟨u,w',x',hrun,hone,hv⟩:=zG6 (d:=d) (n:=n) (pl:=pl) (ty:=o.type) hu hi hz hzs hz0 (by omega) hr.mem k1 rfl k2 k3 hys e2 (by rw [←hci];exact c4) (by rw [←hby];exact c3) k4
    refine zX (hexec u w' hrun) ?_
    exact zFf (B:=⟨g+1,P.cellsOf e,e,.row (rows++ys)⟩) hr (zI hB') rfl (fun B0 h0=>by
     rw [hB'] at h0
     cases h0
     exact Nat.lt_succ_self _) hone (by simp only [hci];exact hv)
   ·cases h
  ·cases h
 ·cases h
end
end Go.Eng

