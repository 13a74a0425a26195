import Derived.Test.YtdkoeegcpbaojaaGreatDoorE6
set_option linter.unusedVariables false
set_option linter.unusedSimpArgs false
namespace Go.Eng
open Go.RowKit
section
variable {P:Program} {F:Nat→Prop} {G:Nat→Option Obj} {N0:Base G} {T:Nat} {pl pl':Pl} {st st':St} {a:Act} {w w':World} {fs fs':List Frame}
structure Same (F:Nat→Prop) {G:Nat→Option Obj} (N0:Base G) (pl:Pl) (st st':St) (w:World) (pl':Pl):Prop where
 mem:MemOK F N0 (st'.fr::st'.up) pl' w
 keep:Keep F (st.fr::st.up) (st'.fr::st'.up) pl pl' w w
 t:st'.t=st.t
theorem Same.refl (hm:MemOK F N0 (st.fr::st.up) pl w):Same F N0 pl st st w pl:=⟨hm,Keep.refl,rfl⟩
theorem Same.trans {st'':St} {pl'':Pl} (h:Same F N0 pl st st' w pl') (h':Same F N0 pl' st' st'' w pl''):Same F N0 pl st st'' w pl'':=⟨h'.mem,h.keep.trans h'.keep,h'.t.trans h.t⟩
theorem zCm {d n:Nat}:One pl d n w w:=⟨rfl,rfl,rfl,Nat.le_refl _,fun _ _ _=>rfl⟩
theorem zEu (a:Addr) (i:Nat):(a.add i).block=a.block:=by unfold Addr.add;split<;>rfl
theorem zC8 (hm:MemOK F N0 fs pl w) {v:Value} {d n g m:Nat} {sz ty:Nat} {rows:List (List PV)} (hv:zAv F fs pl w v (.own d n g m)) (hB:zB d n fs=some ⟨g,sz,ty,.row rows⟩) (hml:m=rows.length)
  {own':Nat→Prop} (h1:∀b s,pl d n=some (b,s)→¬own' b) (h2:∀{u x},RepP (Own F pl) w u x→RepP own' w u x):RepP own' w v (.ls rows):=by
 obtain ⟨h0,B,h3,h4,h5⟩:=hv
 rw [hB] at h3
 cases h3
 have hb:=hm.blk d n _ hB
 rcases h5 rfl with ⟨rfl,hm0,hp⟩|⟨b,s,cap,hp,rfl,hs,hmc,hcm⟩
 ·have:rows= []:=List.eq_nil_of_length_eq_zero (by omega)
  subst this
  exact .nls
 ·rcases hb with ⟨h6,h7⟩|⟨b',s',us,h6,h7,h8,h9,h10,h11⟩
  ·rw [hp] at h7;cases h7
  ·rw [hp] at h6
   cases h6
   simp only at h7 h9 h10 h11
   refine .ls (sz:=sz) (fun j o=>us.getD (j*sz+o) .nilIface) hml.symm hmc (Nat.le_trans hmc hcm) (fun _=>⟨h1 _ _ hp,(Array.getElem?_eq_some_iff.1 (by simpa using h7)).1⟩) (fun j e he=>⟨h10 e (List.mem_of_getElem? he),fun o x hx=>?_⟩) (fun j e o x he hx=>?_)
   ·obtain ⟨v,hv,_⟩:=h11 j e o x he hx
    rw [zBQ,Nat.zero_add,zCk h7,hv]
    simp [Array.getD_eq_getD_getElem?,hv]
   ·obtain ⟨v,hv,hr⟩:=h11 j e o x he hx
    have:us.getD (j*sz+o) .nilIface=v:=by simp [Array.getD_eq_getD_getElem?,hv]
    rw [this]
    exact h2 hr
theorem zCW (hm:MemOK F N0 (st.fr::st.up) pl w) (hN:N0.n≤w.heap.size) {v:Value} {c:CV} {y:PV} (h:zAb st c=some (y,st')) (hv:zAv F (st.fr::st.up) pl w v c):
  ∃pl',Same F N0 pl st st' w pl'∧RepP (Own F pl') w v y:=by
 unfold zAb at h
 split at h
 ·cases h
  exact ⟨pl,Same.refl hm,RepP.weak hv⟩
 ·rename_i d n g m
  split at h
  ·rename_i g' sz ty rows hB
   split at h
   ·rename_i hc
    obtain ⟨rfl,hml⟩:=hc
    cases h
    have hB':zB d n (st.fr::st.up)=some ⟨g,sz,ty,.row rows⟩:=hB
    have hd:=zK hB'
    have hk:=zBz (B:=⟨g+1,sz,ty,.dead⟩) (x:=none) hm hd (fun B0 h0=>by
     rw [hB'] at h0;cases h0
     exact ⟨by simp,fun e=>by simp at e⟩) (zCm (w:=w)) (fun b s h=>by cases h)
    have hmem:=zCi hm hN hd hk zCm (fun b s h=>by cases h) (by show zAe pl d n none d n=none;exact zG ..)
    refine ⟨zAe pl d n none,⟨by rw [zAJ];exact hmem,by rw [zAJ];exact hk,zA9 ..⟩,?_⟩
    refine zC8 hm hv hB' hml (fun b s hp hown=>?_) (fun hr=>hk.repP hr)
    rcases hown with hF|⟨d',n',s',hp'⟩
    ·exact (hm.live _ _ _ _ hp).2.2.1 hF
    ·by_cases e:d'=d∧n'=n
     ·obtain ⟨rfl,rfl⟩:=e;rw [zG] at hp';cases hp'
     ·rw [zAE pl none e] at hp'
      obtain ⟨e1,e2⟩:=hm.inj _ _ _ _ _ _ _ hp' hp
      exact e ⟨e1,e2⟩
   ·cases h
  ·cases h
 ·cases h
def RepPs (own:Nat→Prop) (w:World) (us:List Value) (ps:List PV):Prop:=us.length=ps.length∧∀(i:Nat) u x,us[i]?=some u→ps[i]?=some x→RepP own w u x
theorem RepPs.cs {us:List Value} {ps:List PV} (h:RepPs (Own F pl) w us ps):zM F fs pl w us (ps.map .p):=
 ⟨by rw [List.length_map];exact h.1,fun i u c hu hc=>by
  rw [List.getElem?_map] at hc
  obtain ⟨x,hx,rfl⟩:=Option.map_eq_some_iff.1 hc
  have:=h.2 i u x hu hx
  exact ⟨this,.inr this.one.1⟩⟩
theorem zBI:∀{cs:List CV} {st st':St} {pl:Pl} {ps:List PV} {us:List Value},MemOK F N0 (st.fr::st.up) pl w→N0.n≤w.heap.size→zq st cs=some (ps,st')→zM F (st.fr::st.up) pl w us cs→
  ∃pl',Same F N0 pl st st' w pl'∧RepPs (Own F pl') w us ps
 | [],st,st',pl,ps,us,hm,hN,h,hv=>by
  simp only [zq,Option.some.injEq,Prod.mk.injEq] at h
  obtain ⟨rfl,rfl⟩:=h
  have:us= []:=List.eq_nil_of_length_eq_zero hv.1
  subst this
  exact ⟨pl,Same.refl hm,rfl,fun i u x hu=>by simp at hu⟩
 |c::r,st,st',pl,ps,us,hm,hN,h,hv=>by
  simp only [zq,Option.bind_eq_some_iff,Prod.exists] at h
  obtain ⟨y,st1,h1,qs,st2,h2,h3⟩:=h
  simp only [Option.some.injEq,Prod.mk.injEq] at h3
  obtain ⟨rfl,rfl⟩:=h3
  match us,hv with
  |u::us,hv=>
   obtain ⟨pl1,s1,r1⟩:=zCW hm hN h1 (hv.2 0 u c rfl rfl).1
   have hv':zM F (st1.fr::st1.up) pl1 w us r:=s1.keep.repCs ⟨by simpa using hv.1,fun i u c hu hc=>hv.2 (i+1) u c (by simpa using hu) (by simpa using hc)⟩
   obtain ⟨pl2,s2,r2⟩:=zBI s1.mem hN h2 hv'
   refine ⟨pl2,s1.trans s2,by simp [r2.1],fun i u' x hu hx=>?_⟩
   cases i with
   |zero=>simp at hu hx;subst hu;subst hx;exact s2.keep.repP r1
   |succ i=>exact r2.2 i u' x (by simpa using hu) (by simpa using hx)
  | [],hv=>simp [zM] at hv
theorem zAV {α:Type} (l xs:List α) (o:Nat) (h:o+xs.length≤l.length) (i:Nat):(zw l o xs)[i]?=if o≤i∧i<o+xs.length then xs[i-o]? else l[i]?:=by
 unfold zw
 by_cases h1:i<o
 ·rw [if_neg (by omega),List.append_assoc,List.getElem?_append_left (by simp;omega),List.getElem?_take,if_pos h1]
 ·by_cases h2:i<o+xs.length
  ·rw [if_pos ⟨by omega,h2⟩,List.append_assoc,List.getElem?_append_right (by simp;omega),List.getElem?_append_left (by simp;omega)]
   congr 1
   simp;omega
  ·rw [if_neg (by omega),List.getElem?_append_right (by simp;omega),List.getElem?_drop]
   congr 1
   simp;omega
theorem zAF {α:Type} (l xs:List α) (o:Nat) (h:o+xs.length≤l.length):(zw l o xs).length=l.length:=by unfold zw;simp;omega
theorem zD6 {d n b s:Nat} (hp:pl d n=some (b,s)) (row:Array Value):One pl d n w (w.setRow b row):=by
 refine ⟨rfl,rfl,rfl,by simp [World.setRow],fun k hk hn=>?_⟩
 have hne:k≠b:=fun e=>hn s (e▸hp)
 simp only [World.setRow]
 rw [Array.getElem?_modify]
 simp [Ne.symm hne]
theorem zDU {b:Nat} (row:Array Value):KeepB (fun k=>k≠b) w (w.setRow b row):=by
 refine ⟨by simp [World.setRow],fun k hk hne=>?_⟩
 simp only [World.setRow]
 rw [Array.getElem?_modify]
 simp [Ne.symm hne]
theorem zCn {b:Nat} {old cs:Array Value} {t:TypeId} (hg:w.heap[b]?=some (.cells old t (0,0))):(w.setRow b cs).heap[b]?=some (.cells cs t (0,0)):=setRow_heap w b old cs t _ hg
theorem zJ8 {us:List Value} {xs:List CV} (h:zM F fs pl w us xs) (hk:xs.all (·.known)=true):∀v∈us,v.oneCell'=true:=by
 intro v hv
 obtain ⟨i,hi,rfl⟩:=List.getElem_of_mem hv
 have hx:i<xs.length:=by have:=h.1;omega
 rcases (h.2 i _ _ (List.getElem?_eq_getElem hi) (List.getElem?_eq_getElem hx)).2 with e|e
 ·have:=List.all_eq_true.1 hk _ (List.getElem_mem hx)
  rw [e] at this
  cases this
 ·exact e
theorem zD7 (hm:MemOK F N0 (st.fr::st.up) pl w) (hN:N0.n≤w.heap.size) {v:Value} {x:AV} {us:List Value} {xs:List CV} (h:st.write x xs=some st') (hv:zU F (st.fr::st.up) pl w v x) (hxs:zM F (st.fr::st.up) pl w us xs):
  ∃ad w' pl',v= .pointer (some ad)∧(storeCells ad us).run P w= .ok () w'∧MemOK F N0 (st'.fr::st'.up) pl' w'∧Keep F (st.fr::st.up) (st'.fr::st'.up) pl pl' w w'∧st'.t=st.t∧KeepB (fun k=>k≠ad.block) w w':=by
 unfold St.write at h
 split at h
 ·rename_i d m g j o
  obtain ⟨h0,B,hB,hg,hv⟩:=hv
  have hB':st.get d m=some B:=hB
  split at h
  ·rename_i g' sz ty cells he
   rw [hB'] at he
   cases he
   split at h
   ·rename_i hc
    obtain ⟨rfl,hc,hdep,hko⟩:=hc
    cases h
    obtain ⟨b,s,hp,⟨_,rfl⟩|⟨hk2,_⟩⟩:=hv rfl
    rotate_left
    ·exact absurd hk2 hko
    obtain ⟨b',cur,h1,h2,h3,h4⟩:=hm.blk d m _ hB
    have e:b'=b∧s=cells.length:=by rw [hp] at h1;cases h1;exact ⟨rfl,rfl⟩
    obtain ⟨rfl,rfl⟩:=e
    have hul:=hxs.1
    have hcl:cur.size=cells.length:=by simpa using h3.1
    have hrun:=run_storeCells_at (P:=P) b' (j*sz+o) ty us 0 cur w h2 (by simp only [Nat.add_zero];omega) (zJ8 hxs (zCV hdep))
    simp only [Nat.add_zero] at hrun
    have hd:=zK hB
    have hs:=zD6 (w:=w) hp (cur.toList.take (j*sz+o)++us++cur.toList.drop (j*sz+o+us.length)).toArray
    have hk:=zBz (B:=⟨g,sz,ty,.box (zw cells (j*sz+o) xs)⟩) (x:=pl d m) hm hd (fun B0 hB0=>by rw [hB] at hB0;cases hB0;exact ⟨Nat.le_refl _,fun _=>⟨rfl,rfl⟩⟩) hs (fun b s h=> .inl ⟨s,h⟩)
    refine ⟨_,_,_,rfl,hrun,?_,by rw [zAJ];exact hk,zA9 ..,zDU _⟩
    rw [zAJ]
    refine zCi hm hN hd hk hs (fun b s h=>⟨.inl ⟨s,h⟩,Nat.lt_of_lt_of_le (hm.live _ _ _ _ h).2.1 hs.size⟩) ?_
    refine ⟨b',(cur.toList.take (j*sz+o)++us++cur.toList.drop (j*sz+o+us.length)).toArray,?_,zCn h2,?_,?_⟩
    ·rw [zG,hp,zAF _ _ _ hc]
    ·have hset:(cur.toList.take (j*sz+o)++us++cur.toList.drop (j*sz+o+us.length))=zw cur.toList (j*sz+o) us:=rfl
     simp only [List.toList_toArray]
     rw [hset]
     have hc2:j*sz+o+us.length≤cur.toList.length:=by simp;omega
     refine ⟨by rw [zAF _ _ _ hc2,zAF _ _ _ hc];simpa using hcl,fun i u c hu hc'=>?_⟩
     rw [zAV _ _ _ hc2] at hu
     rw [zAV _ _ _ hc] at hc'
     by_cases hi:j*sz+o≤i∧i<j*sz+o+us.length
     ·rw [if_pos hi] at hu
      rw [if_pos (by omega)] at hc'
      exact (hk.repCs hxs).2 _ _ _ hu hc'
     ·rw [if_neg hi] at hu
      rw [if_neg (by omega)] at hc'
      exact (hk.repCs h3).2 _ _ _ hu hc'
    ·intro c hc'
     obtain ⟨i,hi,rfl⟩:=List.getElem_of_mem hc'
     have hi2:=List.getElem?_eq_getElem hi
     rw [zAV _ _ _ hc] at hi2
     split at hi2
     ·exact List.all_eq_true.1 hdep _ (List.mem_of_getElem? hi2)
     ·exact h4 _ (List.mem_of_getElem? hi2)
   ·cases h
  ·rename_i hB2
   simp only [Option.bind_eq_some_iff,Prod.exists] at h
   obtain ⟨ys,st1,hf,h⟩:=h
   obtain ⟨pl1,s1,r1⟩:=zBI hm hN hf hxs
   split at h
   ·rename_i g' sz ty rows hB1
    split at h
    ·rename_i hgg
     obtain ⟨hgg,hko⟩:=hgg
     subst hgg
     split at h
     ·rename_i e hj
      split at h
      ·rename_i ho
       cases h
       have hB1':zB d m (st1.fr::st1.up)=some ⟨g,sz,ty,.row rows⟩:=hB1
       have hv1:=s1.keep.repC (c:= .ptr d m g j o) ⟨h0,B,hB,hg,hv⟩
       obtain ⟨_,B1,hB1'',_,hv2⟩:=hv1
       rw [hB1'] at hB1''
       cases hB1''
       obtain ⟨b,s,hp,⟨_,rfl⟩|⟨hk2,_⟩⟩:=hv2 rfl
       rotate_left
       ·exact absurd hk2 hko
       rcases s1.mem.blk d m _ hB1' with ⟨h1,h2⟩|⟨b',s',cur,h1,h2,h3,h4,h5,h6⟩
       ·subst h1;simp at hj
       have e':b'=b∧s'=s:=by rw [hp] at h1;cases h1;exact ⟨rfl,rfl⟩
       obtain ⟨rfl,rfl⟩:=e'
       simp only at h2 h4 h5 h6
       have hjl:j<rows.length:=by
        by_cases hj':j<rows.length
        ·exact hj'
        ·rw [List.getElem?_eq_none (by omega)] at hj;cases hj
       have hel:e.length=sz:=h5 e (List.mem_of_getElem? hj)
       have hmul:=Nat.mul_le_mul_right sz (show j+1≤rows.length by omega)
       rw [Nat.add_mul] at hmul
       have hul:=r1.1
       have hone:∀v∈us,v.oneCell'=true:=fun v hv=>by
        obtain ⟨i,hi,rfl⟩:=List.getElem_of_mem hv
        exact (r1.2 i _ _ (List.getElem?_eq_getElem hi) (List.getElem?_eq_getElem (by omega))).one.1
       have hrun:=run_storeCells_at (P:=P) b' (j*sz+o) ty us 0 cur w h2 (by simp only [Nat.add_zero];omega) hone
       simp only [Nat.add_zero] at hrun
       have hd:=zK hB1'
       have hs:=zD6 (w:=w) hp (cur.toList.take (j*sz+o)++us++cur.toList.drop (j*sz+o+us.length)).toArray
       have hk:=zBz (B:=⟨g,sz,ty,.row (rows.set j (zw e o ys))⟩) (x:=pl1 d m) s1.mem hd (fun B0 hB0=>by rw [hB1'] at hB0;cases hB0;exact ⟨Nat.le_refl _,fun _=>⟨rfl,rfl⟩⟩) hs (fun b s h=> .inl ⟨s,h⟩)
       refine ⟨_,_,_,rfl,hrun,?_,by rw [zAJ];exact s1.keep.trans hk,by rw [zA9];exact s1.t,zDU _⟩
       rw [zAJ]
       refine zCi s1.mem hN hd hk hs (fun b s h=>⟨.inl ⟨s,h⟩,Nat.lt_of_lt_of_le (s1.mem.live _ _ _ _ h).2.1 hs.size⟩) ?_
       have hset:(cur.toList.take (j*sz+o)++us++cur.toList.drop (j*sz+o+us.length))=zw cur.toList (j*sz+o) us:=rfl
       have hc2:j*sz+o+us.length≤cur.toList.length:=by simp;omega
       refine .inr ⟨b',s',(zw cur.toList (j*sz+o) us).toArray,by rw [zG];exact hp,by rw [←hset];exact zCn h2,by simp [zAF _ _ _ hc2];omega,by simpa using h4,?_,?_⟩
       ·intro e' he'
        rcases List.mem_or_eq_of_mem_set he' with h7|rfl
        ·exact h5 _ h7
        ·rw [zAF _ _ _ ho];exact hel
       ·intro j' e' o' x' hj' ho'
        have hel':e'.length=sz:=by
         have he':=List.mem_of_getElem? hj'
         rcases List.mem_or_eq_of_mem_set he' with h7|rfl
         ·exact h5 _ h7
         ·rw [zAF _ _ _ ho];exact hel
        have ho2:o'<sz:=by
         rw [←hel']
         by_cases h7:o'<e'.length
         ·exact h7
         ·rw [List.getElem?_eq_none (by omega)] at ho';cases ho'
        simp only [List.getElem?_toArray]
        rw [zAV _ _ _ hc2]
        by_cases e1:j'=j
        ·subst e1
         rw [List.getElem?_set_self hjl] at hj'
         cases hj'
         rw [zAV _ _ _ ho] at ho'
         by_cases hi:o≤o'∧o'<o+ys.length
         ·rw [if_pos hi] at ho'
          rw [if_pos (by omega)]
          have hlt:o'-o<us.length:=by omega
          refine ⟨us[o'-o],by rw [show j'*sz+o'-(j'*sz+o)=o'-o by omega];exact List.getElem?_eq_getElem hlt,hk.repP (r1.2 _ _ _ (List.getElem?_eq_getElem hlt) ho')⟩
         ·rw [if_neg hi] at ho'
          rw [if_neg (by omega)]
          obtain ⟨v,hv,hr⟩:=h6 j' e o' x' hj ho'
          exact ⟨v,by simpa using hv,hk.repP hr⟩
        ·rw [List.getElem?_set_ne (Ne.symm e1)] at hj'
         have hne:¬(j*sz+o≤j'*sz+o'∧j'*sz+o'<j*sz+o+us.length):=by
          intro hcon
          rcases Nat.lt_or_gt_of_ne e1 with hlt|hlt
          ·have:=Nat.mul_le_mul_right sz (show j'+1≤j by omega)
           rw [Nat.add_mul] at this
           omega
          ·have:=Nat.mul_le_mul_right sz (show j+1≤j' by omega)
           rw [Nat.add_mul] at this
           omega
         rw [if_neg hne]
         obtain ⟨v,hv,hr⟩:=h6 j' e' o' x' hj' ho'
         exact ⟨v,by simpa using hv,hk.repP hr⟩
      ·cases h
     ·cases h
    ·cases h
   ·cases h
  ·cases h
 ·cases h
end
end Go.Eng

