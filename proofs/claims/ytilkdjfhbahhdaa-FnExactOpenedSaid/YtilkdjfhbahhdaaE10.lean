import Derived.Test.YtilkdjfhbahhdaaE9
import Derived.Laws.Tables
import Derived.Great.BuildSlice
import Derived.Laws.MakeOwn
import Derived.Laws.OwnMore
import Derived.Laws.AppendOwnNone
set_option linter.unusedVariables false
set_option linter.unusedSimpArgs false
namespace Go.Eng
open Go.RowKit
section
variable {P:Program} {F:Nat→Prop} {G:Nat→Option Obj} {N0:Base G} {T:Nat} {pl pl':Pl} {st st':St} {a:Act} {w w':World} {fs fs':List Frame}
theorem zEd:∀(l:List Value) (k off:Nat) (cells:Array Value),off+k+l.length≤cells.size→
  ((l.zipIdx k).foldl (fun cs (p:Value×Nat)=>cs.setIfInBounds (off+p.2) p.1) cells).toList=zA cells.toList (off+k) l
 | [],k,off,cells,h=>by simp [zA]
 |x::l,k,off,cells,h=>by
  simp only [List.zipIdx_cons,List.foldl_cons]
  rw [zEd l (k+1) off _ (by simp at h⊢;omega)]
  simp only [List.length_cons] at h
  apply List.ext_getElem?
  intro i
  have hl:off+k<cells.toList.length:=by simp;omega
  rw [Array.toList_setIfInBounds,zj _ _ _ (by simp;omega),zj _ _ _ (by simp;omega),List.getElem?_set]
  simp only [List.length_cons]
  by_cases h1:off+k=i
  ·subst h1
   rw [if_neg (by omega),if_pos rfl,if_pos hl,if_pos (by omega)]
   simp
  ·by_cases h2:off+(k+1)≤i∧i<off+(k+1)+l.length
   ·rw [if_pos h2,if_pos (by omega),show i-(off+k)=(i-(off+(k+1)))+1 by omega,List.getElem?_cons_succ]
   ·rw [if_neg h2,if_neg h1,if_neg (by omega)]
theorem zFu (vs cells:Array Value) (off:Nat) (h:off+vs.size≤cells.size):(vs.zipIdx.foldl (fun cs (c,j)=>cs.setIfInBounds (off+j) c) cells).toList=zA cells.toList off vs.toList:=by
 have:=zEd vs.toList 0 off cells (by simpa using h)
 rw [←Array.foldl_toList,Array.toList_zipIdx]
 simpa using this
theorem zEe {us vs:List Value} {cs ds:List CV} (h:zK F fs pl w us cs) (h':zK F fs pl w vs ds) {off:Nat} (hl:off+ds.length≤cs.length):zK F fs pl w (zA us off vs) (zA cs off ds):=by
 have e1:=h.1
 have e2:=h'.1
 refine ⟨by rw [zf _ _ _ (by omega),zf _ _ _ hl];exact e1,fun i u c hu hc=>?_⟩
 rw [zj _ _ _ (by omega)] at hu
 rw [zj _ _ _ hl] at hc
 by_cases hi:off≤i∧i<off+vs.length
 ·rw [if_pos hi] at hu
  rw [if_pos (by omega)] at hc
  exact h'.2 _ _ _ hu hc
 ·rw [if_neg hi] at hu
  rw [if_neg (by omega)] at hc
  exact h.2 _ _ _ hu hc
theorem zHQ {place:Nat→Option (Nat×Nat)}:∀(ps:List (Nat×Nat×AV)) (parts:List (Nat×Value)) (cells:Array Value) (cs out:List CV),zK F fs pl w cells.toList cs→parts.length=ps.length→
  (∀(i:Nat) p q,parts[i]?=some p→ps[i]?=some q→place p.1=some (q.1,q.2.1)∧zd F fs pl w p.2 q.2.2)→zCN cs ps=some out→∃cells',Instr.fill place cells parts=some cells'∧zK F fs pl w cells'.toList out
 | [],parts,cells,cs,out,hc,hl,_,h=>by
  have:parts= []:=zAQ hl
  subst this
  simp only [zCN,zM] at h
  subst h
  exact ⟨cells,rfl,hc⟩
 |(off,n,x)::ps,parts,cells,cs,out,hc,hl,hp,h=>by
  match parts,hl with
  |(j,v)::parts,hl=>
   obtain ⟨h1,h2⟩:=hp 0 _ _ rfl rfl
   have hx:∀vs,x≠ .tup vs:=by rintro vs rfl;simp [zCN] at h
   have h':(if x.cvs.length=n∧off+n≤cs.length∧x.cvs.all (·.known)=true then zCN (zA cs off x.cvs) ps else none)=some out:=by
    cases x with
    |tup vs=>exact absurd rfl (hx vs)
    |c y=>exact h
    |agg ds=>exact h
   split at h'
   ·rename_i hc0
    obtain ⟨h3,h4,h5⟩:=hc0
    have h6:zK F fs pl w v.cells.toList x.cvs:=zAb h2 hx h5
    have hv:v.cells.size=n:=by rw [←h3,←h6.1];simp
    have hcs:cells.size=cs.length:=by simpa using hc.1
    have h7:zK F fs pl w (zA cells.toList off v.cells.toList) (zA cs off x.cvs):=zEe hc h6 (by omega)
    obtain ⟨cells',h8,h9⟩:=zHQ ps parts (v.cells.zipIdx.foldl (fun cs (c,j)=>cs.setIfInBounds (off+j) c) cells) (zA cs off x.cvs) out (by rw [zFu _ _ _ (by omega)];exact h7) (by simpa using hl)
     (fun i p q hp' hq=>hp (i+1) p q (by simpa using hp') (by simpa using hq)) h'
    refine ⟨cells',?_,h9⟩
    simp only at h1
    simp only [Instr.fill,h1]
    rw [if_neg (by simp [hv];omega)]
    exact h8
   ·cases h'
theorem zFv {z:List Value} {ps:List PV} (h:z.mapM zGg=some ps):RepPs (Own F pl) w z ps:=by
 obtain ⟨h1,h2⟩:=zAG h
 exact ⟨h1.symm,fun i u x hu hx=>zIm (h2 i u x hu hx)⟩
theorem zFw {α β:Type} {f:α→Option β}:∀{l:List α},(∀x∈l,(f x).isSome=true)→∃r,l.mapM f=some r
 | [],_=>⟨[],rfl⟩
 |x::l,h=>by
  obtain ⟨y,hy⟩:=Option.isSome_iff_exists.1 (h x (by simp))
  obtain ⟨r,hr⟩:=zFw (f:=f) (l:=l) (fun z hz=>h z (by simp [hz]))
  exact ⟨y::r,by simp [List.mapM_cons,hy,hr]⟩
theorem zI0 {o:Oper} {t:TypeId} {fds:Array Field} {parts:Array (Nat×Operand)} {z:List PV} {ks:List (Nat×Nat×KX)} {cs:List CV} (ho:o.op= .build t parts) (hu:P.underlying t=some (.struct fds)) (hall:fds.toList.all (fun f=>(P.info? f.type).isSome)=true) (hz:zAj P t=some z)
  (hp:parts.toList.mapM (fun (p:Nat×Operand)=>(fds[p.1]?).bind fun f=>(kx p.2).map fun x=>(f.offset,P.cellsOf f.type,x))=some ks) (hr:Rel F N0 T pl st a w)
  (h:zCN (z.map .p) (ks.map fun (o,n,x)=>(o,n,st.eval x))=some cs):Runs2 P noB o a w (Post F N0 pl st w (.agg cs) st):=by
 simp only [zAj,zN] at hz
 obtain ⟨it,hit,zv,hzv,hzs⟩:=hz
 obtain ⟨hl,hk⟩:=zAG hp
 obtain ⟨places,hpl⟩:=zFw (f:=fun f:Field=>(P.info? f.type).map fun i=>(f.offset,i.size)) (l:=fds.toList) (fun f hf=>by
  have:=List.all_eq_true.1 hall f hf
  obtain ⟨i,hi⟩:=Option.isSome_iff_exists.1 this
  simp [hi])
 obtain ⟨hl2,hk2⟩:=zAG hpl
 have hzero:zK F (st.fr::st.up) pl w zv.cells.toList (z.map .p):=(zFv hzs).cs
 obtain ⟨cells',h1,h2⟩:=zHQ (place:=(places.toArray[·]?)) (ks.map fun (o,n,x)=>(o,n,st.eval x)) ((parts.map fun (i,x)=>(i,a.eval x)).toList) zv.cells (z.map .p) cs hzero (by simp [hl]) (fun i p q hp' hq=>by
  simp only [Array.toList_map,List.getElem?_map] at hp' hq
  obtain ⟨⟨j,x⟩,hx,rfl⟩:=Option.map_eq_some_iff.1 hp'
  obtain ⟨⟨off,n,kq⟩,hq',rfl⟩:=Option.map_eq_some_iff.1 hq
  have h3:=hk i _ _ hx hq'
  simp only [zN,zL,Prod.mk.injEq] at h3
  obtain ⟨f,hf,kx',hkx,rfl,rfl,rfl⟩:=h3
  refine ⟨?_,zD hr hkx⟩
  have hf':fds.toList[j]?=some f:=by simpa using hf
  have hj:j<places.length:=by
   rw [hl2]
   by_cases hj:j<fds.toList.length
   ·exact hj
   ·rw [List.getElem?_eq_none (by omega)] at hf';cases hf'
  have h4:=hk2 j f _ hf' (zb hj)
  obtain ⟨i',hi',he⟩:=Option.map_eq_some_iff.1 h4
  simp only [List.getElem?_toArray,zb hj,←he]
  simp [Program.cellsOf,hi']) h
 refine zT (u:= .agg cells') (fun w' hg'=>?_) (zI hr ⟨cells'.toList,by simp,h2⟩)
 have hb:P.built t ((parts.map fun (i,x)=>(i,a.eval x)).toList)=some cells':=by
  unfold Program.built
  simp only [hit,hu,hzv,hpl,h1]
 simp only [execOp,ho,Sem.run_bind,run_build w' t _ cells' hb,Result.andThen_ok]
 rfl
theorem zt {α:Type} {sz:Nat}:∀{rows:List (List α)},(∀e∈rows,e.length=sz)→rows.flatten.length=rows.length*sz∧∀j e o,rows[j]?=some e→o<sz→rows.flatten[j*sz+o]?=e[o]?
 | [],_=>⟨by simp,fun j e o h=>by simp at h⟩
 |r::rows,h=>by
  obtain ⟨h1,h2⟩:=zt (rows:=rows) (fun e he=>h e (by simp [he]))
  have hr:=h r (by simp)
  refine ⟨by simp [h1,hr,Nat.add_mul];omega,fun j e o hj ho=>?_⟩
  cases j with
  |zero=>
   simp at hj
   subst hj
   simp only [List.flatten_cons,Nat.zero_mul,Nat.zero_add]
   rw [List.getElem?_append_left (by omega)]
  |succ j=>
   simp only [List.flatten_cons]
   rw [List.getElem?_append_right (by rw [Nat.add_mul];omega),show (j+1)*sz+o-r.length=j*sz+o by rw [Nat.add_mul];omega]
   exact h2 j e o (by simpa using hj) ho
theorem zDH {sz:Nat}:∀(ps:List (Nat×AV)) (parts:List (Nat×Value)) (cells:Array Value) (rows out:List (List CV)),(∀e∈rows,e.length=sz)→zK F fs pl w cells.toList rows.flatten→parts.length=ps.length→
  (∀(i:Nat) p q,parts[i]?=some p→ps[i]?=some q→p.1=q.1∧zd F fs pl w p.2 q.2)→zAL rows sz ps=some out→
  ∃cells',Instr.fill (fun i=>some (i*sz,sz)) cells parts=some cells'∧zK F fs pl w cells'.toList out.flatten∧(∀e∈out,e.length=sz)∧out.length=rows.length
 | [],parts,cells,rows,out,hs,hc,hl,_,h=>by
  have:parts= []:=zAQ hl
  subst this
  simp only [zAL,zM] at h
  subst h
  exact ⟨cells,rfl,hc,hs,rfl⟩
 |(j,x)::ps,parts,cells,rows,out,hs,hc,hl,hp,h=>by
  match parts,hl with
  |(j',v)::parts,hl=>
   obtain ⟨h1,h2⟩:=hp 0 _ _ rfl rfl
   simp only at h1
   subst h1
   have hx:∀vs,x≠ .tup vs:=by rintro vs rfl;simp [zAL] at h
   have h':(if x.cvs.length=sz∧j'<rows.length∧x.cvs.all (·.known)=true then zAL (rows.set j' x.cvs) sz ps else none)=some out:=by
    cases x with
    |tup vs=>exact absurd rfl (hx vs)
    |c y=>exact h
    |agg ds=>exact h
   split at h'
   ·rename_i hc0
    obtain ⟨h3,h4,h5⟩:=hc0
    have h6:zK F fs pl w v.cells.toList x.cvs:=zAb h2 hx h5
    have hv:v.cells.size=sz:=by rw [←h3,←h6.1];simp
    obtain ⟨hfl,hfg⟩:=zt hs
    have hcs:cells.size=rows.length*sz:=by have:=hc.1;simp [hfl] at this;simpa using this
    have hjs:j'*sz+sz≤rows.length*sz:=by
     have:=Nat.mul_le_mul_right sz (show j'+1≤rows.length by omega)
     rw [Nat.add_mul] at this
     omega
    have hs':∀e∈rows.set j' x.cvs,e.length=sz:=fun e he=>by
     rcases List.mem_or_eq_of_mem_set he with h7|rfl
     ·exact hs e h7
     ·exact h3
    have hflat:(rows.set j' x.cvs).flatten=zA rows.flatten (j'*sz) x.cvs:=by
     obtain ⟨g1,g2⟩:=zt hs'
     apply List.ext_getElem?
     intro i
     rw [zj _ _ _ (by omega)]
     by_cases hi:i<rows.length*sz
     ·have hsz:0<sz:=by
       rcases Nat.eq_zero_or_pos sz with e|e
       ·rw [e] at hi;simp at hi
       ·exact e
      obtain ⟨q,o,hq,ho,rfl⟩:∃q o,q<rows.length∧o<sz∧i=q*sz+o:=⟨i/sz,i%sz,by rw [Nat.div_lt_iff_lt_mul hsz];exact hi,Nat.mod_lt _ hsz,by rw [Nat.mul_comm];exact (Nat.div_add_mod i sz).symm⟩
      by_cases e:q=j'
      ·subst e
       rw [g2 q x.cvs o (by simp [hq]) ho,if_pos (by omega)]
       congr 1;omega
      ·rw [g2 q rows[q] o (by rw [List.getElem?_set_ne (Ne.symm e)];exact zb hq) ho,hfg q rows[q] o (zb hq) ho,if_neg]
       intro hcon
       rcases Nat.lt_or_gt_of_ne e with hlt|hlt
       ·have:=Nat.mul_le_mul_right sz (show q+1≤j' by omega)
        rw [Nat.add_mul] at this
        omega
       ·have:=Nat.mul_le_mul_right sz (show j'+1≤q by omega)
        rw [Nat.add_mul] at this
        omega
     ·rw [List.getElem?_eq_none (by simp [g1];omega),if_neg (by omega),List.getElem?_eq_none (by omega)]
    have h7:zK F fs pl w (zA cells.toList (j'*sz) v.cells.toList) (rows.set j' x.cvs).flatten:=by
     rw [hflat]
     exact zEe hc h6 (by omega)
    obtain ⟨cells',h8,h9,h10,h11⟩:=zDH ps parts (v.cells.zipIdx.foldl (fun cs (c,i)=>cs.setIfInBounds (j'*sz+i) c) cells) (rows.set j' x.cvs) out hs' (by rw [zFu _ _ _ (by omega)];exact h7) (by simpa using hl)
     (fun i p q hp' hq=>hp (i+1) p q (by simpa using hp') (by simpa using hq)) h'
    refine ⟨cells',?_,h9,h10,by rw [h11];simp⟩
    simp only [Instr.fill]
    rw [if_neg (by simp [hv];omega)]
    exact h8
   ·cases h'
theorem zB2:∀{rows:List (List CV)} {st st':St} {pl:Pl} {rs:List (List PV)} {us:List Value} {sz:Nat},MemOK F N0 (st.fr::st.up) pl w→N0.n≤w.heap.size→(∀e∈rows,e.length=sz)→zZ st rows=some (rs,st')→zK F (st.fr::st.up) pl w us rows.flatten→
  ∃pl',Same F N0 pl st st' w pl'∧RepPs (Own F pl') w us rs.flatten∧(∀e∈rs,e.length=sz)∧rs.length=rows.length
 | [],st,st',pl,rs,us,sz,hm,hN,hs,h,hv=>by
  simp only [zZ,zM,Prod.mk.injEq] at h
  obtain ⟨rfl,rfl⟩:=h
  have:us= []:=zAQ (by simpa using hv.1)
  subst this
  exact ⟨pl,Same.refl hm,⟨rfl,fun i u x hu=>by simp at hu⟩,by simp,rfl⟩
 |r::rows,st,st',pl,rs,us,sz,hm,hN,hs,h,hv=>by
  simp only [zZ,zN,Prod.exists] at h
  obtain ⟨y,st1,h1,qs,st2,h2,h3⟩:=h
  simp only [zM,Prod.mk.injEq] at h3
  obtain ⟨rfl,rfl⟩:=h3
  have hr:=hs r (by simp)
  have hul:=hv.1
  simp only [List.flatten_cons,List.length_append] at hul
  have hv1:zK F (st.fr::st.up) pl w (us.take r.length) r:=⟨by simp;omega,fun i u c hu hc=>by
   have hi:i<r.length:=by
    by_cases hi:i<r.length
    ·exact hi
    ·rw [List.getElem?_eq_none (by omega)] at hc;cases hc
   rw [List.getElem?_take,if_pos hi] at hu
   exact hv.2 i u c hu (by rw [List.flatten_cons,List.getElem?_append_left hi];exact hc)⟩
  have hv2:zK F (st.fr::st.up) pl w (us.drop r.length) rows.flatten:=⟨by rw [List.length_drop];omega,fun i u c hu hc=>by
   rw [List.getElem?_drop] at hu
   exact hv.2 _ u c hu (by rw [List.flatten_cons,List.getElem?_append_right (by omega),show r.length+i-r.length=i by omega];exact hc)⟩
  obtain ⟨pl1,s1,r1⟩:=zAu hm hN h1 hv1
  obtain ⟨pl2,s2,r2,r3,r4⟩:=zB2 s1.mem hN (fun e he=>hs e (by simp [he])) h2 (s1.keep.repCs hv2)
  have hyl:y.length=sz:=by have:=r1.1;simp at this;omega
  refine ⟨pl2,s1.trans s2,⟨?_,fun i u x hu hx=>?_⟩,?_,by simp [r4]⟩
  ·have a1:=r1.1
   have a2:=r2.1
   simp at a1 a2⊢
   omega
  ·rw [List.flatten_cons] at hx
   by_cases hi:i<y.length
   ·rw [List.getElem?_append_left hi] at hx
    exact s2.keep.repP (r1.2 i u x (by rw [List.getElem?_take,if_pos (by omega)];exact hu) hx)
   ·rw [List.getElem?_append_right (by omega)] at hx
    exact r2.2 (i-y.length) u x (by rw [List.getElem?_drop,show r.length+(i-y.length)=i by omega];exact hu) hx
  ·intro e he
   rcases List.mem_cons.1 he with rfl|he
   ·exact hyl
   ·exact r3 e he
end
end Go.Eng

