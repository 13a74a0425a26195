import Derived.Test.YtilkdjfhbahhdaaE21
set_option linter.unusedVariables false
set_option linter.unusedSimpArgs false
namespace Go.Eng
section
variable {run:zh} {s s1 s' s1' s2 s2':St} {W:List (Nat×Nat)} {dst:Nat}
theorem zDe {xs:List KX} {U:List Nat} (ht:∀x:KX,(∀n∈x.uses,n∈U)→s'.eval x=s.eval x) (h:∀n∈xs.flatMap KX.uses,n∈U):xs.map s'.eval=xs.map s.eval:=
 List.map_congr_left fun x hx=>ht x fun n hn=>h n (List.mem_flatMap.2 ⟨x,hx,hn⟩)
theorem zID (cs:List Cap):(cs.map Cap.av).flatMap AV.refs=cs.flatMap Cap.refs:=by
 induction cs with
 |nil=>rfl
 |cons c r ih=>
  simp only [List.map_cons,List.flatMap_cons,ih]
  cases c<;>simp [Cap.av,Cap.refs,AV.refs,AV.cvs,CV.refs]
theorem zBq {f:KX} {g:FuncId} {cs:List Cap} {args:List KX} (hf:s.eval f= .c (.fn g cs)):∀p∈(args.map s.eval++cs.map Cap.av).flatMap AV.refs,p∈(f::args).flatMap s.refs:=by
 intro p hp
 rw [List.flatMap_append,zID] at hp
 rcases List.mem_append.1 hp with hp|hp
 ·obtain ⟨v,hv,hp⟩:=List.mem_flatMap.1 hp
  obtain ⟨x,hx,rfl⟩:=List.mem_map.1 hv
  exact List.mem_flatMap.2 ⟨x,List.mem_cons_of_mem _ hx,hp⟩
 ·refine List.mem_flatMap.2 ⟨f,List.mem_cons_self ..,?_⟩
  simp only [St.refs,hf,zk,CV.refs]
  exact hp
theorem zJK {z:List CV}:∀{l l':List (Nat×Nat×AV)},l=l'→zCN z l=zCN z l':=fun h=>by rw [h]
theorem zEy {sz:Nat}:∀{l:List (Nat×AV)} {rows rows':List (List CV)},zAL rows sz l=some rows'→∀p∈rows'.flatMap (·.flatMap CV.refs),p∈rows.flatMap (·.flatMap CV.refs)∨p∈l.flatMap fun q=>q.2.refs
 | [],rows,rows',h,p,hp=>by cases h;exact .inl hp
 |(j,a)::r,rows,rows',h,p,hp=>by
  have key:(if a.cvs.length=sz∧j<rows.length∧a.cvs.all (·.known)=true then zAL (rows.set j a.cvs) sz r else none)=some rows':=by
   cases a with
   |tup vs=>cases h
   |_=>exact h
  split at key
  ·rcases zEy key p hp with h1|h1
   ·obtain ⟨l,hl,hp⟩:=List.mem_flatMap.1 h1
    rcases List.mem_or_eq_of_mem_set hl with hl|rfl
    ·exact .inl (List.mem_flatMap.2 ⟨l,hl,hp⟩)
    ·exact .inr (List.mem_flatMap.2 ⟨(j,a),List.mem_cons_self ..,hp⟩)
   ·obtain ⟨q,hq,hp⟩:=List.mem_flatMap.1 h1
    exact .inr (List.mem_flatMap.2 ⟨q,List.mem_cons_of_mem _ hq,hp⟩)
  ·cases key
theorem zGD {fr fr':Frame} {D d:Nat} {r:Res} (hs:zCr r=true) (hf:z9 fr' (d*64+40)=z9 fr (d*64+40)):r.v.map (z7 D d fr')=r.v.map (z7 D d fr):=by
 simp only [zCr,Bool.and_eq_true] at hs
 have h0:∀c:CV,zJy c=true→z7 D d fr' c=z7 D d fr c:=fun c hc=>by
  unfold zJy at hc
  split at hc
  ·simp only [z7,Nat.add_zero,hf]
  ·simp only [z7,Nat.add_zero,hf]
  ·cases hc
  ·cases hc
  ·rename_i n1 n2 n3 n4
   cases c<;>first|rfl|exact (n3 _ _ _ _ rfl).elim|exact (n4 _ _ _ _ _ rfl).elim
 have one:∀l:List CV,l.all zJy=true→l.map (z7 D d fr')=l.map (z7 D d fr):=fun l hl=>List.map_congr_left fun c hc=>h0 c (List.all_eq_true.1 hl c hc)
 have hv:=hs.2
 revert hv
 cases r.v with
 |c x=>intro hv;simp only [AV.cvs,List.all_cons,List.all_nil,Bool.and_true] at hv;simp only [AV.map,h0 x hv]
 |agg cs=>intro hv;simp only [AV.map,one cs hv]
 |tup vs=>
  intro hv
  simp only [AV.map,AV.tup.injEq]
  refine List.map_congr_left fun p hp=>?_
  obtain ⟨g,cs⟩:=p
  simp only [Prod.mk.injEq,true_and]
  exact one cs (List.all_eq_true.2 fun c hc=>List.all_eq_true.1 hv c (List.mem_flatMap.2 ⟨_,hp,hc⟩))
theorem zEz (st:St) (n:Nat):z9 st.fr n=match st.get st.up.length n with|some B=>B.g+1|none=>0:=by
 unfold z9 St.get zB
 simp
 rfl
theorem zIE {r:Res} (hs:zCr r=true) (ha:Agr W s s') (hw:(s.up.length,dst*64+40)∈W):
  r.v.map (z7 s'.up.length dst s'.fr)=r.v.map (z7 s.up.length dst s.fr)∧Lo W s {s with fr:=zu dst r.rows 0 s.fr} s' {s' with fr:=zu dst r.rows 0 s'.fr}:=by
 have hf:z9 s'.fr (dst*64+40)=z9 s.fr (dst*64+40):=by
  rw [zEz,zEz,ha.u,ha.m _ hw]
 refine ⟨by rw [ha.u];exact zGD hs hf,?_⟩
 simp only [zCr,Bool.and_eq_true] at hs
 have h1:=hs.1
 split at h1
 ·rename_i he;rw [he];exact Lo.refl ha
 ·rename_i B he
  rw [he]
  have hn:∀st:St,({st with fr:=zu dst [B] 0 st.fr}:St)=st.set st.up.length (dst*64+40) {B with g:=z9 st.fr (dst*64+40)}:=fun st=>by
   simp [zu,St.set]
  rw [hn,hn,hf,ha.u]
  exact Lo.set ha hw (Nat.le_refl _)
 ·cases h1
theorem zCf {c:CV} {y:PV×St} (h:zAH s c=some y) {p:Nat×Nat} (hp:y.2.within p≠ []):y.2.within p=s.within p:=by
 unfold zAH at h
 split at h
 ·cases h;rfl
 ·rename_i d n g m
  split at h
  ·rename_i g' sz ty rows hB
   split at h
   ·cases h
    unfold St.within at hp⊢
    simp only at hp⊢
    rw [zCc (zAI hB)] at hp⊢
    by_cases e:p=(d,n)
    ·rw [if_pos e] at hp;exact absurd rfl hp
    ·rw [if_neg e]
   ·cases h
  ·cases h
 ·cases h
theorem zCg:∀{l:List CV} {s:St} {y:List PV×St},zq s l=some y→∀{p:Nat×Nat},y.2.within p≠ []→y.2.within p=s.within p
 | [],s,y,h,p,hp=>by cases h;rfl
 |x::r,s,y,h,p,hp=>by
  simp only [zq,zN,zM] at h
  obtain ⟨⟨a,s1⟩,h1,⟨b,s2⟩,h2,rfl⟩:=h
  have e2:=zCg h2 hp
  simp only at e2 hp⊢
  rw [e2] at hp⊢
  exact zCf h1 hp
theorem zB3:∀{l:List AV} {s:St} {y:List AV×St},zw s l=some y→∀{p:Nat×Nat},y.2.within p≠ []→y.2.within p=s.within p
 | [],s,y,h,p,hp=>by cases h;rfl
 |x::r,s,y,h,p,hp=>by
  simp only [zw,zN,zL] at h
  obtain ⟨⟨a,s1⟩,h1,⟨b,s2⟩,h2,rfl⟩:=h
  have e2:=zB3 h2 hp
  simp only at e2 hp⊢
  rw [e2] at hp⊢
  cases x with
  |c x=>
   simp only [z8,zL,Prod.exists,Prod.mk.injEq] at h1
   obtain ⟨q,z,h3,_,rfl⟩:=h1
   exact zCf h3 hp
  |agg cs=>
   simp only [z8,zL,Prod.exists,Prod.mk.injEq] at h1
   obtain ⟨q,z,h3,_,rfl⟩:=h1
   exact zCg h3 hp
  |tup vs=>cases h1
theorem zA7 {W:List (Nat×Nat)} {base:Nat}:∀(l:List (Nat×TypeId×Nat)) (i:Nat) (cs:List CV) (s s':St),Agr W s s'→(∀j,i≤j→j<i+l.length→(s.up.length,base+j)∈W)→(∀p∈cs.flatMap CV.refs,p∈W)→
  (zS base l i cs s').1=(zS base l i cs s).1∧Lo W s (zS base l i cs s).2 s' (zS base l i cs s').2∧∀p∈(zS base l i cs s).1.flatMap CV.refs,p∈W
 | [],i,cs,s,s',ha,hs,hx=>⟨rfl,Lo.refl ha,hx⟩
 |(col,ty,sz)::r,i,cs,s,s',ha,hs,hx=>by
  unfold zS
  by_cases hn:zHr (cs[col]?)=true
  ·have hm:=hs i (Nat.le_refl _) (by simp)
   obtain ⟨e,l1⟩:=zAd (n:=base+i) (sz:=sz) (ty:=ty) (k:= .row []) ha hm
   have hf:s'.fresh (base+i)=s.fresh (base+i):=by simp only [St.new,CV.ptr.injEq] at e;exact e.2.2.1
   rw [if_pos hn,if_pos hn,hf,ha.u]
   obtain ⟨q1,q2,q3⟩:=zA7 (base:=base) r (i+1) (cs.set col (.own s.up.length (base+i) (s.fresh (base+i)) 0)) (s.new (base+i) sz ty (.row [])).2 (s'.new (base+i) sz ty (.row [])).2 (l1.agr ha) (fun j h1 h2=>by rw [l1.u];exact hs j (by omega) (by simp;omega)) (fun p hp=>by
    obtain ⟨c,hc,hp⟩:=List.mem_flatMap.1 hp
    rcases List.mem_or_eq_of_mem_set hc with hc|rfl
    ·exact hx p (List.mem_flatMap.2 ⟨c,hc,hp⟩)
    ·simp only [CV.refs,List.mem_singleton] at hp
     rw [hp]
     exact hm)
   exact ⟨q1,l1.trans q2,q3⟩
  ·rw [if_neg hn,if_neg hn]
   exact zA7 r (i+1) cs s s' ha (fun j h1 h2=>hs j (by omega) (by simp;omega)) hx
theorem zD7 {cols:List (Nat×Nat×TypeId)}:∀{xs:List CV} {o:Nat} {ys:List PV} {k esz ety d n g m:Nat},zFF cols o xs=some (ys,some (k,esz,ety,d,n,g,m))→(d,n)∈xs.flatMap CV.refs
 | [],o,ys,k,esz,ety,d,n,g,m,h=>by simp [zFF] at h
 |x::r,o,ys,k,esz,ety,d,n,g,m,h=>by
  simp only [zFF,zN,Prod.exists] at h
  obtain ⟨l,q1,h1,h⟩:=h
  split at h
  ·simp only [zM,Prod.mk.injEq] at h
   obtain ⟨_,rfl⟩:=h
   exact List.mem_flatMap.2 (let ⟨c,h2,h3⟩:=List.mem_flatMap.1 (zD7 h1);⟨c,List.mem_cons_of_mem _ h2,h3⟩)
  ·simp only [zM,Prod.mk.injEq] at h
   obtain ⟨_,rfl⟩:=h
   exact List.mem_flatMap.2 (let ⟨c,h2,h3⟩:=List.mem_flatMap.1 (zD7 h1);⟨c,List.mem_cons_of_mem _ h2,h3⟩)
  ·simp only [zM,Prod.mk.injEq] at h
   obtain ⟨_,_,_,_,rfl,rfl,_⟩:=h
   exact List.mem_flatMap.2 ⟨_,List.mem_cons_self ..,by simp [CV.refs]⟩
  ·cases h
theorem zJL {s s1 s':St} {W:List (Nat×Nat)} {d n g m ty sz bytes:Nat} {y v:AV} (h:zEX s d n g m ty sz bytes y=some (v,s1)) (hw:Agr W s s') (hu:s'.up.length=s.up.length) (hm:(d,n)∈W) (hy:∀p∈y.refs,s'.get p.1 p.2=s.get p.1 p.2)
  (hi:∀q∈y.refs,∀p∈s.within q,p∈W):∃z,zEX s' d n g m ty sz bytes y=some (v,z)∧Lo W s s1 s' z:=by
 unfold zEX at h⊢
 split at h
 ·rename_i d2 n2 g2 m2
  have hr2:(d2,n2)∈(AV.c (.own d2 n2 g2 m2)).refs:=by simp [zk,CV.refs]
  rw [show s'.get d n=s.get d n from hw.m _ hm,show s'.get d2 n2=s.get d2 n2 from hy _ hr2]
  split at h
  ·rename_i g' sz' ty' cols rows g2' sz2 ty2 cells hB hY
   simp only
   split at h
   ·rename_i hc
    rw [if_pos hc]
    obtain ⟨⟨ys,q⟩,hq,h⟩:=Option.bind_eq_some_iff.1 h
    rw [hq]
    simp only [zG] at h⊢
    cases q with
    |none=>
     simp only at h⊢
     cases h
     exact ⟨_,rfl,Lo.set hw hm (zAI hB)⟩
    |some t=>
     obtain ⟨k,esz,ety,d3,n3,g3,m3⟩:=t
     simp only at h⊢
     have h3:(d3,n3)∈W:=hi _ hr2 _ (by unfold St.within;simp only [hY];exact zD7 hq)
     rw [show s'.get d3 n3=s.get d3 n3 from hw.m _ h3]
     split at h
     ·rename_i g3' esz' ety' rows3 hR
      split at h
      ·rename_i hc3
       rw [if_pos hc3]
       cases h
       have l1:=Lo.set (B:=⟨g3+1,esz,ety,.dead⟩) hw h3 (zAI hR)
       have hle:d≤(s.set d3 n3 ⟨g3+1,esz,ety,.dead⟩).up.length:=by rw [l1.u];exact zAI hB
       exact ⟨_,rfl,l1.trans (Lo.set (l1.agr hw) hm hle)⟩
      ·cases h
     ·cases h
   ·cases h
  ·cases h
 ·cases h
theorem zK3 {k:KOp} {v:AV} (h:zC run s dst k=some (v,s1)) (ht:∀x:KX,(∀n∈x.uses,n∈k.uses)→s'.eval x=s.eval x) (ha:Agr (rtO s k++wtO s dst k) s s'):
  ∃z,zC run s' dst k=some (v,z)∧Lo (wtO s dst k) s s1 s' z:=by
 have hw:Agr (wtO s dst k) s s':=ha.sub fun p hp=>List.mem_append_right _ hp
 have hr:Agr (rtO s k) s s':=ha.sub fun p hp=>List.mem_append_left _ hp
 have self:∀{A:List Nat},∀n∈A,n∈A:=fun n h=>h
 have lft:∀{A B:List Nat},∀n∈A,n∈A++B:=fun n h=>List.mem_append_left _ h
 have rgt:∀{A B:List Nat},∀n∈B,n∈A++B:=fun n h=>List.mem_append_right _ h
 have hu:s'.up.length=s.up.length:=ha.u
 cases k with
 |mv x=>simp only [zC] at h⊢;cases h;exact ⟨s',by rw [ht x self],Lo.refl hw⟩
 |mvR x=>
  simp only [zC] at h⊢
  rw [ht x self]
  split at h
  ·rename_i d n g m hx
   have hin:(d,n)∈wtO s dst (.mvR x):=List.mem_cons_of_mem _ (by rw [St.refs,hx,zk];simp [CV.refs])
   rw [hu,show s'.get d n=s.get d n from hw.m _ hin]
   split at h
   ·rename_i hc
    rw [if_pos hc]
    split at h
    ·rename_i g' sz ty k hB
     split at h
     ·rename_i hg
      rw [if_pos hg]
      cases h
      have l1:=Lo.set (B:=⟨g+1,sz,ty,.dead⟩) hw hin (zAI hB)
      have hup:(s.set d n ⟨g+1,sz,ty,.dead⟩).up.length=s.up.length:=l1.u
      obtain ⟨e2,l2⟩:=zAd (n:=dst*64) (sz:=sz) (ty:=ty) (k:=k) (l1.agr hw) (by rw [hup];exact List.mem_cons_self ..)
      simp only [St.new,CV.ptr.injEq] at e2
      exact ⟨_,by rw [e2.2.2.1],l1.trans l2⟩
     ·cases h
    ·cases h
   ·rename_i hc
    rw [if_neg hc]
    cases h
    exact ⟨s',rfl,Lo.refl hw⟩
  ·cases h
   rename_i hno
   exact ⟨s',rfl,Lo.refl hw⟩
 |nil ty sz cols=>
  simp only [zC] at h⊢
  cases h
  obtain ⟨e,l⟩:=zAd (n:=dst*64) (sz:=sz) (ty:=ty) (k:=zDk cols []) hw (List.mem_singleton.2 rfl)
  simp only [St.new,CV.ptr.injEq] at e
  exact ⟨_,by rw [hu,e.2.2.1],l⟩
 |pick c a b=>
  simp only [zC] at h⊢
  rw [ht c (fun n h=>lft _ (lft n h)),ht a (fun n h=>lft _ (rgt n h)),ht b (fun n h=>rgt _ h)]
  split at h
  ·cases h;exact ⟨s',rfl,Lo.refl hw⟩
  ·cases h
 |box ty sz x=>
  simp only [zC] at h⊢
  rw [ht x self]
  split at h
  ·cases h
  ·rename_i hx
   split at h
   ·rename_i hc
    cases h
    obtain ⟨e,l⟩:=zAd (n:=dst*64) (sz:=sz) (ty:=ty) (k:= .box (s.eval x).cvs) hw (List.mem_singleton.2 rfl)
    exact ⟨_,by rw [hu,if_pos hc,e],l⟩
   ·cases h
 |boxN ty sz x col ety esz=>
  simp only [zC] at h⊢
  rw [ht x self]
  split at h
  ·cases h
  ·rename_i hx
   split at h
   ·rename_i hc
    cases h
    obtain ⟨e1,l1⟩:=zAd (n:=dst*64+1) (sz:=esz) (ty:=ety) (k:= .row []) hw (List.mem_cons_of_mem _ (List.mem_singleton.2 rfl))
    have hf:s'.fresh (dst*64+1)=s.fresh (dst*64+1):=by simp only [St.new,CV.ptr.injEq] at e1;exact e1.2.2.1
    obtain ⟨e,l⟩:=zAd (n:=dst*64) (sz:=sz) (ty:=ty) (k:= .box ((s.eval x).cvs.set col (.own s.up.length (dst*64+1) (s.fresh (dst*64+1)) 0))) (l1.agr hw) (by rw [l1.u];exact List.mem_cons_self ..)
    exact ⟨_,by rw [hu,if_pos hc,hf,e],l1.trans l⟩
   ·cases h
 |build zero parts=>
  simp only [zC,zL] at h⊢
  obtain ⟨cs,h1,h⟩:=h
  cases h
  refine ⟨s',⟨cs,?_,rfl⟩,Lo.refl hw⟩
  rw [←h1]
  refine zJK (List.map_congr_left fun p hp=>?_)
  rw [ht p.2.2 fun n hn=>List.mem_flatMap.2 ⟨p,hp,hn⟩]
 |bslice ty sz len cols zero parts=>
  simp only [zC,zN] at h⊢
  obtain ⟨rows,h1,h⟩:=h
  have hp:(parts.map fun (p:Nat×KX)=>(p.1,s'.eval p.2))=parts.map fun p=>(p.1,s.eval p.2):=List.map_congr_left fun p hp=>by
   rw [ht p.2 fun n hn=>List.mem_flatMap.2 ⟨p,hp,hn⟩]
  have hin:∀p∈rows.flatMap (·.flatMap CV.refs),p∈wtO s dst (.bslice ty sz len cols zero parts):=fun p hp=>by
   rcases zEy h1 p hp with h2|h2
   ·obtain ⟨e,he,h2⟩:=List.mem_flatMap.1 h2
    obtain ⟨c,hc,h2⟩:=List.mem_flatMap.1 h2
    obtain ⟨e0,he0,rfl⟩:=List.mem_map.1 he
    obtain ⟨q,hq,rfl⟩:=List.mem_map.1 hc
    cases h2
   ·refine List.mem_cons_of_mem _ ?_
    obtain ⟨q,hq,h2⟩:=List.mem_flatMap.1 h2
    obtain ⟨q0,hq0,rfl⟩:=List.mem_map.1 hq
    exact List.mem_flatMap.2 ⟨q0,hq0,h2⟩
  split at h
  ·rename_i rs s0 hf
   cases h
   unfold frz at hf
   split at hf
   ·rename_i hcl
    obtain ⟨z,e,l⟩:=zAw hf hw hin
    obtain ⟨e1,l1⟩:=zAd (n:=dst*64) (sz:=sz) (ty:=ty) (k:=bsK cols len rs) (l.agr hw) (by rw [l.u];exact List.mem_cons_self ..)
    refine ⟨_,⟨rows,by rw [←h1,←hp],?_⟩,l.trans l1⟩
    simp only [St.new,CV.ptr.injEq] at e1
    simp only [frz,if_pos hcl,e,e1.1,e1.2.2.1]
   ·cases hf
  ·rename_i hf
   split at h
   ·rename_i hd
    cases h
    have hf':frz cols len s' rows=none:=by
     unfold frz at hf⊢
     split
     ·rename_i hcl
      rw [if_pos hcl] at hf
      cases hq:zZ s' rows with
      |none=>rfl
      |some y=>
       obtain ⟨z,e,_⟩:=zAw hq ⟨hu.symm,fun p hp=>(hw.m p hp).symm⟩ hin
       rw [hf] at e
       cases e
     ·rfl
    obtain ⟨e1,l1⟩:=zAd (n:=dst*64) (sz:=sz) (ty:=ty) (k:= .box rows.flatten) hw (List.mem_cons_self ..)
    refine ⟨_,⟨rows,by rw [←h1,←hp],?_⟩,l1⟩
    simp only [St.new,CV.ptr.injEq] at e1
    simp only [hf',hu,if_pos hd,e1.2.2.1]
   ·cases h
 |load g n ks a=>
  simp only [zC,zN,zL] at h⊢
  obtain ⟨cs,h1,w,h2,h⟩:=h
  cases h
  exact ⟨s',⟨cs,by rw [ht a self,zKK hr fun p hp=>hp];exact h1,_,h2,rfl⟩,Lo.refl hw⟩
 |store n a x=>
  simp only [zC] at h⊢
  rw [ht x rgt,ht a lft]
  split at h
  ·cases h
  ·rename_i hx
   split at h
   ·rename_i hc
    obtain ⟨y,h1,h⟩:=Option.map_eq_some_iff.1 h
    cases h
    obtain ⟨z,e,l⟩:=zC4 h1 hw (fun p hp=>List.mem_append_left _ hp) (fun p hp=>List.mem_append_right _ hp)
    exact ⟨z,by rw [if_pos hc,e];rfl,l⟩
   ·cases h
 |storeN n base cols a x=>
  simp only [zC] at h⊢
  rw [ht x rgt,ht a lft]
  split at h
  ·cases h
  ·rename_i hx
   split at h
   ·rename_i hc
    obtain ⟨y,h1,h⟩:=Option.map_eq_some_iff.1 h
    cases h
    obtain ⟨q1,l1,q2⟩:=zA7 (base:=base) cols 1 (s.eval x).cvs s s' hw (fun j h1 h2=>List.mem_append_right _ (List.mem_map.2 ⟨j-1,List.mem_range.2 (by omega),by rw [show j-1+1=j by omega]⟩)) (fun p hp=>List.mem_append_left _ (List.mem_append_right _ hp))
    obtain ⟨z,e,l⟩:=zC4 h1 (l1.agr hw) (fun p hp=>List.mem_append_left _ (List.mem_append_left _ hp)) q2
    exact ⟨z,by rw [if_pos hc,q1,e];rfl,l1.trans l⟩
   ·cases h
 |storeB base ety a x=>
  simp only [zC] at h⊢
  rw [ht x rgt,ht a lft]
  split at h
  ·rename_i hea hev
   obtain ⟨y,h1,h⟩:=Option.map_eq_some_iff.1 h
   cases h
   obtain ⟨q1,l1,q2⟩:=zA7 (base:=base) [(1,ety,1)] 1 [.p .np,.p .nl] s s' hw (fun j h1 h2=>List.mem_append_right _ (List.mem_singleton.2 (by simp at h2;rw [show j=1 by omega]))) (fun p hp=>by simp [CV.refs] at hp)
   obtain ⟨z,e,l⟩:=zC4 h1 (l1.agr hw) (fun p hp=>List.mem_append_left _ (List.mem_append_left _ (by rw [St.refs,hea];exact hp))) (fun p hp=>by
    obtain ⟨c,hc,hp⟩:=List.mem_flatMap.1 hp
    rcases List.mem_or_eq_of_mem_set hc with hc|rfl
    ·exact q2 p (List.mem_flatMap.2 ⟨c,hc,hp⟩)
    ·exact List.mem_append_left _ (List.mem_append_left _ (by rw [St.refs,hea,zk];exact hp)))
   exact ⟨z,by rw [q1,e];rfl,l1.trans l⟩
  ·cases h
 |chk x=>
  simp only [zC] at h⊢
  rw [ht x self]
  split at h
  ·rename_i d n g j o hx
   rw [show s'.get d n=s.get d n from hr.m (d,n) (by simp [rtO,St.refs,hx,zk,CV.refs])]
   split at h
   ·rename_i hc
    cases h
    exact ⟨s',by rw [if_pos hc],Lo.refl hw⟩
   ·cases h
  ·cases h;exact ⟨s',rfl,Lo.refl hw⟩
  ·cases h;exact ⟨s',rfl,Lo.refl hw⟩
  ·cases h
 |bin op x y=>
  simp only [zC] at h⊢
  rw [ht x lft,ht y rgt]
  split at h
  ·obtain ⟨r,h1,h⟩:=Option.map_eq_some_iff.1 h
   cases h
   exact ⟨s',by rw [h1];rfl,Lo.refl hw⟩
  ·cases h
 |eqs neg tags x y=>
  simp only [zC] at h⊢
  rw [ht x lft,ht y rgt]
  split at h
  ·obtain ⟨r,h1,h⟩:=Option.map_eq_some_iff.1 h
   cases h
   exact ⟨s',by rw [h1];rfl,Lo.refl hw⟩
  ·cases h
 |beq neg x y=>
  simp only [zC] at h⊢
  rw [ht x lft,ht y rgt]
  split at h
  ·cases h;exact ⟨s',rfl,Lo.refl hw⟩
  ·cases h
 |inil neg x=>
  simp only [zC] at h⊢
  rw [ht x self]
  split at h
  ·cases h;exact ⟨s',rfl,Lo.refl hw⟩
  ·cases h;exact ⟨s',rfl,Lo.refl hw⟩
  ·cases h
 |un op x=>
  simp only [zC] at h⊢
  rw [ht x self]
  split at h
  ·obtain ⟨r,h1,h⟩:=Option.map_eq_some_iff.1 h
   cases h
   exact ⟨s',by rw [h1];rfl,Lo.refl hw⟩
  ·cases h
 |conv k x=>
  simp only [zC] at h⊢
  rw [ht x self]
  split at h
  ·cases h;exact ⟨s',rfl,Lo.refl hw⟩
  ·cases h
 |str x=>
  simp only [zC] at h⊢
  rw [ht x self]
  split at h
  ·cases h;exact ⟨s',rfl,Lo.refl hw⟩
  ·cases h
 |toStr x=>
  simp only [zC,zN,zL] at h⊢
  obtain ⟨rows,h1,l,h2,h⟩:=h
  cases h
  exact ⟨s',⟨rows,by rw [ht x self,zHf hr fun p hp=>hp];exact h1,l,h2,rfl⟩,Lo.refl hw⟩
 |mkfn f caps=>
  simp only [zC,zL] at h⊢
  obtain ⟨cs,h1,h⟩:=h
  cases h
  exact ⟨s',⟨cs,by rw [zDe ht self];exact h1,rfl⟩,Lo.refl hw⟩
 |mksl ty sz bytes cols zero l c=>
  simp only [zC,zN] at h⊢
  rw [ht l lft,ht c rgt]
  obtain ⟨i,h1,j,h2,h⟩:=h
  split at h
  ·rename_i hc
   cases h
   obtain ⟨e,l⟩:=zAd (n:=dst*64) (sz:=sz) (ty:=ty) (k:=zDk cols (zAS zero i.toNat)) hw (List.mem_singleton.2 rfl)
   simp only [St.new,CV.ptr.injEq] at e
   exact ⟨_,⟨i,h1,j,h2,by rw [if_pos hc,hu,e.2.2.1]⟩,l⟩
  ·cases h
 |slcS x lo hi=>
  have hb:∀(q:Option KX),(∀n∈(match q with|some l=>l.uses|none=> []),n∈(KOp.slcS x lo hi).uses)→∀d,s'.bound d q=s.bound d q:=fun q hq d=>by
   cases q with
   |none=>rfl
   |some y=>simp only [St.bound];rw [ht y hq]
  simp only [zC] at h⊢
  rw [ht x (fun n h=>lft _ (lft n h))]
  split at h
  ·simp only [zN] at h⊢
   obtain ⟨l,h1,u,h2,h⟩:=h
   split at h
   ·rename_i hc
    cases h
    exact ⟨s',⟨l,by rw [hb lo fun n h=>lft _ (rgt n h)];exact h1,u,by rw [hb hi fun n h=>rgt _ h];exact h2,by rw [if_pos hc]⟩,Lo.refl hw⟩
   ·cases h
  ·cases h
 |slc sz x lo hi=>
  have hb:∀(q:Option KX),(∀n∈(match q with|some l=>l.uses|none=> []),n∈(KOp.slc sz x lo hi).uses)→∀d,s'.bound d q=s.bound d q:=fun q hq d=>by
   cases q with
   |none=>rfl
   |some y=>simp only [St.bound];rw [ht y hq]
  simp only [zC] at h⊢
  rw [ht x (fun n h=>lft _ (lft n h))]
  split at h
  ·simp only [zN] at h⊢
   obtain ⟨l,h1,u,h2,h⟩:=h
   split at h
   ·rename_i hc
    cases h
    exact ⟨s',⟨l,by rw [hb lo fun n h=>lft _ (rgt n h)];exact h1,u,by rw [hb hi fun n h=>rgt _ h];exact h2,by rw [if_pos hc]⟩,Lo.refl hw⟩
   ·cases h
  ·cases h
 |faddr off x=>
  simp only [zC] at h⊢
  rw [ht x self]
  split at h
  ·rename_i d n g j o hx
   rw [show s'.get d n=s.get d n from hr.m (d,n) (by simp [rtO,St.refs,hx,zk,CV.refs])]
   split at h
   ·rename_i hc
    cases h
    exact ⟨s',by rw [if_pos hc],Lo.refl hw⟩
   ·cases h
  ·cases h;exact ⟨s',rfl,Lo.refl hw⟩
  ·cases h
 |field g off n x=>
  simp only [zC] at h⊢
  rw [ht x self]
  split at h
  ·split at h
   ·rename_i hc
    obtain ⟨r,h1,h⟩:=Option.map_eq_some_iff.1 h
    cases h
    exact ⟨s',by rw [if_pos hc,h1];rfl,Lo.refl hw⟩
   ·cases h
  ·cases h
 |iaddr sz x i=>
  simp only [zC,zN] at h⊢
  rw [ht x lft,ht i rgt]
  obtain ⟨j,h1,h⟩:=h
  refine Exists.elim (?_:∃z,_∧Lo (wtO s dst (.iaddr sz x i)) s s1 s' z) fun z hz=>⟨z,⟨j,h1,hz.1⟩,hz.2⟩
  split at h
  ·split at h
   ·rename_i hc
    split at h
    ·rename_i e he
     split at h
     ·rename_i hl
      cases h
      exact ⟨s',by rw [if_pos hc];simp only [he,hl,if_true],Lo.refl hw⟩
     ·cases h
    ·cases h
   ·cases h
  ·rename_i d n g m hx
   rw [show s'.get d n=s.get d n from hr.m (d,n) (by simp [rtO,St.refs,hx,zk,CV.refs])]
   split at h
   ·split at h
    ·rename_i hc
     cases h
     exact ⟨s',by rw [if_pos hc],Lo.refl hw⟩
    ·cases h
   ·split at h
    ·rename_i hc
     cases h
     exact ⟨s',by rw [if_pos hc],Lo.refl hw⟩
    ·cases h
   ·split at h
    ·rename_i hc
     cases h
     exact ⟨s',by rw [if_pos hc],Lo.refl hw⟩
    ·cases h
   ·cases h
  ·cases h
 |index x i=>
  simp only [zC,zN] at h⊢
  rw [ht x lft,ht i rgt]
  obtain ⟨j,h1,h⟩:=h
  refine Exists.elim (?_:∃z,_∧Lo (wtO s dst (.index x i)) s s1 s' z) fun z hz=>⟨z,⟨j,h1,hz.1⟩,hz.2⟩
  split at h
  ·split at h
   ·rename_i hc
    split at h
    ·rename_i c he
     cases h
     exact ⟨s',by rw [if_pos hc],Lo.refl hw⟩
    ·cases h
   ·cases h
  ·cases h
 |ext x i=>
  simp only [zC] at h⊢
  rw [ht x self]
  split at h
  ·split at h
   ·rename_i g cs hq
    obtain ⟨r,h1,h⟩:=Option.map_eq_some_iff.1 h
    cases h
    exact ⟨s',by simp only [hq,h1,Option.map_some],Lo.refl hw⟩
   ·cases h
  ·cases h
 |app ty sz bytes x y=>
  simp only [zC] at h⊢
  rw [ht x lft,ht y rgt,zHf (a:=s.eval y) hr fun p hp=>hp]
  split at h
  ·split at h
   ·rename_i hc
    cases h
    obtain ⟨e,l⟩:=zAd (n:=dst*64) (sz:=sz) (ty:=ty) (k:= .row _) hw (List.mem_cons_self ..)
    refine ⟨_,?_,l⟩
    simp only [St.new,CV.ptr.injEq] at e
    rw [if_pos hc,hu,e.2.2.1]
   ·cases h
  ·rename_i d n g m ys hx hy
   have hm:(d,n)∈wtO s dst (.app ty sz bytes x y):=List.mem_cons_of_mem _ (List.mem_append_left _ (by simp [St.refs,hx,zk,CV.refs]))
   rw [show s'.get d n=s.get d n from hw.m (d,n) hm]
   split at h
   ·rename_i hB
    split at h
    ·rename_i hc
     cases h
     exact ⟨_,by rw [if_pos hc],Lo.set hw hm (zAI hB)⟩
    ·cases h
   ·cases h
  ·rename_i d n g m hx hy
   have hm:(d,n)∈wtO s dst (.app ty sz bytes x y):=List.mem_cons_of_mem _ (List.mem_append_left _ (by simp [St.refs,hx,zk,CV.refs]))
   exact zJL h hw hr.u hm (fun p hp=>hr.m p hp) (fun q hq p hp=>List.mem_cons_of_mem _ (List.mem_append_right _ (List.mem_flatMap.2 ⟨q,hq,hp⟩)))
  ·cases h
 |len str x=>
  cases str with
  |true=>
   simp only [zC] at h⊢
   rw [ht x self]
   split at h
   ·cases h;exact ⟨s',rfl,Lo.refl hw⟩
   ·cases h
  |false=>
   simp only [zC] at h⊢
   rw [ht x self]
   split at h
   ·cases h;exact ⟨s',rfl,Lo.refl hw⟩
   ·cases h;exact ⟨s',rfl,Lo.refl hw⟩
   ·rename_i d n g m hx
    rw [show s'.get d n=s.get d n from hr.m (d,n) (by simp [rtO,St.refs,hx,zk,CV.refs])]
    split at h
    ·rename_i hc
     cases h
     exact ⟨s',by rw [if_pos hc],Lo.refl hw⟩
    ·cases h
   ·rename_i d n g _ _ m _ hx
    rw [show s'.get d n=s.get d n from hr.m (d,n) (by simp [rtO,St.refs,hx,zk,CV.refs])]
    split at h
    ·rename_i hc
     cases h
     exact ⟨s',by rw [if_pos hc],Lo.refl hw⟩
    ·cases h
   ·cases h
 |mm mx xs=>
  simp only [zC,zL] at h⊢
  obtain ⟨r,h1,h⟩:=h
  cases h
  exact ⟨s',⟨r,by rw [zDe ht self];exact h1,rfl⟩,Lo.refl hw⟩
 |call borrow f args=>
  simp only [zC] at h⊢
  rw [ht f lft,zDe ht rgt]
  split at h
  ·rename_i g caps hf
   cases borrow with
   |true=>
    simp only [zAq,if_true,zN] at h⊢
    obtain ⟨⟨as,lent⟩,h1,r,h2,h⟩:=h
    split at h
    ·rename_i hc
     cases h
     obtain ⟨e,l⟩:=zIE (dst:=dst) hc.2 hw (List.mem_singleton.2 rfl)
     exact ⟨_,⟨(as,lent),by rw [zEw hr (fun p hp=>List.mem_append_left _ (zBq hf p hp)) (fun p hp=>List.mem_append_right _ (by obtain ⟨q,hq,hp⟩:=List.mem_flatMap.1 hp;exact List.mem_flatMap.2 ⟨q,zBq hf q hq,hp⟩))];exact h1,r,h2,by rw [if_pos hc,e]⟩,l⟩
    ·cases h
   |false=>
    simp only [zAq,Bool.false_eq_true,if_false,zN] at h⊢
    obtain ⟨⟨as,d,n,q,B⟩,h1,r,h2,h⟩:=h
    have hin:=zBq (args:=args) hf
    obtain ⟨z,e,l⟩:=zIB h hw (hin _ (zEx h1).1)
    exact ⟨z,⟨(as,d,n,q,B),by rw [zGC hw hin];exact h1,r,h2,e⟩,l⟩
  ·cases h
 |callN f args=>
  simp only [zC] at h⊢
  rw [ht f lft,zDe ht rgt]
  split at h
  ·rename_i g caps hf
   have hin:=zBq (args:=args) hf
   have h1:∀p∈(args.map s.eval++caps.map Cap.av).flatMap AV.refs,p∈wtO s dst (.callN f args):=fun p hp=>List.mem_append_left _ (hin p hp)
   have h2:∀p∈((args.map s.eval++caps.map Cap.av).flatMap AV.refs).flatMap s.within,p∈wtO s dst (.callN f args):=fun p hp=>by
    obtain ⟨q,hq,hp⟩:=List.mem_flatMap.1 hp
    exact List.mem_append_right _ (List.mem_flatMap.2 ⟨q,hin q hq,hp⟩)
   cases hq:args.map s.eval++caps.map Cap.av with
   |nil=>rw [hq] at h;cases h
   |cons a0 l0=>
    rw [hq] at h h1 h2
    simp only [callN,zN] at h⊢
    obtain ⟨⟨as,s0⟩,h3,⟨a',q,q2⟩,h4,r,h5,h6⟩:=h
    obtain ⟨k1,k2⟩:=zAX h1
    obtain ⟨z,e,l⟩:=zCd h3 hw k2
    have hwi:∀p∈a0.refs.flatMap s0.within,p∈wtO s dst (.callN f args):=fun p hp=>by
     obtain ⟨b,hb,hp⟩:=List.mem_flatMap.1 hp
     rw [zB3 h3 (List.ne_nil_of_mem hp)] at hp
     exact h2 p (List.mem_flatMap.2 ⟨b,List.mem_flatMap.2 ⟨a0,List.mem_cons_self ..,hb⟩,hp⟩)
    have e4:=zJI h4 (l.agr hw) k1 hwi
    obtain ⟨z2,e6,l6⟩:=zIC h6 (l.agr hw) (k1 _ (zC3 h4).1.1) (hwi _ (zC3 h4).1.2)
    exact ⟨z2,⟨(as,z),e,(a',q,q2),e4,r,h5,e6⟩,l.trans l6⟩
  ·cases h
 |rel same x y=>
  simp only [zC] at h⊢
  rw [ht x lft,ht y rgt,zJJ (a:=s.eval x) hr fun p hp=>List.mem_append_left _ hp,zJJ (a:=s.eval y) hr fun p hp=>List.mem_append_right _ hp]
  split at h
  ·split at h
   ·rename_i hc
    cases h
    exact ⟨s',by rw [if_pos hc],Lo.refl hw⟩
   ·cases h
  ·cases h
end
end Go.Eng

