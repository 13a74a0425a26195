import Derived.Test.YtilkdjfhbahhdaaE19
set_option linter.unusedVariables false
set_option linter.unusedSimpArgs false
namespace Go.Eng
section
variable {run:zh} {s s1 s' s1' s2 s2':St} {W:List (Nat×Nat)} {dst:Nat}
theorem zCc {d n:Nat} {B:Blk} (hd:d≤s.up.length) (p:Nat×Nat):(s.set d n B).get p.1 p.2=if p=(d,n) then some B else s.get p.1 p.2:=by
 unfold St.get
 rw [zJ,zR _ _ (by simp;omega)]
 obtain ⟨a,b⟩:=p
 by_cases h:a=d∧b=n
 ·obtain ⟨rfl,rfl⟩:=h;simp
 ·rw [if_neg h,if_neg (by simpa using h)]
theorem zFR (s:St) (d n:Nat) (B:Blk):(s.set d n B).up.length=s.up.length:=by
 unfold St.set
 split
 ·rfl
 ·exact ze _
theorem zAI {d n:Nat} {B:Blk} (h:s.get d n=some B):d≤s.up.length:=by
 have:=zH h
 simp at this
 omega
structure Agr (W:List (Nat×Nat)) (s s':St):Prop where
 u:s'.up.length=s.up.length
 m:∀p∈W,s'.get p.1 p.2=s.get p.1 p.2
structure Lo (W:List (Nat×Nat)) (s s1 s' s1':St):Prop where
 t:s1.t=s.t
 t':s1'.t=s'.t
 u:s1.up.length=s.up.length
 u':s1'.up.length=s'.up.length
 i:∀p∈W,s1'.get p.1 p.2=s1.get p.1 p.2
 o:∀p,p∉W→s1.get p.1 p.2=s.get p.1 p.2∧s1'.get p.1 p.2=s'.get p.1 p.2
theorem Agr.sub {V:List (Nat×Nat)} (h:Agr W s s') (hv:∀p∈V,p∈W):Agr V s s':=⟨h.u,fun p hp=>h.m p (hv p hp)⟩
theorem Lo.refl (h:Agr W s s'):Lo W s s s' s':=⟨rfl,rfl,rfl,rfl,h.m,fun _ _=>⟨rfl,rfl⟩⟩
theorem Lo.agr (h:Lo W s s1 s' s1') (a:Agr W s s'):Agr W s1 s1':=⟨h.u'.trans (a.u.trans h.u.symm),h.i⟩
theorem Lo.trans (h:Lo W s s1 s' s1') (h':Lo W s1 s2 s1' s2'):Lo W s s2 s' s2':=
 ⟨h'.t.trans h.t,h'.t'.trans h.t',h'.u.trans h.u,h'.u'.trans h.u',h'.i,fun p hp=>⟨(h'.o p hp).1.trans (h.o p hp).1,(h'.o p hp).2.trans (h.o p hp).2⟩⟩
theorem Lo.set (h:Agr W s s') {d n:Nat} {B:Blk} (hw:(d,n)∈W) (hd:d≤s.up.length):Lo W s (s.set d n B) s' (s'.set d n B):=by
 have hd':d≤s'.up.length:=by rw [h.u];exact hd
 refine ⟨zy _ _ _ _,zy _ _ _ _,zFR _ _ _ _,zFR _ _ _ _,fun p hp=>?_,fun p hp=>?_⟩
 ·rw [zCc hd,zCc hd',h.m p hp]
 ·have hne:p≠(d,n):=fun e=>hp (e▸hw)
  rw [zCc hd,zCc hd',if_neg hne,if_neg hne]
  exact ⟨rfl,rfl⟩
theorem zD4 {d n g m:Nat} (ha:Agr W s s') (hs:∀p∈(CV.own d n g m).refs,p∈W):s'.get d n=s.get d n:=ha.m (d,n) (hs _ (List.mem_singleton.2 rfl))
theorem zD5 {d n g j o:Nat} (ha:Agr W s s') (hs:∀p∈(CV.ptr d n g j o).refs,p∈W):s'.get d n=s.get d n:=ha.m (d,n) (hs _ (List.mem_singleton.2 rfl))
theorem zAX {α β:Type} {f:α→List β} {x:α} {r:List α} {W:List β} (h:∀p∈(x::r).flatMap f,p∈W):(∀p∈f x,p∈W)∧∀p∈r.flatMap f,p∈W:=
 ⟨fun p hp=>h p (List.mem_flatMap.2 ⟨x,List.mem_cons_self ..,hp⟩),fun p hp=>by
  obtain ⟨y,hy,hp⟩:=List.mem_flatMap.1 hp
  exact h p (List.mem_flatMap.2 ⟨y,List.mem_cons_of_mem _ hy,hp⟩)⟩
theorem zk {x:CV}:(AV.c x).refs=x.refs:=by simp [AV.refs,AV.cvs]
theorem zDL {c:CV} {y:PV×St} (h:zAH s c=some y) (ha:Agr W s s') (hs:∀p∈c.refs,p∈W):∃z,zAH s' c=some (y.1,z)∧Lo W s y.2 s' z:=by
 unfold zAH at h⊢
 split at h
 ·cases h;exact ⟨s',rfl,Lo.refl ha⟩
 ·rename_i d n g m
  rw [zD4 ha hs]
  split at h
  ·rename_i g' sz ty rows hB
   split at h
   ·rename_i hc
    cases h
    exact ⟨_,by rw [if_pos hc],Lo.set ha (hs _ (List.mem_singleton.2 rfl)) (zAI hB)⟩
   ·cases h
  ·cases h
 ·cases h
theorem zA6:∀{l:List CV} {s s':St} {y:List PV×St},zq s l=some y→Agr W s s'→(∀p∈l.flatMap CV.refs,p∈W)→∃z,zq s' l=some (y.1,z)∧Lo W s y.2 s' z
 | [],s,s',y,h,ha,_=>by cases h;exact ⟨s',rfl,Lo.refl ha⟩
 |x::r,s,s',y,h,ha,hs=>by
  simp only [zq,zN,zM] at h
  obtain ⟨⟨a,s1⟩,h1,⟨b,s2⟩,h2,rfl⟩:=h
  obtain ⟨k1,k2⟩:=zAX hs
  obtain ⟨z1,e1,l1⟩:=zDL h1 ha k1
  obtain ⟨z2,e2,l2⟩:=zA6 h2 (l1.agr ha) k2
  exact ⟨z2,by simp only [zq,e1,zG,e2],l1.trans l2⟩
theorem zAw:∀{l:List (List CV)} {s s':St} {y:List (List PV)×St},zZ s l=some y→Agr W s s'→(∀p∈l.flatMap (·.flatMap CV.refs),p∈W)→∃z,zZ s' l=some (y.1,z)∧Lo W s y.2 s' z
 | [],s,s',y,h,ha,_=>by cases h;exact ⟨s',rfl,Lo.refl ha⟩
 |x::r,s,s',y,h,ha,hs=>by
  simp only [zZ,zN,zM] at h
  obtain ⟨⟨a,s1⟩,h1,⟨b,s2⟩,h2,rfl⟩:=h
  obtain ⟨k1,k2⟩:=zAX hs
  obtain ⟨z1,e1,l1⟩:=zA6 h1 ha k1
  obtain ⟨z2,e2,l2⟩:=zAw h2 (l1.agr ha) k2
  exact ⟨z2,by simp only [zZ,e1,zG,e2],l1.trans l2⟩
theorem zF9 {a:AV} {y:AV×St} (h:z8 s a=some y) (ha:Agr W s s') (hs:∀p∈a.refs,p∈W):∃z,z8 s' a=some (y.1,z)∧Lo W s y.2 s' z:=by
 cases a with
 |c x=>
  simp only [z8,zL] at h
  obtain ⟨⟨p,s1⟩,h1,rfl⟩:=h
  obtain ⟨z,e,l⟩:=zDL h1 ha (by rw [zk] at hs;exact hs)
  exact ⟨z,by simp only [z8,e,Option.map_some],l⟩
 |agg cs=>
  simp only [z8,zL] at h
  obtain ⟨⟨p,s1⟩,h1,rfl⟩:=h
  obtain ⟨z,e,l⟩:=zA6 h1 ha hs
  exact ⟨z,by simp only [z8,e,Option.map_some],l⟩
 |tup vs=>cases h
theorem zCd:∀{l:List AV} {s s':St} {y:List AV×St},zw s l=some y→Agr W s s'→(∀p∈l.flatMap AV.refs,p∈W)→∃z,zw s' l=some (y.1,z)∧Lo W s y.2 s' z
 | [],s,s',y,h,ha,_=>by cases h;exact ⟨s',rfl,Lo.refl ha⟩
 |x::r,s,s',y,h,ha,hs=>by
  simp only [zw,zN,zL] at h
  obtain ⟨⟨a,s1⟩,h1,⟨b,s2⟩,h2,rfl⟩:=h
  obtain ⟨k1,k2⟩:=zAX hs
  obtain ⟨z1,e1,l1⟩:=zF9 h1 ha k1
  obtain ⟨z2,e2,l2⟩:=zCd h2 (l1.agr ha) k2
  exact ⟨z2,by simp only [zw,e1,zG,e2,Option.map_some],l1.trans l2⟩
theorem zJF {c:CV} (ha:Agr W s s') (hs:∀p∈c.refs,p∈W):zDB s' c=zDB s c:=by
 cases c with
 |own d n g m=>simp only [zDB];rw [zD4 ha hs]
 |_=>rfl
theorem zEv (ha:Agr W s s'):∀{l:List CV},(∀p∈l.flatMap CV.refs,p∈W)→zA8 s' l=zA8 s l
 | [],_=>rfl
 |x::r,hs=>by
  obtain ⟨k1,k2⟩:=zAX hs
  simp only [zA8,zJF ha k1,zEv ha k2]
theorem zGv {c:Cap} (ha:Agr W s s') (hs:∀p∈c.refs,p∈W) (hw:∀p∈c.refs.flatMap s.within,p∈W):zAz s' c=zAz s c:=by
 cases c with
 |ptr d n g=>
  simp only [zAz]
  rw [show s'.get d n=s.get d n from ha.m (d,n) (hs _ (List.mem_singleton.2 rfl))]
  split
  ·rename_i g' sz ty cells hB
   rw [zEv (l:=cells) ha fun p hp=>hw p (List.mem_flatMap.2 ⟨(d,n),List.mem_singleton.2 rfl,by unfold St.within;simp only [hB];exact hp⟩)]
  ·rfl
 |_=>rfl
theorem zCI {α:Type} {f:α→List (Nat×Nat)} {g:Nat×Nat→List (Nat×Nat)} {x:α} {r:List α} {W:List (Nat×Nat)} (h:∀p∈((x::r).flatMap f).flatMap g,p∈W):(∀p∈(f x).flatMap g,p∈W)∧∀p∈(r.flatMap f).flatMap g,p∈W:=by
 rw [List.flatMap_cons,List.flatMap_append] at h
 exact ⟨fun p hp=>h p (List.mem_append_left _ hp),fun p hp=>h p (List.mem_append_right _ hp)⟩
theorem zDM (ha:Agr W s s'):∀{l:List Cap},(∀p∈l.flatMap Cap.refs,p∈W)→(∀p∈(l.flatMap Cap.refs).flatMap s.within,p∈W)→zAK s' l=zAK s l
 | [],_,_=>rfl
 |x::r,hs,hw=>by
  obtain ⟨k1,k2⟩:=zAX hs
  obtain ⟨w1,w2⟩:=zCI hw
  simp only [zAK,zGv ha k1 w1,zDM ha k2 w2]
theorem zHe {d n g j o m esz:Nat} (ha:Agr W s s') (hs:∀p∈(CV.sub d n g j o m esz).refs,p∈W):s'.subB d n g j o m esz=s.subB d n g j o m esz:=by
 unfold St.subB
 rw [show s'.get d n=s.get d n from ha.m (d,n) (hs _ (List.mem_singleton.2 rfl))]
theorem zGA {c:CV} (ha:Agr W s s') (hs:∀p∈c.refs,p∈W) (hw:∀p∈c.refs.flatMap s.within,p∈W):zAo s' c=zAo s c:=by
 cases c with
 |own d n g m=>simp only [zAo];rw [zD4 ha hs]
 |sub d n g j o m esz=>simp only [zAo];rw [zHe ha hs]
 |fn f caps=>simp only [zAo];rw [zDM (l:=caps) ha hs hw]
 |_=>rfl
theorem zGB (ha:Agr W s s'):∀{l:List CV},(∀p∈l.flatMap CV.refs,p∈W)→(∀p∈(l.flatMap CV.refs).flatMap s.within,p∈W)→zBy s' l=zBy s l
 | [],_,_=>rfl
 |x::r,hs,hw=>by
  obtain ⟨k1,k2⟩:=zAX hs
  obtain ⟨w1,w2⟩:=zCI hw
  simp only [zBy,zGA ha k1 w1,zGB ha k2 w2]
theorem zJG {a:AV} (ha:Agr W s s') (hs:∀p∈a.refs,p∈W) (hw:∀p∈a.refs.flatMap s.within,p∈W):zBS s' a=zBS s a:=by
 cases a with
 |c x=>rw [zk] at hs hw;simp only [zBS];rw [zGA ha hs hw]
 |agg cs=>simp only [zBS];rw [zGB (l:=cs) ha hs hw]
 |tup vs=>rfl
theorem zEw (ha:Agr W s s'):∀{l:List AV},(∀p∈l.flatMap AV.refs,p∈W)→(∀p∈(l.flatMap AV.refs).flatMap s.within,p∈W)→zA9 s' l=zA9 s l
 | [],_,_=>rfl
 |x::r,hs,hw=>by
  obtain ⟨k1,k2⟩:=zAX hs
  obtain ⟨w1,w2⟩:=zCI hw
  simp only [zA9,zJG ha k1 w1,zEw ha k2 w2]
theorem zJH {a:AV} (ha:Agr W s s') (hs:∀p∈a.refs,p∈W):zBA s' a=zBA s a:=by
 unfold zBA
 split
 ·rw [zD4 ha (by rw [zk] at hs;exact hs)]
 ·rw [zHe ha (by rw [zk] at hs;exact hs)]
 ·rw [zD5 ha (by rw [zk] at hs;exact hs)]
 ·rfl
theorem zIA {a a':AV} {d n:Nat} {q:Option (Nat×Nat)} {B:Blk} (h:zBA s a=some (a',d,n,q,B)):(d,n)∈a.refs∧∃B,s.get d n=some B:=by
 unfold zBA at h
 split at h
 ·split at h
  ·split at h
   ·cases h;rw [zk];exact ⟨List.mem_singleton.2 rfl,_, ‹_›⟩
   ·cases h
  ·split at h
   ·cases h;rw [zk];exact ⟨List.mem_singleton.2 rfl,_, ‹_›⟩
   ·cases h
  ·cases h
 ·obtain ⟨q2,hq,h⟩:=Option.map_eq_some_iff.1 h
  cases h
  obtain ⟨_,_,_,_,_,hB,_⟩:=zBp hq
  rw [zk]
  exact ⟨List.mem_singleton.2 rfl,_,hB⟩
 ·split at h
  ·split at h
   ·cases h;rw [zk];exact ⟨List.mem_singleton.2 rfl,_, ‹_›⟩
   ·cases h
  ·cases h
 ·cases h
theorem zGC (ha:Agr W s s'):∀{l:List AV},(∀p∈l.flatMap AV.refs,p∈W)→zAp s' l=zAp s l
 | [],_=>rfl
 |x::r,hs=>by
  obtain ⟨k1,k2⟩:=zAX hs
  simp only [zAp,zJH ha k1,zGC ha k2]
theorem zEx:∀{l l':List AV} {d n:Nat} {q:Option (Nat×Nat)} {B:Blk},zAp s l=some (l',d,n,q,B)→(d,n)∈l.flatMap AV.refs∧∃B,s.get d n=some B
 | [],l',d,n,q,B,h=>by cases h
 |x::r,l',d,n,q,B,h=>by
  simp only [zAp] at h
  split at h
  ·rename_i hb
   obtain ⟨q,_,h⟩:=Option.map_eq_some_iff.1 h
   cases h
   obtain ⟨h1,h2⟩:=zIA hb
   exact ⟨List.mem_flatMap.2 ⟨x,List.mem_cons_self ..,h1⟩,h2⟩
  ·obtain ⟨a,_,h⟩:=Option.bind_eq_some_iff.1 h
   obtain ⟨⟨l2,d2,n2,q2,B2⟩,h1,h⟩:=Option.map_eq_some_iff.1 h
   cases h
   obtain ⟨h3,h4⟩:=zEx h1
   obtain ⟨y,hy,h3⟩:=List.mem_flatMap.1 h3
   exact ⟨List.mem_flatMap.2 ⟨y,List.mem_cons_of_mem _ hy,h3⟩,h4⟩
theorem zC1 {d0 n0 g0:Nat}:∀{l l':List CV} {d n g m:Nat},zBT d0 n0 g0 l=some (l',d,n,g,m)→(d,n)∈l.flatMap CV.refs
 | [],l',d,n,g,m,h=>by cases h
 |x::r,l',d,n,g,m,h=>by
  cases x with
  |p x=>
   simp only [zBT,zL] at h
   obtain ⟨⟨l2,q⟩,h1,h⟩:=h
   cases h
   exact List.mem_flatMap.2 (by obtain ⟨y,hy,h3⟩:=List.mem_flatMap.1 (zC1 h1);exact ⟨y,List.mem_cons_of_mem _ hy,h3⟩)
  |own d' n' g' m'=>
   simp only [zBT] at h
   split at h
   ·cases h;exact List.mem_flatMap.2 ⟨_,List.mem_cons_self ..,List.mem_singleton.2 rfl⟩
   ·cases h
  |ptr d' n' g' j' o'=>
   simp only [zBT] at h
   split at h
   ·obtain ⟨⟨l2,q⟩,h1,h⟩:=Option.map_eq_some_iff.1 h
    cases h
    exact List.mem_flatMap.2 (by obtain ⟨y,hy,h3⟩:=List.mem_flatMap.1 (zC1 h1);exact ⟨y,List.mem_cons_of_mem _ hy,h3⟩)
   ·cases h
  |_=>cases h
theorem zC2 (ha:Agr W s s') {p:Nat×Nat} (hp:p∈W):s'.within p=s.within p:=by
 unfold St.within
 rw [ha.m p hp]
theorem zC3 {a a':AV} {q q2:Nat×Nat×Blk} (h:zCP s a=some (a',q,q2)):((q.1,q.2.1)∈a.refs∧(q2.1,q2.2.1)∈a.refs.flatMap s.within)∧(∃B,s.get q.1 q.2.1=some B)∧∃B,s.get q2.1 q2.2.1=some B:=by
 unfold zCP at h
 split at h
 ·rename_i d n g
  split at h
  ·rename_i g' sz ty cells hB
   obtain ⟨⟨l,d2,n2,g2,m2⟩,h1,h⟩:=Option.bind_eq_some_iff.1 h
   simp only at h
   split at h
   ·rename_i hB2
    split at h
    ·cases h
     refine ⟨⟨by rw [zk];exact List.mem_singleton.2 rfl,List.mem_flatMap.2 ⟨(d,n),by rw [zk];exact List.mem_singleton.2 rfl,?_⟩⟩,⟨_,hB⟩,⟨_,hB2⟩⟩
     unfold St.within
     simp only [hB]
     exact zC1 h1
    ·cases h
   ·cases h
  ·cases h
 ·cases h
theorem zJI {a a':AV} {q q2:Nat×Nat×Blk} (h:zCP s a=some (a',q,q2)) (ha:Agr W s s') (hs:∀p∈a.refs,p∈W) (hs2:∀p∈a.refs.flatMap s.within,p∈W):zCP s' a=some (a',q,q2):=by
 have hm:=(zC3 h).1
 unfold zCP at h⊢
 split at h
 ·rename_i d n g
  rw [zD5 ha (by rw [zk] at hs;exact hs)]
  split at h
  ·rename_i g' sz ty cells hB
   obtain ⟨⟨l,d2,n2,g2,m2⟩,h1,h⟩:=Option.bind_eq_some_iff.1 h
   simp only at h
   have hg:s'.get d2 n2=s.get d2 n2:=by
    have h2:=h
    split at h2
    ·split at h2
     ·cases h2;exact ha.m _ (hs2 _ hm.2)
     ·cases h2
    ·cases h2
   simp only [h1,zG,hg]
   exact h
  ·cases h
 ·cases h
theorem zD6 {D d:Nat} {fr:Frame} {c:CV} (h:isP c=true):z7 D d fr c=c:=by
 cases c<;>first|rfl|cases h
theorem zCe {D d:Nat} {fr:Frame} {v:AV} (h:v.cvs.all isP=true):v.map (z7 D d fr)=v:=by
 have one:∀l:List CV,l.all isP=true→l.map (z7 D d fr)=l:=fun l hl=>by
  conv=>rhs;rw [←List.map_id l]
  exact List.map_congr_left fun c hc=>zD6 (List.all_eq_true.1 hl c hc)
 cases v with
 |c x=>simp only [AV.cvs,List.all_cons,List.all_nil,Bool.and_true] at h;simp only [AV.map,zD6 h]
 |agg cs=>simp only [AV.map,one cs h]
 |tup vs=>
  simp only [AV.map,AV.tup.injEq]
  conv=>rhs;rw [←List.map_id vs]
  refine List.map_congr_left fun p hp=>?_
  obtain ⟨g,cs⟩:=p
  simp only [id,Prod.mk.injEq,true_and]
  refine one cs (List.all_eq_true.2 fun c hc=>List.all_eq_true.1 h c ?_)
  exact List.mem_flatMap.2 ⟨_,hp,hc⟩
theorem zIB {d n:Nat} {q:Option (Nat×Nat)} {B:Blk} {r:Res} {y:AV×St} (h:zBY s dst d n q B r=some y) (ha:Agr W s s') (hw:(d,n)∈W):∃z,zBY s' dst d n q B r=some (y.1,z)∧Lo W s y.2 s' z:=by
 unfold zBY at h⊢
 cases q with
 |some t=>
  obtain ⟨j,o⟩:=t
  simp only at h⊢
  split at h
  ·rename_i fr' hup
   rw [show s'.get d n=s.get d n from ha.m (d,n) hw]
   split at h
   ·rename_i sz' ty' inner' g sz ty cols rows inner hB' hB0 hk
    split at h
    ·rename_i e he
     split at h
     ·rename_i hc
      cases h
      refine ⟨_,?_,Lo.set ha hw (zAI hB0)⟩
      rw [if_pos hc,zCe hc.2.2.2.1,zCe hc.2.2.2.1]
     ·cases h
    ·cases h
   ·cases h
  ·cases h
 |none=>
 simp only at h⊢
 split at h
 ·rename_i fr' hup
  rw [show s'.get d n=s.get d n from ha.m (d,n) hw]
  split at h
  ·rename_i B' B0 hB' hB0
   split at h
   ·rename_i hc
    cases h
    refine ⟨_,?_,Lo.set ha hw (zAI hB0)⟩
    rw [if_pos hc,zCe hc.2.2.2.2.1,zCe hc.2.2.2.2.1]
   ·cases h
  ·cases h
 ·cases h
theorem zIC {q q2:Nat×Nat×Blk} {r:Res} {y:AV×St} (h:zDC s q q2 r=some y) (ha:Agr W s s') (hw:(q.1,q.2.1)∈W) (hw2:(q2.1,q2.2.1)∈W):∃z,zDC s' q q2 r=some (y.1,z)∧Lo W s y.2 s' z:=by
 unfold zDC at h⊢
 split at h
 ·rename_i fr' hup
  rw [show s'.get q.1 q.2.1=s.get q.1 q.2.1 from ha.m _ hw,show s'.get q2.1 q2.2.1=s.get q2.1 q2.2.1 from ha.m _ hw2]
  split at h
  ·rename_i sz ty cells g1 sz2 ty2 rows B0 R0 e1 e2 e3 e4
   split at h
   ·rename_i hc
    obtain ⟨l,hl,h⟩:=Option.map_eq_some_iff.1 h
    cases h
    have l1:=Lo.set (B:=⟨R0.g+1,sz2,ty2,.row rows⟩) ha hw2 (zAI e4)
    refine ⟨_,?_,l1.trans (Lo.set (l1.agr ha) hw (by rw [zFR];exact zAI e3))⟩
    simp only [if_pos hc,hl,Option.map_some]
   ·cases h
  ·cases h
 ·cases h
theorem zKK {a:AV} {n:Nat} (ha:Agr W s s') (hs:∀p∈a.refs,p∈W):s'.read a n=s.read a n:=by
 unfold St.read
 split
 ·rw [zD5 ha (by rw [zk] at hs;exact hs)]
 ·rfl
 ·rfl
theorem zHf {a:AV} (ha:Agr W s s') (hs:∀p∈a.refs,p∈W):s'.rows a=s.rows a:=by
 unfold St.rows
 split
 ·rfl
 ·rfl
 ·rw [zD4 ha (by rw [zk] at hs;exact hs)]
 ·rfl
theorem zJJ {a:AV} (ha:Agr W s s') (hs:∀p∈a.refs,p∈W):s'.blk a=s.blk a:=by
 unfold St.blk
 split
 ·rw [zD5 ha (by rw [zk] at hs;exact hs)]
 ·rfl
 ·rfl
theorem zC4 {a:AV} {xs:List CV} {y:St} (h:s.write a xs=some y) (ha:Agr W s s') (hs:∀p∈a.refs,p∈W) (hx:∀p∈xs.flatMap CV.refs,p∈W):∃z,s'.write a xs=some z∧Lo W s y s' z:=by
 unfold St.write at h⊢
 split at h
 ·rename_i d m g j o
  rw [zk] at hs
  have hw:(d,m)∈W:=hs _ (List.mem_singleton.2 rfl)
  simp only [zD5 ha hs]
  split at h
  ·rename_i g' sz ty cells hB
   split at h
   ·rename_i hc
    cases h
    exact ⟨_,by rw [if_pos hc],Lo.set ha hw (zAI hB)⟩
   ·cases h
  ·rename_i hB
   obtain ⟨⟨ys,s1⟩,h1,h⟩:=Option.bind_eq_some_iff.1 h
   obtain ⟨z,e,l⟩:=zA6 h1 ha hx
   simp only at h
   simp only [e,zG,show z.get d m=s1.get d m from l.i (d,m) hw]
   split at h
   ·rename_i g' sz ty rows hB2
    split at h
    ·rename_i hg
     split at h
     ·rename_i e0 he0
      split at h
      ·rename_i hc
       cases h
       exact ⟨_,by rw [if_pos hg,if_pos hc],l.trans (Lo.set (l.agr ha) hw (zAI hB2))⟩
      ·cases h
     ·cases h
    ·cases h
   ·cases h
  ·rename_i g' sz ty cols rows hB
   obtain ⟨⟨ys,q⟩,h1,h⟩:=Option.bind_eq_some_iff.1 h
   simp only [h1,zG]
   simp only at h
   split at h
   ·rename_i hg
    split at h
    ·rename_i e0 he0
     split at h
     ·rename_i hc
      split at h
      ·cases h
       exact ⟨_,by rw [if_pos hg,if_pos hc],Lo.set ha hw (zAI hB)⟩
      ·rename_i k esz ety d2 n2 g2 m2
       have hw2:(d2,n2)∈W:=by
        obtain ⟨_,_,k3⟩:=zFJ h1
        obtain ⟨_,_,k4⟩:=k3 _ _ _ _ _ _ _ rfl
        exact hx _ (List.mem_flatMap.2 ⟨_,zn k4,List.mem_singleton.2 rfl⟩)
       split at h
       ·rename_i g2' esz' ety' rows2 hR hek
        split at h
        ·rename_i hc2
         cases h
         have l1:=Lo.set (B:=⟨g2+1,esz,ety,.dead⟩) ha hw2 (zAI hR)
         refine ⟨_,?_,l1.trans (Lo.set (l1.agr ha) hw (by rw [zFR];exact zAI hB))⟩
         rw [if_pos hg,if_pos hc,show s'.get d2 n2=s.get d2 n2 from ha.m (d2,n2) hw2,hR,hek]
         simp only
         rw [if_pos hc2]
        ·cases h
       ·cases h
     ·cases h
    ·cases h
   ·cases h
  ·cases h
 ·cases h
theorem zAd {n sz ty:Nat} {k:BK} (ha:Agr W s s') (hw:(s.up.length,n)∈W):(s'.new n sz ty k).1=(s.new n sz ty k).1∧Lo W s (s.new n sz ty k).2 s' (s'.new n sz ty k).2:=by
 have hf:s'.fresh n=s.fresh n:=by
  have h1:∀st:St,st.fresh n=match st.get st.up.length n with|some B=>B.g+1|none=>0:=fun st=>by
   unfold St.fresh St.get zB
   simp
   rfl
  rw [h1,h1,ha.u,ha.m _ hw]
 have hn:∀st:St,(st.new n sz ty k).2=st.set st.up.length n ⟨st.fresh n,sz,ty,k⟩:=fun st=>by
  unfold St.new St.set
  simp
 refine ⟨by simp only [St.new,hf,ha.u],?_⟩
 rw [hn,hn,hf,ha.u]
 exact Lo.set ha hw (Nat.le_refl _)
end
end Go.Eng

