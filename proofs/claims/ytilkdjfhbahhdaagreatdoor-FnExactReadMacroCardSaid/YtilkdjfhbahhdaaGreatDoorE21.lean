import Derived.Test.YtilkdjfhbahhdaaGreatDoorE19
set_option linter.unusedVariables false
set_option linter.unusedSimpArgs false
namespace Go.Eng
section
variable {run:zk} {s s1 s' s1' s2 s2':St} {W:List (Nat×Nat)} {dst:Nat}
theorem zDL {d n:Nat} {B:Blk} (hd:d≤s.up.length) (p:Nat×Nat):(s.set d n B).get p.1 p.2=if p=(d,n) then some B else s.get p.1 p.2:=by
 unfold St.get
 rw [zO,zW _ _ (by simp;omega)]
 obtain ⟨a,b⟩:=p
 by_cases h:a=d∧b=n
 ·obtain ⟨rfl,rfl⟩:=h;simp
 ·rw [if_neg h,if_neg (by simpa using h)]
theorem zGP (s:St) (d n:Nat) (B:Blk):(s.set d n B).up.length=s.up.length:=by
 unfold St.set
 split
 ·rfl
 ·exact zo _
theorem zAx {d n:Nat} {B:Blk} (h:s.get d n=some B):d≤s.up.length:=by
 have:=zM h
 simp at this
 omega
structure Agr (W:List (Nat×Nat)) (s s':St):Prop where
 u:s'.up.length=s.up.length
 m:∀p∈W,s'.get p.1 p.2=s.get p.1 p.2
structure Lo (W:List (Nat×Nat)) (s s1 s' s1':St):Prop where
 t:s1.t=s.t
 t':s1'.t=s'.t
 u:s1.up.length=s.up.length
 u':s1'.up.length=s'.up.length
 i:∀p∈W,s1'.get p.1 p.2=s1.get p.1 p.2
 o:∀p,p∉W→s1.get p.1 p.2=s.get p.1 p.2∧s1'.get p.1 p.2=s'.get p.1 p.2
theorem Agr.sub {V:List (Nat×Nat)} (h:Agr W s s') (hv:∀p∈V,p∈W):Agr V s s':=⟨h.u,fun p hp=>h.m p (hv p hp)⟩
theorem Lo.refl (h:Agr W s s'):Lo W s s s' s':=⟨rfl,rfl,rfl,rfl,h.m,fun _ _=>⟨rfl,rfl⟩⟩
theorem Lo.agr (h:Lo W s s1 s' s1') (a:Agr W s s'):Agr W s1 s1':=⟨h.u'.trans (a.u.trans h.u.symm),h.i⟩
theorem Lo.trans (h:Lo W s s1 s' s1') (h':Lo W s1 s2 s1' s2'):Lo W s s2 s' s2':=
 ⟨h'.t.trans h.t,h'.t'.trans h.t',h'.u.trans h.u,h'.u'.trans h.u',h'.i,fun p hp=>⟨(h'.o p hp).1.trans (h.o p hp).1,(h'.o p hp).2.trans (h.o p hp).2⟩⟩
theorem Lo.set (h:Agr W s s') {d n:Nat} {B:Blk} (hw:(d,n)∈W) (hd:d≤s.up.length):Lo W s (s.set d n B) s' (s'.set d n B):=by
 have hd':d≤s'.up.length:=by rw [h.u];exact hd
 refine ⟨zAQ _ _ _ _,zAQ _ _ _ _,zGP _ _ _ _,zGP _ _ _ _,fun p hp=>?_,fun p hp=>?_⟩
 ·rw [zDL hd,zDL hd',h.m p hp]
 ·have hne:p≠(d,n):=fun e=>hp (e▸hw)
  rw [zDL hd,zDL hd',if_neg hne,if_neg hne]
  exact ⟨rfl,rfl⟩
theorem zEt {d n g m:Nat} (ha:Agr W s s') (hs:∀p∈(CV.own d n g m).refs,p∈W):s'.get d n=s.get d n:=ha.m (d,n) (hs _ (List.mem_singleton.2 rfl))
theorem zEu {d n g j o:Nat} (ha:Agr W s s') (hs:∀p∈(CV.ptr d n g j o).refs,p∈W):s'.get d n=s.get d n:=ha.m (d,n) (hs _ (List.mem_singleton.2 rfl))
theorem zA8 {α β:Type} {f:α→List β} {x:α} {r:List α} {W:List β} (h:∀p∈(x::r).flatMap f,p∈W):(∀p∈f x,p∈W)∧∀p∈r.flatMap f,p∈W:=
 ⟨fun p hp=>h p (List.mem_flatMap.2 ⟨x,List.mem_cons_self ..,hp⟩),fun p hp=>by
  obtain ⟨y,hy,hp⟩:=List.mem_flatMap.1 hp
  exact h p (List.mem_flatMap.2 ⟨y,List.mem_cons_of_mem _ hy,hp⟩)⟩
theorem zAA {x:CV}:(AV.c x).refs=x.refs:=by simp [AV.refs,AV.cvs]
theorem zD5 {c:CV} {y:PV×St} (h:zAs s c=some y) (ha:Agr W s s') (hs:∀p∈c.refs,p∈W):∃z,zAs s' c=some (y.1,z)∧Lo W s y.2 s' z:=by
 unfold zAs at h⊢
 split at h
 ·cases h;exact ⟨s',rfl,Lo.refl ha⟩
 ·rename_i d n g m
  rw [zEt ha hs]
  split at h
  ·rename_i g' sz ty rows hB
   split at h
   ·rename_i hc
    cases h
    exact ⟨_,by rw [if_pos hc],Lo.set ha (hs _ (List.mem_singleton.2 rfl)) (zAx hB)⟩
   ·cases h
  ·cases h
 ·cases h
theorem zBl:∀{l:List CV} {s s':St} {y:List PV×St},zAI s l=some y→Agr W s s'→(∀p∈l.flatMap CV.refs,p∈W)→∃z,zAI s' l=some (y.1,z)∧Lo W s y.2 s' z
 | [],s,s',y,h,ha,_=>by cases h;exact ⟨s',rfl,Lo.refl ha⟩
 |x::r,s,s',y,h,ha,hs=>by
  simp only [zAI,zT,zQ] at h
  obtain ⟨⟨a,s1⟩,h1,⟨b,s2⟩,h2,rfl⟩:=h
  obtain ⟨k1,k2⟩:=zA8 hs
  obtain ⟨z1,e1,l1⟩:=zD5 h1 ha k1
  obtain ⟨z2,e2,l2⟩:=zBl h2 (l1.agr ha) k2
  exact ⟨z2,by simp only [zAI,e1,zC,e2],l1.trans l2⟩
theorem zBd:∀{l:List (List CV)} {s s':St} {y:List (List PV)×St},zj s l=some y→Agr W s s'→(∀p∈l.flatMap (·.flatMap CV.refs),p∈W)→∃z,zj s' l=some (y.1,z)∧Lo W s y.2 s' z
 | [],s,s',y,h,ha,_=>by cases h;exact ⟨s',rfl,Lo.refl ha⟩
 |x::r,s,s',y,h,ha,hs=>by
  simp only [zj,zT,zQ] at h
  obtain ⟨⟨a,s1⟩,h1,⟨b,s2⟩,h2,rfl⟩:=h
  obtain ⟨k1,k2⟩:=zA8 hs
  obtain ⟨z1,e1,l1⟩:=zBl h1 ha k1
  obtain ⟨z2,e2,l2⟩:=zBd h2 (l1.agr ha) k2
  exact ⟨z2,by simp only [zj,e1,zC,e2],l1.trans l2⟩
theorem zG9 {a:AV} {y:AV×St} (h:zAT s a=some y) (ha:Agr W s s') (hs:∀p∈a.refs,p∈W):∃z,zAT s' a=some (y.1,z)∧Lo W s y.2 s' z:=by
 cases a with
 |c x=>
  simp only [zAT,zS] at h
  obtain ⟨⟨p,s1⟩,h1,rfl⟩:=h
  obtain ⟨z,e,l⟩:=zD5 h1 ha (by rw [zAA] at hs;exact hs)
  exact ⟨z,by simp only [zAT,e,Option.map_some],l⟩
 |agg cs=>
  simp only [zAT,zS] at h
  obtain ⟨⟨p,s1⟩,h1,rfl⟩:=h
  obtain ⟨z,e,l⟩:=zBl h1 ha hs
  exact ⟨z,by simp only [zAT,e,Option.map_some],l⟩
 |tup vs=>cases h
theorem zDM:∀{l:List AV} {s s':St} {y:List AV×St},zAN s l=some y→Agr W s s'→(∀p∈l.flatMap AV.refs,p∈W)→∃z,zAN s' l=some (y.1,z)∧Lo W s y.2 s' z
 | [],s,s',y,h,ha,_=>by cases h;exact ⟨s',rfl,Lo.refl ha⟩
 |x::r,s,s',y,h,ha,hs=>by
  simp only [zAN,zT,zS] at h
  obtain ⟨⟨a,s1⟩,h1,⟨b,s2⟩,h2,rfl⟩:=h
  obtain ⟨k1,k2⟩:=zA8 hs
  obtain ⟨z1,e1,l1⟩:=zG9 h1 ha k1
  obtain ⟨z2,e2,l2⟩:=zDM h2 (l1.agr ha) k2
  exact ⟨z2,by simp only [zAN,e1,zC,e2,Option.map_some],l1.trans l2⟩
theorem zKW {c:CV} (ha:Agr W s s') (hs:∀p∈c.refs,p∈W):zDu s' c=zDu s c:=by
 cases c with
 |own d n g m=>simp only [zDu];rw [zEt ha hs]
 |_=>rfl
theorem zFp (ha:Agr W s s'):∀{l:List CV},(∀p∈l.flatMap CV.refs,p∈W)→zBn s' l=zBn s l
 | [],_=>rfl
 |x::r,hs=>by
  obtain ⟨k1,k2⟩:=zA8 hs
  simp only [zBn,zKW ha k1,zFp ha k2]
theorem zHz {c:Cap} (ha:Agr W s s') (hs:∀p∈c.refs,p∈W) (hw:∀p∈c.refs.flatMap s.within,p∈W):zBg s' c=zBg s c:=by
 cases c with
 |ptr d n g=>
  simp only [zBg]
  rw [show s'.get d n=s.get d n from ha.m (d,n) (hs _ (List.mem_singleton.2 rfl))]
  split
  ·rename_i g' sz ty cells hB
   rw [zFp (l:=cells) ha fun p hp=>hw p (List.mem_flatMap.2 ⟨(d,n),List.mem_singleton.2 rfl,by unfold St.within;simp only [hB];exact hp⟩)]
  ·rfl
 |_=>rfl
theorem zC2 {α:Type} {f:α→List (Nat×Nat)} {g:Nat×Nat→List (Nat×Nat)} {x:α} {r:List α} {W:List (Nat×Nat)} (h:∀p∈((x::r).flatMap f).flatMap g,p∈W):(∀p∈(f x).flatMap g,p∈W)∧∀p∈(r.flatMap f).flatMap g,p∈W:=by
 rw [List.flatMap_cons,List.flatMap_append] at h
 exact ⟨fun p hp=>h p (List.mem_append_left _ hp),fun p hp=>h p (List.mem_append_right _ hp)⟩
theorem zD6 (ha:Agr W s s'):∀{l:List Cap},(∀p∈l.flatMap Cap.refs,p∈W)→(∀p∈(l.flatMap Cap.refs).flatMap s.within,p∈W)→zAy s' l=zAy s l
 | [],_,_=>rfl
 |x::r,hs,hw=>by
  obtain ⟨k1,k2⟩:=zA8 hs
  obtain ⟨w1,w2⟩:=zC2 hw
  simp only [zAy,zHz ha k1 w1,zD6 ha k2 w2]
theorem zIo {d n g j o m esz:Nat} (ha:Agr W s s') (hs:∀p∈(CV.sub d n g j o m esz).refs,p∈W):s'.subB d n g j o m esz=s.subB d n g j o m esz:=by
 unfold St.subB
 rw [show s'.get d n=s.get d n from ha.m (d,n) (hs _ (List.mem_singleton.2 rfl))]
theorem zHA {c:CV} (ha:Agr W s s') (hs:∀p∈c.refs,p∈W) (hw:∀p∈c.refs.flatMap s.within,p∈W):zBW s' c=zBW s c:=by
 cases c with
 |own d n g m=>simp only [zBW];rw [zEt ha hs]
 |sub d n g j o m esz=>simp only [zBW];rw [zIo ha hs]
 |fn f caps=>simp only [zBW];rw [zD6 (l:=caps) ha hs hw]
 |_=>rfl
theorem zHB (ha:Agr W s s'):∀{l:List CV},(∀p∈l.flatMap CV.refs,p∈W)→(∀p∈(l.flatMap CV.refs).flatMap s.within,p∈W)→zCm s' l=zCm s l
 | [],_,_=>rfl
 |x::r,hs,hw=>by
  obtain ⟨k1,k2⟩:=zA8 hs
  obtain ⟨w1,w2⟩:=zC2 hw
  simp only [zCm,zHA ha k1 w1,zHB ha k2 w2]
theorem zKX {a:AV} (ha:Agr W s s') (hs:∀p∈a.refs,p∈W) (hw:∀p∈a.refs.flatMap s.within,p∈W):zCB s' a=zCB s a:=by
 cases a with
 |c x=>rw [zAA] at hs hw;simp only [zCB];rw [zHA ha hs hw]
 |agg cs=>simp only [zCB];rw [zHB (l:=cs) ha hs hw]
 |tup vs=>rfl
theorem zFq (ha:Agr W s s'):∀{l:List AV},(∀p∈l.flatMap AV.refs,p∈W)→(∀p∈(l.flatMap AV.refs).flatMap s.within,p∈W)→zBo s' l=zBo s l
 | [],_,_=>rfl
 |x::r,hs,hw=>by
  obtain ⟨k1,k2⟩:=zA8 hs
  obtain ⟨w1,w2⟩:=zC2 hw
  simp only [zBo,zKX ha k1 w1,zFq ha k2 w2]
theorem zKY {a:AV} (ha:Agr W s s') (hs:∀p∈a.refs,p∈W):zBr s' a=zBr s a:=by
 unfold zBr
 split
 ·rw [zEt ha (by rw [zAA] at hs;exact hs)]
 ·rw [zIo ha (by rw [zAA] at hs;exact hs)]
 ·rw [zEu ha (by rw [zAA] at hs;exact hs)]
 ·rfl
theorem zJJ {a a':AV} {d n:Nat} {q:Option (Nat×Nat)} {B:Blk} (h:zBr s a=some (a',d,n,q,B)):(d,n)∈a.refs∧∃B,s.get d n=some B:=by
 unfold zBr at h
 split at h
 ·split at h
  ·split at h
   ·cases h;rw [zAA];exact ⟨List.mem_singleton.2 rfl,_, ‹_›⟩
   ·cases h
  ·split at h
   ·cases h;rw [zAA];exact ⟨List.mem_singleton.2 rfl,_, ‹_›⟩
   ·cases h
  ·cases h
 ·obtain ⟨q2,hq,h⟩:=Option.map_eq_some_iff.1 h
  cases h
  obtain ⟨_,_,_,_,_,hB,_⟩:=zCc hq
  rw [zAA]
  exact ⟨List.mem_singleton.2 rfl,_,hB⟩
 ·split at h
  ·split at h
   ·cases h;rw [zAA];exact ⟨List.mem_singleton.2 rfl,_, ‹_›⟩
   ·cases h
  ·cases h
 ·cases h
theorem zHC (ha:Agr W s s'):∀{l:List AV},(∀p∈l.flatMap AV.refs,p∈W)→zBX s' l=zBX s l
 | [],_=>rfl
 |x::r,hs=>by
  obtain ⟨k1,k2⟩:=zA8 hs
  simp only [zBX,zKY ha k1,zHC ha k2]
theorem zFr:∀{l l':List AV} {d n:Nat} {q:Option (Nat×Nat)} {B:Blk},zBX s l=some (l',d,n,q,B)→(d,n)∈l.flatMap AV.refs∧∃B,s.get d n=some B
 | [],l',d,n,q,B,h=>by cases h
 |x::r,l',d,n,q,B,h=>by
  simp only [zBX] at h
  split at h
  ·rename_i hb
   obtain ⟨q,_,h⟩:=Option.map_eq_some_iff.1 h
   cases h
   obtain ⟨h1,h2⟩:=zJJ hb
   exact ⟨List.mem_flatMap.2 ⟨x,List.mem_cons_self ..,h1⟩,h2⟩
  ·obtain ⟨a,_,h⟩:=Option.bind_eq_some_iff.1 h
   obtain ⟨⟨l2,d2,n2,q2,B2⟩,h1,h⟩:=Option.map_eq_some_iff.1 h
   cases h
   obtain ⟨h3,h4⟩:=zFr h1
   obtain ⟨y,hy,h3⟩:=List.mem_flatMap.1 h3
   exact ⟨List.mem_flatMap.2 ⟨y,List.mem_cons_of_mem _ hy,h3⟩,h4⟩
theorem zDl {d0 n0 g0:Nat}:∀{l l':List CV} {d n g m:Nat},zCC d0 n0 g0 l=some (l',d,n,g,m)→(d,n)∈l.flatMap CV.refs
 | [],l',d,n,g,m,h=>by cases h
 |x::r,l',d,n,g,m,h=>by
  cases x with
  |p x=>
   simp only [zCC,zS] at h
   obtain ⟨⟨l2,q⟩,h1,h⟩:=h
   cases h
   exact List.mem_flatMap.2 (by obtain ⟨y,hy,h3⟩:=List.mem_flatMap.1 (zDl h1);exact ⟨y,List.mem_cons_of_mem _ hy,h3⟩)
  |own d' n' g' m'=>
   simp only [zCC] at h
   split at h
   ·cases h;exact List.mem_flatMap.2 ⟨_,List.mem_cons_self ..,List.mem_singleton.2 rfl⟩
   ·cases h
  |ptr d' n' g' j' o'=>
   simp only [zCC] at h
   split at h
   ·obtain ⟨⟨l2,q⟩,h1,h⟩:=Option.map_eq_some_iff.1 h
    cases h
    exact List.mem_flatMap.2 (by obtain ⟨y,hy,h3⟩:=List.mem_flatMap.1 (zDl h1);exact ⟨y,List.mem_cons_of_mem _ hy,h3⟩)
   ·cases h
  |_=>cases h
theorem zDm (ha:Agr W s s') {p:Nat×Nat} (hp:p∈W):s'.within p=s.within p:=by
 unfold St.within
 rw [ha.m p hp]
theorem zDn {a a':AV} {q q2:Nat×Nat×Blk} (h:zC9 s a=some (a',q,q2)):((q.1,q.2.1)∈a.refs∧(q2.1,q2.2.1)∈a.refs.flatMap s.within)∧(∃B,s.get q.1 q.2.1=some B)∧∃B,s.get q2.1 q2.2.1=some B:=by
 unfold zC9 at h
 split at h
 ·rename_i d n g
  split at h
  ·rename_i g' sz ty cells hB
   obtain ⟨⟨l,d2,n2,g2,m2⟩,h1,h⟩:=Option.bind_eq_some_iff.1 h
   simp only at h
   split at h
   ·rename_i hB2
    split at h
    ·cases h
     refine ⟨⟨by rw [zAA];exact List.mem_singleton.2 rfl,List.mem_flatMap.2 ⟨(d,n),by rw [zAA];exact List.mem_singleton.2 rfl,?_⟩⟩,⟨_,hB⟩,⟨_,hB2⟩⟩
     unfold St.within
     simp only [hB]
     exact zDl h1
    ·cases h
   ·cases h
  ·cases h
 ·cases h
theorem zKZ {a a':AV} {q q2:Nat×Nat×Blk} (h:zC9 s a=some (a',q,q2)) (ha:Agr W s s') (hs:∀p∈a.refs,p∈W) (hs2:∀p∈a.refs.flatMap s.within,p∈W):zC9 s' a=some (a',q,q2):=by
 have hm:=(zDn h).1
 unfold zC9 at h⊢
 split at h
 ·rename_i d n g
  rw [zEu ha (by rw [zAA] at hs;exact hs)]
  split at h
  ·rename_i g' sz ty cells hB
   obtain ⟨⟨l,d2,n2,g2,m2⟩,h1,h⟩:=Option.bind_eq_some_iff.1 h
   simp only at h
   have hg:s'.get d2 n2=s.get d2 n2:=by
    have h2:=h
    split at h2
    ·split at h2
     ·cases h2;exact ha.m _ (hs2 _ hm.2)
     ·cases h2
    ·cases h2
   simp only [h1,zC,hg]
   exact h
  ·cases h
 ·cases h
theorem zEv {D d:Nat} {fr:Frame} {c:CV} (h:isP c=true):zAS D d fr c=c:=by
 cases c<;>first|rfl|cases h
theorem zDN {D d:Nat} {fr:Frame} {v:AV} (h:v.cvs.all isP=true):v.map (zAS D d fr)=v:=by
 have one:∀l:List CV,l.all isP=true→l.map (zAS D d fr)=l:=fun l hl=>by
  conv=>rhs;rw [←List.map_id l]
  exact List.map_congr_left fun c hc=>zEv (List.all_eq_true.1 hl c hc)
 cases v with
 |c x=>simp only [AV.cvs,List.all_cons,List.all_nil,Bool.and_true] at h;simp only [AV.map,zEv h]
 |agg cs=>simp only [AV.map,one cs h]
 |tup vs=>
  simp only [AV.map,AV.tup.injEq]
  conv=>rhs;rw [←List.map_id vs]
  refine List.map_congr_left fun p hp=>?_
  obtain ⟨g,cs⟩:=p
  simp only [id,Prod.mk.injEq,true_and]
  refine one cs (List.all_eq_true.2 fun c hc=>List.all_eq_true.1 h c ?_)
  exact List.mem_flatMap.2 ⟨_,hp,hc⟩
theorem zJK {d n:Nat} {q:Option (Nat×Nat)} {B:Blk} {r:Res} {y:AV×St} (h:zCH s dst d n q B r=some y) (ha:Agr W s s') (hw:(d,n)∈W):∃z,zCH s' dst d n q B r=some (y.1,z)∧Lo W s y.2 s' z:=by
 unfold zCH at h⊢
 cases q with
 |some t=>
  obtain ⟨j,o⟩:=t
  simp only at h⊢
  split at h
  ·rename_i fr' hup
   rw [show s'.get d n=s.get d n from ha.m (d,n) hw]
   split at h
   ·rename_i sz' ty' inner' g sz ty cols rows inner hB' hB0 hk
    split at h
    ·rename_i e he
     split at h
     ·rename_i hc
      cases h
      refine ⟨_,?_,Lo.set ha hw (zAx hB0)⟩
      rw [if_pos hc,zDN hc.2.2.2.1,zDN hc.2.2.2.1]
     ·cases h
    ·cases h
   ·cases h
  ·cases h
 |none=>
 simp only at h⊢
 split at h
 ·rename_i fr' hup
  rw [show s'.get d n=s.get d n from ha.m (d,n) hw]
  split at h
  ·rename_i B' B0 hB' hB0
   split at h
   ·rename_i hc
    cases h
    refine ⟨_,?_,Lo.set ha hw (zAx hB0)⟩
    rw [if_pos hc,zDN hc.2.2.2.2.1,zDN hc.2.2.2.2.1]
   ·cases h
  ·cases h
 ·cases h
theorem zJL {q q2:Nat×Nat×Blk} {r:Res} {y:AV×St} (h:zDv s q q2 r=some y) (ha:Agr W s s') (hw:(q.1,q.2.1)∈W) (hw2:(q2.1,q2.2.1)∈W):∃z,zDv s' q q2 r=some (y.1,z)∧Lo W s y.2 s' z:=by
 unfold zDv at h⊢
 split at h
 ·rename_i fr' hup
  rw [show s'.get q.1 q.2.1=s.get q.1 q.2.1 from ha.m _ hw,show s'.get q2.1 q2.2.1=s.get q2.1 q2.2.1 from ha.m _ hw2]
  split at h
  ·rename_i sz ty cells g1 sz2 ty2 rows B0 R0 e1 e2 e3 e4
   split at h
   ·rename_i hc
    obtain ⟨l,hl,h⟩:=Option.map_eq_some_iff.1 h
    cases h
    have l1:=Lo.set (B:=⟨R0.g+1,sz2,ty2,.row rows⟩) ha hw2 (zAx e4)
    refine ⟨_,?_,l1.trans (Lo.set (l1.agr ha) hw (by rw [zGP];exact zAx e3))⟩
    simp only [if_pos hc,hl,Option.map_some]
   ·cases h
  ·cases h
 ·cases h
theorem zLg {a:AV} {n:Nat} (ha:Agr W s s') (hs:∀p∈a.refs,p∈W):s'.read a n=s.read a n:=by
 unfold St.read
 split
 ·rw [zEu ha (by rw [zAA] at hs;exact hs)]
 ·rfl
 ·rfl
theorem zIp {a:AV} (ha:Agr W s s') (hs:∀p∈a.refs,p∈W):s'.rows a=s.rows a:=by
 unfold St.rows
 split
 ·rfl
 ·rfl
 ·rw [zEt ha (by rw [zAA] at hs;exact hs)]
 ·rfl
theorem zKa {a:AV} (ha:Agr W s s') (hs:∀p∈a.refs,p∈W):s'.blk a=s.blk a:=by
 unfold St.blk
 split
 ·rw [zEu ha (by rw [zAA] at hs;exact hs)]
 ·rfl
 ·rfl
theorem zDo {a:AV} {xs:List CV} {y:St} (h:s.write a xs=some y) (ha:Agr W s s') (hs:∀p∈a.refs,p∈W) (hx:∀p∈xs.flatMap CV.refs,p∈W):∃z,s'.write a xs=some z∧Lo W s y s' z:=by
 unfold St.write at h⊢
 split at h
 ·rename_i d m g j o
  rw [zAA] at hs
  have hw:(d,m)∈W:=hs _ (List.mem_singleton.2 rfl)
  simp only [zEu ha hs]
  split at h
  ·rename_i g' sz ty cells hB
   split at h
   ·rename_i hc
    cases h
    exact ⟨_,by rw [if_pos hc],Lo.set ha hw (zAx hB)⟩
   ·cases h
  ·rename_i hB
   obtain ⟨⟨ys,s1⟩,h1,h⟩:=Option.bind_eq_some_iff.1 h
   obtain ⟨z,e,l⟩:=zBl h1 ha hx
   simp only at h
   simp only [e,zC,show z.get d m=s1.get d m from l.i (d,m) hw]
   split at h
   ·rename_i g' sz ty rows hB2
    split at h
    ·rename_i hg
     split at h
     ·rename_i e0 he0
      split at h
      ·rename_i hc
       cases h
       exact ⟨_,by rw [if_pos hg,if_pos hc],l.trans (Lo.set (l.agr ha) hw (zAx hB2))⟩
      ·cases h
     ·cases h
    ·cases h
   ·cases h
  ·rename_i g' sz ty cols rows hB
   obtain ⟨⟨ys,q⟩,h1,h⟩:=Option.bind_eq_some_iff.1 h
   simp only [h1,zC]
   simp only at h
   split at h
   ·rename_i hg
    split at h
    ·rename_i e0 he0
     split at h
     ·rename_i hc
      split at h
      ·cases h
       exact ⟨_,by rw [if_pos hg,if_pos hc],Lo.set ha hw (zAx hB)⟩
      ·rename_i k esz ety d2 n2 g2 m2
       have hw2:(d2,n2)∈W:=by
        obtain ⟨_,_,k3⟩:=zGG h1
        obtain ⟨_,_,k4⟩:=k3 _ _ _ _ _ _ _ rfl
        exact hx _ (List.mem_flatMap.2 ⟨_,zy k4,List.mem_singleton.2 rfl⟩)
       split at h
       ·rename_i g2' esz' ety' rows2 hR hek
        split at h
        ·rename_i hc2
         cases h
         have l1:=Lo.set (B:=⟨g2+1,esz,ety,.dead⟩) ha hw2 (zAx hR)
         refine ⟨_,?_,l1.trans (Lo.set (l1.agr ha) hw (by rw [zGP];exact zAx hB))⟩
         rw [if_pos hg,if_pos hc,show s'.get d2 n2=s.get d2 n2 from ha.m (d2,n2) hw2,hR,hek]
         simp only
         rw [if_pos hc2]
        ·cases h
       ·cases h
     ·cases h
    ·cases h
   ·cases h
  ·cases h
 ·cases h
theorem zBK {n sz ty:Nat} {k:BK} (ha:Agr W s s') (hw:(s.up.length,n)∈W):(s'.new n sz ty k).1=(s.new n sz ty k).1∧Lo W s (s.new n sz ty k).2 s' (s'.new n sz ty k).2:=by
 have hf:s'.fresh n=s.fresh n:=by
  have h1:∀st:St,st.fresh n=match st.get st.up.length n with|some B=>B.g+1|none=>0:=fun st=>by
   unfold St.fresh St.get zA
   simp
   rfl
  rw [h1,h1,ha.u,ha.m _ hw]
 have hn:∀st:St,(st.new n sz ty k).2=st.set st.up.length n ⟨st.fresh n,sz,ty,k⟩:=fun st=>by
  unfold St.new St.set
  simp
 refine ⟨by simp only [St.new,hf,ha.u],?_⟩
 rw [hn,hn,hf,ha.u]
 exact Lo.set ha hw (Nat.le_refl _)
end
end Go.Eng

