import Derived.Test.YtilkdjfhbahhdaaE17
set_option linter.unusedVariables false
set_option linter.unusedSimpArgs false
namespace Go.Eng
open Go.RowKit
section
variable {P:Program} {F F':Nat→Prop} {G:Nat→Option Obj} {N0:Base G} {T:Nat} {pl pl' pl1:Pl} {st st':St} {a:Act} {w w':World} {fs fs':List Frame} {fr f':Frame} {up:List Frame}
theorem zCH {d:Nat} {kb:List Nat} (n:Nat):∀l:List Nat,look n (zCQ d fr kb l)=if n∈l then (look n fr).map (zDm d fr kb) else none
 | []=>by simp [zCQ,look]
 |m::r=>by
  simp only [zCQ]
  have ih:=zCH (d:=d) (kb:=kb) n r
  by_cases h:m=n
  ·subst h
   cases hl:look m fr with
   |none=>rw [ih,hl];simp
   |some B=>simp [look]
  ·have hne:¬n=m:=fun e=>h e.symm
   cases hl:look m fr with
   |none=>rw [ih];simp [hne]
   |some B=>simp only [look,if_neg h,ih];simp [hne]
theorem zF6 {d:Nat} {kb:List Nat} (B:Blk):(zDm d fr kb B).sz=B.sz∧(zDm d fr kb B).ty=B.ty:=by
 unfold zDm
 split
 ·split<;>exact ⟨rfl,rfl⟩
 ·exact ⟨rfl,rfl⟩
theorem zKI (hm:MemOK F N0 (fr::up) pl w) (kb:List Nat):
  ∃pl',MemOK F N0 (zCQ up.length fr kb kb::up) pl' w∧Keep F up up pl pl' w w∧∀{v:Value} {x:AV},zd F (fr::up) pl w v x→zd F (zCQ up.length fr kb kb::up) pl' w v (zIX up.length fr kb x):=by
 let f1:=zCQ up.length fr kb kb
 let pl2:Pl:=fun d n=>if d=up.length then (match look n f1 with|some B=>if B.g=0 then pl d n else nop|none=>nop) else if d<up.length then pl d n else nop
 have p1:∀d n,d<up.length→pl2 d n=pl d n:=fun d n hd=>by simp [pl2,Nat.ne_of_lt hd,hd]
 have p4:∀d n,up.length<d→pl2 d n=nop:=fun d n hd=>by simp [pl2,Nat.ne_of_gt hd,Nat.lt_asymm hd]
 have p2:∀n B,look n f1=some B→B.g=0→pl2 up.length n=pl up.length n:=fun n B h hg=>by simp [pl2,h,hg]
 have p3:∀n j b s,pl2 up.length n j=some (b,s)→∃B,look n f1=some B∧B.g=0∧pl up.length n j=some (b,s):=fun n j b s h=>by
  simp only [pl2,if_true] at h
  cases hB:look n f1 with
  |none=>rw [hB] at h;cases h
  |some B=>
   rw [hB] at h
   simp only at h
   by_cases hg:B.g=0
   ·rw [if_pos hg] at h;exact ⟨B,rfl,hg,h⟩
   ·rw [if_neg hg] at h;cases h
 have hsome:∀d n j b s,pl2 d n j=some (b,s)→pl d n j=some (b,s):=fun d n j b s h=>by
  rcases Nat.lt_trichotomy d up.length with hd|hd|hd
  ·rw [←p1 d n hd];exact h
  ·subst hd
   obtain ⟨B,_,_,h2⟩:=p3 n j b s h
   exact h2
  ·rw [p4 d n hd] at h;cases h
 have hlowU:∀d n,d<up.length→∀f,zB d n (f::up)=zB d n up:=fun d n hd f=>by simp [zB,Nat.ne_of_lt hd]
 have hLow:Low up.length (fr::up) pl (f1::up) pl2:=⟨fun d n hd=>⟨by rw [hlowU d n hd,hlowU d n hd],p1 d n hd⟩,fun d n j b s h=>⟨d,n,j,hsome d n j b s h⟩⟩
 have htop:∀n f,zB up.length n (f::up)=look n f:=fun n f=>by simp [zB]
 have hK:Keep F up up pl pl2 w w:=⟨⟨rfl,rfl,rfl,Nat.le_refl _,fun _ _ _=>rfl⟩,rfl,fun d n b hb=>⟨b,hb,Nat.le_refl _,fun _=>⟨Ext.of (p1 d n (zH hb)),rfl⟩⟩,fun d n j b s h=> .inl ⟨d,n,j,s,hsome d n j b s h⟩⟩
 have hcell:∀{v:Value} {c:CV},zAM F (fr::up) pl w v c→zAM F (f1::up) pl2 w v (zDD up.length fr kb c):=by
  intro v c hr
  have hg1:∀n B,look n fr=some B→kb.contains n=true→look n f1=some (zDm up.length fr kb B):=fun n B h hk=>by
   have:n∈kb:=by simpa using hk
   simp only [f1]
   rw [zCH,if_pos this,h]
   rfl
  cases c with
  |p x=>exact hLow.repP hr
  |own d n g m=>
   obtain ⟨h1,B,h2,h3,h4⟩:=hr
   have hd:=zH h2
   simp only [List.length_cons] at hd
   simp only [zDD]
   by_cases e:d=up.length
   ·subst e
    rw [if_pos rfl]
    rw [htop] at h2
    rw [h2]
    simp only
    split
    ·rename_i hc
     have hf:=hg1 n B h2 hc.2
     refine ⟨h1,_,by rw [htop];exact hf,Nat.zero_le _,fun e0=>?_⟩
     rw [p2 n _ hf e0.symm,(zF6 B).1]
     exact h4 hc.1.symm
    ·trivial
   ·rw [if_neg e]
    have hd2:d<up.length:=by omega
    exact ⟨h1,B,by rw [hlowU d n hd2];rw [hlowU d n hd2] at h2;exact h2,h3,fun e=>by rw [p1 d n hd2];exact h4 e⟩
  |ptr d n g j o=>
   obtain ⟨h1,B,h2,h3,h4⟩:=hr
   have hd:=zH h2
   simp only [List.length_cons] at hd
   simp only [zDD]
   by_cases e:d=up.length
   ·subst e
    rw [if_pos rfl]
    rw [htop] at h2
    rw [h2]
    simp only
    split
    ·rename_i hc
     have hf:=hg1 n B h2 hc.2
     refine ⟨h1,_,by rw [htop];exact hf,Nat.zero_le _,fun e0=>?_⟩
     rw [p2 n _ hf e0.symm,(zF6 B).1]
     exact h4 hc.1.symm
    ·trivial
   ·rw [if_neg e]
    have hd2:d<up.length:=by omega
    exact ⟨h1,B,by rw [hlowU d n hd2];rw [hlowU d n hd2] at h2;exact h2,h3,fun e=>by rw [p1 d n hd2];exact h4 e⟩
  |rp row o=>exact RepR.same hr (fun k d n j s hp=>⟨d,n,j,s,hsome d n j k s hp⟩) hLow.repP
  |fn f caps=>
   simp only [zDD]
   split
   ·rename_i hc
    obtain ⟨vals,h1,h2,h3⟩:=hr
    refine ⟨vals,h1,h2,fun i u c hu hcc=>?_⟩
    have h4:=h3 i u c hu hcc
    cases c with
    |p x=>exact hLow.repP h4
    |ptr d n g=>
     have hmem:=zn hcc
     have hne:d≠up.length:=by
      have:=List.all_eq_true.1 hc _ hmem
      simpa using this
     obtain ⟨h0,B,h5,h6,h7⟩:=h4
     have hd:=zH h5
     simp only [List.length_cons] at hd
     have hd2:d<up.length:=by omega
     exact ⟨h0,B,by rw [hlowU d n hd2];rw [hlowU d n hd2] at h5;exact h5,h6,fun e=>by rw [p1 d n hd2];exact h7 e⟩
    |rp row=>exact RepR.same h4 (fun k d n j s hp=>⟨d,n,j,s,hsome d n j k s hp⟩) hLow.repP
   ·trivial
  |sub d n g j o m esz=>
   obtain ⟨h1,B,h2,h3,h4⟩:=hr
   have hd:=zH h2
   simp only [List.length_cons] at hd
   simp only [zDD]
   by_cases e:d=up.length
   ·rw [if_pos e];trivial
   ·rw [if_neg e]
    have hd2:d<up.length:=by omega
    exact ⟨h1,B,by rw [hlowU d n hd2];rw [hlowU d n hd2] at h2;exact h2,h3,fun e=>by rw [p1 d n hd2];exact h4 e⟩
  |nfn=>exact hr
  |u=>trivial
 refine ⟨pl2,zHa hm hLow (fun n j b s h=>?_) (fun n j n' j' b s s' h h'=>?_) p4 (fun n B hB=>?_),hK,fun {v x} hr=>zAv (fun u c _ h=>hcell h) (fun c h=>by subst h;rfl) hr⟩
 ·obtain ⟨B,h1,_,h2⟩:=p3 n j b s h
  exact ⟨⟨B,h1⟩,_,_,_,Nat.le_refl _,h2⟩
 ·exact (hm.inj _ _ _ _ _ _ b s s' (hsome _ _ _ _ _ h) (hsome _ _ _ _ _ h')).2
 ·have hB':look n f1=some B:=hB
  have hBB:=hB
  rw [zCH] at hBB
  split at hBB
  ·obtain ⟨B0,h0,rfl⟩:=Option.map_eq_some_iff.1 hBB
   have hb:=hm.blk up.length n B0 (by rw [htop];exact h0)
   unfold zDm at hB'⊢
   split at hB'
   ·rename_i cells hk
    split at hB'
    ·rename_i hall
     have hp:=p2 n _ hB' rfl
     simp only [hall,if_true]
     unfold zY at hb⊢
     rw [hk] at hb
     simp only
     obtain ⟨b,us,h1,h2,h3,h4⟩:=hb
     refine ⟨b,us,by rw [List.length_map];exact hp.trans h1,h2,⟨by simp [h3.1],fun i u c hu hc=>?_⟩,fun c hc=>List.all_eq_true.1 hall c hc⟩
     simp only [List.getElem?_map,zL] at hc
     obtain ⟨c',hc',rfl⟩:=hc
     obtain ⟨h5,h6⟩:=h3.2 i u c' hu hc'
     exact ⟨hcell h5,h6.imp (fun e=>by subst e;rfl) id⟩
    ·rename_i hall
     simp only [hall,if_false]
     show pl2 up.length n=nop
     simp [pl2,hB']
   ·rename_i hk
    have hp:=p2 n _ hB' rfl
    unfold zY at hb⊢
    cases hk2:B0.k with
    |box cells=>exact absurd hk2 (by intro e;exact hk cells e)
    |row rows=>
     rw [hk2] at hb
     simp only [hk2]
     rcases hb with ⟨h1,h2⟩|⟨b,s,us,h1,h2,h3,h4,h5,h6⟩
     ·exact .inl ⟨h1,hp.trans h2⟩
     ·exact .inr ⟨b,s,us,hp.trans h1,h2,h3,h4,h5,fun j e o x he hx=>by
       obtain ⟨v,hv,hr⟩:=h6 j e o x he hx
       exact ⟨v,hv,hLow.repP hr⟩⟩
    |deep cols rs=>
     rw [hk2] at hb
     simp only [hk2]
     rcases hb with ⟨h1,h2⟩|⟨b,s,us,h1,h2,h3,h4,h5,h6,h7⟩
     ·exact .inl ⟨h1,hp.trans h2⟩
     ·refine .inr ⟨b,s,us,by rw [hp];exact h1,h2,h3,h4,h5,fun j e o x he hx=>?_,fun j hj=>by rw [hp];exact h7 j hj⟩
      obtain ⟨v,hv,hr⟩:=h6 j e o x he hx
      refine ⟨v,hv,?_⟩
      rw [hp]
      exact hr.keep (fun h'=>hLow.repP h') (fun _ _ _ _=>rfl)
    |dead=>
     rw [hk2] at hb
     simp only [hk2]
     exact hp.trans hb
  ·cases hBB
theorem zEs {α:Type} (g:Nat→α) (n:Nat):∀(l:List Nat) {v:α},look n (l.map fun m=>(m,g m))=some v→v=g n
 | [],v,h=>by simp [look] at h
 |m::r,v,h=>by
  simp only [List.map_cons,look] at h
  split at h
  ·rename_i e;subst e;cases h;rfl
  ·exact zEs g n r h
theorem zCy (f:Blk→Blk) (n:Nat):∀l:Go.Eng.Frame,look n (l.map fun (n,B)=>(n,f B))=(look n l).map f
 | []=>rfl
 |(m,B)::r=>by
  simp only [List.map_cons,look]
  by_cases h:m=n
  ·rw [if_pos h,if_pos h];rfl
  ·rw [if_neg h,if_neg h];exact zCy f n r
theorem zEt (f:AV→AV) (n:Nat):∀l:List (Nat×AV),look n (l.map fun (n,B)=>(n,f B))=(look n l).map f
 | []=>rfl
 |(m,B)::r=>by
  simp only [List.map_cons,look]
  by_cases h:m=n
  ·rw [if_pos h,if_pos h];rfl
  ·rw [if_neg h,if_neg h];exact zEt f n r
theorem zF7 {n:Nat} {B:Blk}:∀{l:Go.Eng.Frame},look n l=some B→(n,B)∈l
 | [],h=>by cases h
 |(m,C)::r,h=>by
  simp only [look] at h
  by_cases e:m=n
  ·rw [if_pos e] at h;cases h;rw [e];exact List.mem_cons_self ..
  ·rw [if_neg e] at h;exact List.mem_cons_of_mem _ (zF7 h)
theorem zCz (f:Blk→Blk) (d n:Nat):∀up:List Go.Eng.Frame,zB d n (up.map fun fr=>fr.map fun (n,B)=>(n,f B))=(zB d n up).map f
 | []=>rfl
 |fr::r=>by
  simp only [List.map_cons,zB,List.length_map]
  by_cases h:d=r.length
  ·rw [if_pos h,if_pos h];exact zCy f n fr
  ·rw [if_neg h,if_neg h];exact zCz f d n r
theorem zEu {d n:Nat} {B:Blk}:∀{up:List Go.Eng.Frame},zB d n up=some B→∃f∈up,(n,B)∈f
 | [],h=>by cases h
 |fr::r,h=>by
  simp only [zB] at h
  by_cases e:d=r.length
  ·rw [if_pos e] at h;exact ⟨fr,List.mem_cons_self ..,zF7 h⟩
  ·rw [if_neg e] at h
   obtain ⟨f,h1,h2⟩:=zEu h
   exact ⟨f,List.mem_cons_of_mem _ h1,h2⟩
theorem zJE {up:List Go.Eng.Frame} {c:CV} {d:Nat} (h:c.dep d=true) (hk:(zBZ up c).known=true):(zBZ up c).dep d=true:=by
 cases c with
 |own d' n g m=>
  simp only [zBZ] at hk⊢
  split
  ·split
   ·exact h
   ·split
    ·exact h
    ·rename_i h1 h2 h3;simp_all [CV.known]
  ·exact h
 |ptr d' n g j o=>
  simp only [zBZ] at hk⊢
  split
  ·split
   ·exact h
   ·split
    ·exact h
    ·rename_i h1 h2 h3;simp_all [CV.known]
  ·exact h
 |fn f caps=>
  simp only [zBZ] at hk⊢
  split
  ·exact h
  ·rename_i h1;simp_all [CV.known]
 |p x=>exact h
 |rp row o=>exact h
 |sub d' n g j o m esz=>simp [zBZ,CV.known] at hk
 |nfn=>exact h
 |u=>exact h
structure LowB (d:Nat) (up:List Go.Eng.Frame) (B B':Blk):Prop where
 sz:B'.sz=B.sz
 ty:B'.ty=B.ty
 g:B'.g=B.g∨(d<up.length∧(∃rows,B.k= .row rows)∧B'.g=min B.g 1)
 box:∀cells,B.k= .box cells→B'.k= .box (cells.map (zBZ up))
 row:∀rows,B.k= .row rows→B'.k= .row rows
 deep:∀c rows,B.k= .deep c rows→B'.k= .deep c rows
 dead:B.k= .dead→B'.k= .dead
theorem zKJ (d:Nat) (up:List Go.Eng.Frame) (B:Blk):LowB d up B (zIZ up B):=by
 obtain ⟨g,sz,ty,k⟩:=B
 cases k with
 |box cells=>exact ⟨rfl,rfl,.inl rfl,(fun c h=>by cases h;rfl),(fun r h=>by cases h),(fun c r h=>by cases h),(fun h=>by cases h)⟩
 |row rows=>exact ⟨rfl,rfl,.inl rfl,(fun c h=>by cases h),(fun r h=>h),(fun c r h=>by cases h),(fun h=>by cases h)⟩
 |deep c r=>exact ⟨rfl,rfl,.inl rfl,(fun c h=>by cases h),(fun r h=>by cases h),(fun c r h=>h),(fun h=>by cases h)⟩
 |dead=>exact ⟨rfl,rfl,.inl rfl,(fun c h=>by cases h),(fun r h=>by cases h),(fun c r h=>by cases h),(fun h=>rfl)⟩
theorem zFP {d:Nat} {up:List Go.Eng.Frame} (hd:d<up.length) (B:Blk):LowB d up B (zHs up B):=by
 obtain ⟨g,sz,ty,k⟩:=B
 cases k with
 |box cells=>exact ⟨rfl,rfl,.inl rfl,(fun c h=>by cases h;rfl),(fun r h=>by cases h),(fun c r h=>by cases h),(fun h=>by cases h)⟩
 |row rows=>exact ⟨rfl,rfl,.inr ⟨hd,⟨rows,rfl⟩,rfl⟩,(fun c h=>by cases h),(fun r h=>h),(fun c r h=>by cases h),(fun h=>by cases h)⟩
 |deep c r=>exact ⟨rfl,rfl,.inl rfl,(fun c h=>by cases h),(fun r h=>by cases h),(fun c r h=>h),(fun h=>by cases h)⟩
 |dead=>exact ⟨rfl,rfl,.inl rfl,(fun c h=>by cases h),(fun r h=>by cases h),(fun c r h=>by cases h),(fun h=>rfl)⟩
theorem zHd (hr:Rel F N0 T pl st a w):Rel F N0 T pl st.low a w∧KeepU st.up st.low.up pl pl w w:=by
 unfold St.low
 split
 ·exact ⟨hr,KeepU.refl⟩
 split
 ·rename_i hall
  obtain ⟨t,fr,up⟩:=st
  simp only at hall⊢
  let fr':Go.Eng.Frame:=fr.map fun (n,B)=>(n,zIZ up B)
  let up':List Go.Eng.Frame:=up.map fun f=>f.map fun (n,B)=>(n,zHs up B)
  have hm:=hr.mem
  simp only at hm
  have hlen:up'.length=up.length:=by simp [up']
  have hget:∀d n,zB d n (fr'::up')=(zB d n (fr::up)).map fun B=>if d=up.length then zIZ up B else zHs up B:=fun d n=>by
   simp only [zB,hlen]
   by_cases h:d=up.length
   ·rw [if_pos h,if_pos h,zCy];simp [h]
   ·rw [if_neg h,if_neg h,zCz];simp [h]
  have hfw:∀{d n B},zB d n (fr::up)=some B→∃B',zB d n (fr'::up')=some B'∧LowB d up B B':=fun {d n B} h=>by
   have hlt:=zH h
   simp only [List.length_cons] at hlt
   rw [hget,h]
   by_cases e:d=up.length
   ·exact ⟨zIZ up B,by simp [e],zKJ ..⟩
   ·exact ⟨zHs up B,by simp [e],zFP (by omega) _⟩
  have hbw:∀{d n B'},zB d n (fr'::up')=some B'→∃B,zB d n (fr::up)=some B∧LowB d up B B':=fun {d n B'} h=>by
   cases hq:zB d n (fr::up) with
   |none=>rw [hget,hq] at h;cases h
   |some B=>
    obtain ⟨B2,h1,h2⟩:=hfw hq
    rw [h] at h1
    cases h1
    exact ⟨B,rfl,h2⟩
  have hup:∀{d n B},d<up.length→zB d n (fr::up)=some B→zB d n up=some B:=fun {d n B} hd h=>by
   simpa [zB,Nat.ne_of_lt hd] using h
  have hno:∀d n,up.length≤d→zB d n up=none:=fun d n hd=>by
   cases hq:zB d n up with
   |none=>rfl
   |some B=>have:=zH hq;omega
  have hcell:∀{v:Value} {c:CV},zAM F (fr::up) pl w v c→zAM F (fr'::up') pl w v (zBZ up c):=by
   intro v c h
   cases c with
   |p x=>exact h
   |own d n g m=>
    obtain ⟨h1,B,h2,h3,h4⟩:=h
    obtain ⟨B',h5,h6⟩:=hfw h2
    have same:B'.g=B.g→zAM F (fr'::up') pl w v (.own d n g m):=fun e=>⟨h1,B',h5,by omega,fun e2=>by rw [h6.sz];exact h4 (by omega)⟩
    by_cases hd:d<up.length
    ·have h7:=hup hd h2
     simp only [zBZ,h7]
     cases hk:B.k with
     |row rows=>
      have h8:up'=up':=rfl
      obtain ⟨gB,szB,tyB,kB⟩:=B
      simp only at hk
      subst hk
      simp only
      split
      ·rename_i e0
       refine ⟨h1,B',h5,by omega,fun e2=>?_⟩
       rw [h6.sz]
       refine h4 ?_
       rcases h6.g with e|⟨_,_,e⟩
       ·omega
       ·simp only at e h3⊢;omega
      ·rename_i e0
       split
       ·rename_i e1
        refine ⟨h1,B',h5,?_,fun e2=>?_⟩
        ·rcases h6.g with e|⟨_,_,e⟩<;>simp only at e h3<;>omega
        ·rw [h6.sz];exact h4 e1
       ·trivial
     |box cells=>
      obtain ⟨gB,szB,tyB,kB⟩:=B
      simp only at hk
      subst hk
      refine same ?_
      rcases h6.g with e|⟨_,⟨r,hr2⟩,_⟩
      ·exact e
      ·cases hr2
     |deep c9 r9=>
      obtain ⟨gB,szB,tyB,kB⟩:=B
      simp only at hk
      subst hk
      refine same ?_
      rcases h6.g with e|⟨_,⟨r,hr2⟩,_⟩
      ·exact e
      ·cases hr2
     |dead=>
      obtain ⟨gB,szB,tyB,kB⟩:=B
      simp only at hk
      subst hk
      refine same ?_
      rcases h6.g with e|⟨_,⟨r,hr2⟩,_⟩
      ·exact e
      ·cases hr2
    ·simp only [zBZ,hno d n (by omega)]
     refine same ?_
     rcases h6.g with e|⟨hd2,_⟩
     ·exact e
     ·omega
   |ptr d n g j o=>
    obtain ⟨h1,B,h2,h3,h4⟩:=h
    obtain ⟨B',h5,h6⟩:=hfw h2
    have same:B'.g=B.g→zAM F (fr'::up') pl w v (.ptr d n g j o):=fun e=>⟨h1,B',h5,by omega,fun e2=>by rw [h6.sz];exact h4 (by omega)⟩
    by_cases hd:d<up.length
    ·have h7:=hup hd h2
     simp only [zBZ,h7]
     cases hk:B.k with
     |row rows=>
      obtain ⟨gB,szB,tyB,kB⟩:=B
      simp only at hk
      subst hk
      simp only
      split
      ·rename_i e0
       refine ⟨h1,B',h5,by omega,fun e2=>?_⟩
       rw [h6.sz]
       refine h4 ?_
       rcases h6.g with e|⟨_,_,e⟩
       ·omega
       ·simp only at e h3⊢;omega
      ·rename_i e0
       split
       ·rename_i e1
        refine ⟨h1,B',h5,?_,fun e2=>?_⟩
        ·rcases h6.g with e|⟨_,_,e⟩<;>simp only at e h3<;>omega
        ·rw [h6.sz];exact h4 e1
       ·trivial
     |box cells=>
      obtain ⟨gB,szB,tyB,kB⟩:=B
      simp only at hk
      subst hk
      refine same ?_
      rcases h6.g with e|⟨_,⟨r,hr2⟩,_⟩
      ·exact e
      ·cases hr2
     |deep c9 r9=>
      obtain ⟨gB,szB,tyB,kB⟩:=B
      simp only at hk
      subst hk
      refine same ?_
      rcases h6.g with e|⟨_,⟨r,hr2⟩,_⟩
      ·exact e
      ·cases hr2
     |dead=>
      obtain ⟨gB,szB,tyB,kB⟩:=B
      simp only at hk
      subst hk
      refine same ?_
      rcases h6.g with e|⟨_,⟨r,hr2⟩,_⟩
      ·exact e
      ·cases hr2
    ·simp only [zBZ,hno d n (by omega)]
     refine same ?_
     rcases h6.g with e|⟨hd2,_⟩
     ·exact e
     ·omega
   |rp row o=>exact h
   |fn f caps=>
    simp only [zBZ]
    split
    ·rename_i hc
     obtain ⟨vals,h1,h2,h3⟩:=h
     refine ⟨vals,h1,h2,fun i u c hu hcc=>?_⟩
     have h4:=h3 i u c hu hcc
     cases c with
     |p x=>exact h4
     |ptr d n g=>
      have hmem:=zn hcc
      have hne:=List.all_eq_true.1 hc _ hmem
      obtain ⟨h0,B,h5,h6,h7⟩:=h4
      obtain ⟨B',h8,h9⟩:=hfw h5
      have e:B'.g=B.g:=by
       rcases h9.g with e|⟨hd,⟨r,hr2⟩,_⟩
       ·exact e
       ·have h10:=hup hd h5
        obtain ⟨gB,szB,tyB,kB⟩:=B
        simp only at hr2
        subst hr2
        simp only [h10] at hne
        cases hne
      exact ⟨h0,B',h8,by omega,fun e2=>h7 (by omega)⟩
     |rp row=>exact h4
    ·trivial
   |sub d n g j o m esz=>trivial
   |nfn=>exact h
   |u=>trivial
  refine ⟨⟨⟨fun d n j b s h=>?_,hm.inj,fun d n B' hB'=>?_,hm.fsz,hm.fix⟩,fun n v hv=>?_,hr.size,hr.defers,hr.low⟩,⟨Step.refl ..,by simp,fun d n b hb=>?_,fun d n j b s h=> .inl ⟨d,n,j,s,h⟩⟩⟩
  ·obtain ⟨h1,h2,h3,B,h4⟩:=hm.live d n j b s h
   obtain ⟨B',h5,_⟩:=hfw h4
   exact ⟨h1,h2,h3,B',h5⟩
  ·obtain ⟨B,h1,h2⟩:=hbw hB'
   have hb:=hm.blk d n B h1
   unfold zY at hb⊢
   cases hk:B.k with
   |box cells=>
    rw [hk] at hb
    rw [h2.box cells hk]
    simp only
    obtain ⟨b,us,g1,g2,g3,g4⟩:=hb
    refine ⟨b,us,by rw [List.length_map];exact g1,by rw [h2.ty];exact g2,⟨by simp [g3.1],fun i u c hu hc=>?_⟩,fun c hc=>?_⟩
    ·simp only [List.getElem?_map,zL] at hc
     obtain ⟨c',hc',rfl⟩:=hc
     obtain ⟨g5,g6⟩:=g3.2 i u c' hu hc'
     exact ⟨hcell g5,g6.imp (fun e=>by subst e;rfl) id⟩
    ·obtain ⟨c',hc',rfl⟩:=List.mem_map.1 hc
     obtain ⟨f,hf,hmem⟩:=zEu h1
     have h3:=List.all_eq_true.1 (List.all_eq_true.1 hall f hf) _ hmem
     simp only [hk] at h3
     exact zJE (g4 c' hc') (List.all_eq_true.1 h3 _ hc)
   |row rows=>
    rw [hk] at hb
    rw [h2.row rows hk]
    simp only
    rw [h2.sz,h2.ty]
    exact hb
   |deep c rs=>
    rw [hk] at hb
    rw [h2.deep c rs hk]
    simp only
    rw [h2.sz,h2.ty]
    exact hb
   |dead=>
    rw [hk] at hb
    rw [h2.dead hk]
    exact hb
  ·simp only at hv
   rw [zEt] at hv
   obtain ⟨x,hx,rfl⟩:=Option.map_eq_some_iff.1 hv
   exact zAv (fun u c _ h=>hcell h) (fun c h=>by subst h;rfl) (hr.tmps n x hx)
  ·have hb:zB d n up=some b:=hb
   have hlt:=zH hb
   refine ⟨zHs up b,(zCz _ d n up).trans (by rw [hb];rfl),fun e=>⟨?_,Ext.refl _,(zFP hlt b).sz⟩⟩
   rcases (zFP hlt b).g with e1|⟨_,_,e1⟩<;>omega
 ·exact ⟨hr,KeepU.refl⟩
theorem zH9 (hr:Rel F N0 T pl st a w) (keep:List Nat):∃pl',Rel F N0 T pl' (st.norm0 keep) a w∧Keep F st.up (st.norm0 keep).up pl pl' w w:=by
 obtain ⟨pl',h1,h2,h3⟩:=zKI hr.mem (st.keepB keep)
 refine ⟨pl',⟨h1,fun n v hv=>?_,hr.size,hr.defers,hr.low⟩,h2⟩
 have:=zEs (fun n=>zIX st.up.length st.fr (st.keepB keep) (st.eval (.t n))) n keep hv
 subst this
 refine h3 ?_
 simp only [St.eval]
 split
 ·exact hr.tmps n _ ‹_›
 ·trivial
theorem zF8 (hr:Rel F N0 T pl st a w) (keep:List Nat):∃pl',Rel F N0 T pl' (st.norm keep) a w∧KeepU st.up (st.norm keep).up pl pl' w w:=by
 obtain ⟨pl',h1,h2⟩:=zH9 hr keep
 obtain ⟨h3,h4⟩:=zHd h1
 exact ⟨pl',h3,h2.u.trans h4⟩
end
end Go.Eng

