import Derived.Test.YtilkdjfhbahhdaaE14
set_option linter.unusedVariables false
set_option linter.unusedSimpArgs false
namespace Go.Eng
open Go.RowKit
def za:List Blk→Nat→Frame
 | [],_=> []
 |B::r,i=>(i,B)::za r (i+1)
def zAg (d:Nat):CV→CV
 | .own _ i _ m=> .own d i 0 m
 | .ptr _ i _ _ _=> .ptr d i 0 0 0
 |x=>x
def CV.po:CV→Bool
 | .p _=>true
 | .own _ _ _ _=>true
 | .ptr _ _ _ _ _=>true
 |_=>false
theorem zCF:∀(l:List Blk) (i n:Nat),look n (za l i)=if i≤n then l[n-i]? else none
 | [],i,n=>by simp [za,look]
 |B::r,i,n=>by
  simp only [za,look]
  by_cases h:i=n
  ·subst h;simp
  ·rw [if_neg h,zCF r (i+1) n]
   by_cases h2:i+1≤n
   ·rw [if_pos h2,if_pos (by omega)]
    obtain ⟨k,rfl⟩:∃k,n=i+1+k:=⟨n-(i+1),by omega⟩
    rw [show i+1+k-i=k+1 by omega,show i+1+k-(i+1)=k by omega]
    rfl
   ·rw [if_neg h2,if_neg (by omega)]
theorem zGq {fr:Frame} {n m:Nat} {B:Blk} (h:m≠n):z9 (upd n B fr) m=z9 fr m:=by simp [z9,zBD,h]
theorem zDI (n:Nat):∀(l:List Blk) (i:Nat) (fr:Frame) (s:Nat),look s (zu n l i fr)=
  if n*64+40+i≤s∧s<n*64+40+i+l.length then (l[s-(n*64+40+i)]?).map (fun B=>{B with g:=z9 fr s}) else look s fr
 | [],i,fr,s=>by simp [zu];intro h1 h2;omega
 |B::r,i,fr,s=>by
  rw [zu,zDI n r (i+1)]
  by_cases h:s=n*64+40+i
  ·subst h
   rw [if_neg (by omega),zBD,if_pos rfl,if_pos (by simp)]
   simp
  ·by_cases h2:n*64+40+(i+1)≤s∧s<n*64+40+(i+1)+r.length
   ·rw [if_pos h2,if_pos (by simp;omega),zGq h]
    rw [show s-(n*64+40+i)=s-(n*64+40+(i+1))+1 by omega]
    rfl
   ·rw [if_neg h2,if_neg (by simp;omega),zBD,if_neg h]
section
variable {P:Program} {F F':Nat→Prop} {G:Nat→Option Obj} {N0:Base G} {T:Nat} {pl pl':Pl} {st st':St} {a:Act} {w w':World} {fs fs':List Frame} {f':Frame} {up:List Frame}
theorem AV.map_map {f g:CV→CV} {v:AV}:(v.map f).map g=v.map (g∘f):=by
 cases v<;>simp [AV.map,Function.comp_def]
theorem AV.map_congr {f g:CV→CV} {v:AV} (h:∀c,f c=g c):v.map f=v.map g:=by rw [show f=g from funext h]
theorem AV.mem_map {f:CV→CV} {v:AV} {c:CV} (hc:c∈(v.map f).cvs):∃c0∈v.cvs,c=f c0:=by
 cases v with
 |c y=>simp [AV.map,AV.cvs] at hc⊢;exact hc
 |agg cs=>simp [AV.map,AV.cvs] at hc⊢;obtain ⟨q,h1,h2⟩:=hc;exact ⟨q,h1,h2.symm⟩
 |tup vs=>
  simp only [AV.map,AV.cvs,List.mem_flatMap,List.mem_map] at hc⊢
  obtain ⟨⟨p,xs⟩,⟨⟨p',ys⟩,h1,h2⟩,h3⟩:=hc
  simp only [Prod.mk.injEq] at h2
  obtain ⟨rfl,rfl⟩:=h2
  obtain ⟨q,h4,h5⟩:=List.mem_map.1 h3
  exact ⟨q,⟨_,h1,h4⟩,h5.symm⟩
theorem zAv {φ:CV→CV} {v:Value} {x:AV} {ww ww':World} (hφ:∀u c,c∈x.cvs→zAM F fs pl ww u c→zAM F' fs' pl' ww' u (φ c)) (hu:∀c,c= .u→φ c= .u) (h:zd F fs pl ww v x):zd F' fs' pl' ww' v (x.map φ):=by
 have cs:∀{us:List Value} {cs:List CV},(∀c∈cs,c∈x.cvs)→zK F fs pl ww us cs→zK F' fs' pl' ww' us (cs.map φ):=by
  intro us cs hmem hr
  refine ⟨by simp [hr.1],fun i u c hu' hc=>?_⟩
  simp only [List.getElem?_map,zL] at hc
  obtain ⟨c',hc',rfl⟩:=hc
  obtain ⟨h1,h2⟩:=hr.2 i u c' hu' hc'
  exact ⟨hφ u c' (hmem _ (zn hc')) h1,h2.imp (hu c') id⟩
 cases x with
 |c x=>exact hφ v x (by simp [AV.cvs]) h
 |agg xs=>
  obtain ⟨us,h1,h2⟩:=h
  exact ⟨us,h1,cs (by simp [AV.cvs]) h2⟩
 |tup vs=>
  obtain ⟨us,h1,h2,h3⟩:=h
  refine ⟨us,h1,by simp [h2],fun i u c hu' hc=>?_⟩
  simp only [List.getElem?_map,zL] at hc
  obtain ⟨⟨p,xs⟩,hc',rfl⟩:=hc
  have hmem:∀c∈xs,c∈(AV.tup vs).cvs:=fun c hc=>by
   simp only [AV.cvs,List.mem_flatMap]
   exact ⟨_,zn hc',hc⟩
  rcases h3 i u _ hu' hc' with ⟨e,ys,h4,h5⟩|⟨e,x,h4,h5⟩
  ·exact .inl ⟨e,ys,h4,cs hmem h5⟩
  ·simp only at h4
   subst h4
   exact .inr ⟨e,φ x,rfl,hφ u x (hmem x (by simp)) h5⟩
structure RetOK (F:Nat→Prop) {G:Nat→Option Obj} (N0:Base G) (up:List Frame) (pl:Pl) (w:World) (r:Res) (u:Value) (w':World):Prop where
 ex:∃pl',zd F (za r.rows 0::r.up) pl' w' u (r.v.map (zAg r.up.length))∧MemOK F N0 (za r.rows 0::r.up) pl' w'∧KeepU up r.up pl pl' w w'
 po:∀c∈r.v.cvs,c.po=true
 rows:∀B∈r.rows,B.g=0∧B.k.okO=true
theorem zI4 {rows:List Blk} {fr:Frame} {n:Nat} (hm:MemOK F N0 (za rows 0::fr::up) pl w) (hrows:∀B∈rows,B.g=0∧B.k.okO=true):
  ∃pl',MemOK F N0 (zu n rows 0 fr::up) pl' w∧Keep F (fr::up) (zu n rows 0 fr::up) pl pl' w w∧
   ∀{u:Value} {v:AV},(∀c∈v.cvs,c.po=true)→zd F (za rows 0::fr::up) pl w u (v.map (zAg (fr::up).length))→zd F (zu n rows 0 fr::up) pl' w u (v.map (z7 up.length n fr)):=by
 let base:=n*64+40
 let pl2:Pl:=fun d s=>if d=up.length then (if base≤s∧s<base+rows.length then pl (up.length+1) (s-base) else pl d s) else if d<up.length then pl d s else nop
 have hlk:∀s,look s (zu n rows 0 fr)=if base≤s∧s<base+rows.length then (rows[s-base]?).map (fun B=>{B with g:=z9 fr s}) else look s fr:=fun s=>zDI n rows 0 fr s
 have hrl:∀i,zB (up.length+1) i (za rows 0::fr::up)=rows[i]?:=fun i=>by
  have:=zCF rows 0 i
  simpa [zB] using this
 have hfr:∀s,zB up.length s (za rows 0::fr::up)=look s fr:=fun s=>by simp [zB]
 have hlowU:∀d s,d<up.length→∀f,zB d s (f::up)=zB d s up:=fun d s hd f=>by simp [zB,Nat.ne_of_lt hd]
 have hlowU2:∀d s,d<up.length→zB d s (za rows 0::fr::up)=zB d s up:=fun d s hd=>by
  simp [zB,Nat.ne_of_lt hd,Nat.ne_of_lt (Nat.lt_succ_of_lt hd)]
 have p1:∀d s,d<up.length→pl2 d s=pl d s:=fun d s hd=>by simp [pl2,Nat.ne_of_lt hd,hd]
 have p2:∀s,(base≤s∧s<base+rows.length)→pl2 up.length s=pl (up.length+1) (s-base):=fun s hs=>by simp [pl2,hs]
 have p3:∀s,¬(base≤s∧s<base+rows.length)→pl2 up.length s=pl up.length s:=fun s hs=>by simp [pl2,hs]
 have p4:∀d s,up.length<d→pl2 d s=nop:=fun d s hd=>by simp [pl2,Nat.ne_of_gt hd,Nat.lt_asymm hd]
 have hsome:∀d s j b q,pl2 d s j=some (b,q)→∃d0 s0 j0,pl d0 s0 j0=some (b,q):=fun d s j b q h=>by
  rcases Nat.lt_trichotomy d up.length with hd|hd|hd
  ·exact ⟨d,s,j,by rw [←p1 d s hd];exact h⟩
  ·subst hd
   by_cases hs:base≤s∧s<base+rows.length
   ·exact ⟨_,_,j,by rw [←p2 s hs];exact h⟩
   ·exact ⟨_,_,j,by rw [←p3 s hs];exact h⟩
  ·rw [p4 d s hd] at h;cases h
 have hLow:Low up.length (za rows 0::fr::up) pl (zu n rows 0 fr::up) pl2:=⟨fun d s hd=>⟨by rw [hlowU d s hd,hlowU2 d s hd],p1 d s hd⟩,hsome⟩
 have hKeep:Keep F (fr::up) (zu n rows 0 fr::up) pl pl2 w w:=by
  refine ⟨⟨rfl,rfl,rfl,Nat.le_refl _,fun _ _ _=>rfl⟩,by simp,fun d s b hb=>?_,fun d s j b q h=> .inl (by obtain ⟨d0,s0,j0,h0⟩:=hsome d s j b q h;exact ⟨d0,s0,j0,q,h0⟩)⟩
  have hlt:=zH hb
  simp only [List.length_cons] at hlt
  by_cases hd:d<up.length
  ·rw [hlowU d s hd] at hb
   exact ⟨b,by rw [hlowU d s hd];exact hb,Nat.le_refl _,fun _=>⟨Ext.of (p1 d s hd),rfl⟩⟩
  ·have hd2:d=up.length:=by omega
   subst hd2
   have hb':look s fr=some b:=by simpa [zB] using hb
   have hg:zB up.length s (zu n rows 0 fr::up)=look s (zu n rows 0 fr):=by simp [zB]
   rw [hg,hlk]
   by_cases hs:base≤s∧s<base+rows.length
   ·rw [if_pos hs]
    obtain ⟨B,hB⟩:=zz (l:=rows) (i:=s-base) (by omega)
    have hfresh:z9 fr s=b.g+1:=by simp [z9,hb']
    exact ⟨{B with g:=z9 fr s},by simp [hB],by simp [hfresh],fun h=>by simp [hfresh] at h⟩
   ·rw [if_neg hs]
    exact ⟨b,hb',Nat.le_refl _,fun _=>⟨Ext.of (p3 s hs),rfl⟩⟩
 refine ⟨pl2,zHa hm hLow (fun s j b q h=>?_) (fun s j s' j' b q q' h h'=>?_) p4 (fun s B hB=>?_),hKeep,?_⟩
 ·by_cases hs:base≤s∧s<base+rows.length
  ·rw [p2 s hs] at h
   obtain ⟨B,hB⟩:=zz (l:=rows) (i:=s-base) (by omega)
   exact ⟨⟨{B with g:=z9 fr s},by rw [hlk,if_pos hs,hB];rfl⟩,_,_,_,by omega,h⟩
  ·rw [p3 s hs] at h
   obtain ⟨_,_,_,B,hB⟩:=hm.live _ _ _ _ _ h
   rw [hfr] at hB
   exact ⟨⟨B,by rw [hlk,if_neg hs];exact hB⟩,_,_,_,Nat.le_refl _,h⟩
 ·by_cases hs:base≤s∧s<base+rows.length<;>by_cases hs':base≤s'∧s'<base+rows.length
  ·rw [p2 s hs] at h;rw [p2 s' hs'] at h'
   have:=(hm.inj _ _ _ _ _ _ b q q' h h').2
   omega
  ·rw [p2 s hs] at h;rw [p3 s' hs'] at h'
   have:=(hm.inj _ _ _ _ _ _ b q q' h h').1
   omega
  ·rw [p3 s hs] at h;rw [p2 s' hs'] at h'
   have:=(hm.inj _ _ _ _ _ _ b q q' h h').1
   omega
  ·rw [p3 s hs] at h;rw [p3 s' hs'] at h'
   exact (hm.inj _ _ _ _ _ _ b q q' h h').2
 ·rw [hlk] at hB
  by_cases hs:base≤s∧s<base+rows.length
  ·rw [if_pos hs] at hB
   obtain ⟨B0,hB0,rfl⟩:=Option.map_eq_some_iff.1 hB
   exact zCx hLow (hm.blk (up.length+1) (s-base) B0 (by rw [hrl];exact hB0)) (hrows B0 (zn hB0)).2 rfl rfl rfl (p2 s hs)
  ·rw [if_neg hs] at hB
   have hb:=hm.blk up.length s B (by rw [hfr];exact hB)
   have hLow2:Low (up.length+1) (za rows 0::fr::up) pl (fr::up) pl:=⟨fun d s hd=>⟨by
    by_cases hd2:d<up.length
    ·rw [hlowU2 d s hd2,hlowU d s hd2]
    ·have:d=up.length:=by omega
     subst this
     rw [hfr];simp [zB],rfl⟩,fun d n j b s h=>⟨d,n,j,h⟩⟩
   exact zAN hKeep (p3 s hs) (fun _ _ _ _=>rfl) (hLow2.blk (by omega) hb)
 ·intro u v hpo hr
  have:v.map (z7 up.length n fr)=(v.map (zAg (fr::up).length)).map (z7 up.length n fr):=by
   rw [AV.map_map]
   exact AV.map_congr fun c=>by cases c<;>rfl
  rw [this]
  refine zAv (fun x c hc h=>?_) (fun c h=>by subst h;rfl) hr
  obtain ⟨c0,h0,rfl⟩:=AV.mem_map hc
  have:=hpo c0 h0
  cases c0 with
  |p x=>exact hLow.repP h
  |own d i g m=>
   obtain ⟨h1,B,h2,h3,h4⟩:=h
   have h2':rows[i]?=some B:=by rw [←hrl i];exact h2
   have hi:i<rows.length:=(List.getElem?_eq_some_iff.1 h2').1
   have hs:base≤base+i∧base+i<base+rows.length:=by omega
   refine ⟨h1,{B with g:=z9 fr (base+i)},?_,Nat.le_refl _,fun _=>?_⟩
   ·have hg:zB up.length (base+i) (zu n rows 0 fr::up)=look (base+i) (zu n rows 0 fr):=by simp [zB]
    show zB up.length (base+i) _=_
    rw [hg,hlk,if_pos hs,Nat.add_sub_cancel_left,h2']
    rfl
   ·have hg0:=(hrows B (zn h2')).1
    have h5:=h4 hg0.symm
    have hpl:pl2 up.length (n*64+40+i)=pl (fr::up).length i:=by
     rw [show n*64+40+i=base+i from rfl,p2 _ hs,Nat.add_sub_cancel_left];rfl
    rw [hpl]
    exact h5
  |ptr d i g j o=>
   obtain ⟨h1,B,h2,h3,h4⟩:=h
   have h2':rows[i]?=some B:=by rw [←hrl i];exact h2
   have hi:i<rows.length:=(List.getElem?_eq_some_iff.1 h2').1
   have hs:base≤base+i∧base+i<base+rows.length:=by omega
   refine ⟨h1,{B with g:=z9 fr (base+i)},?_,Nat.le_refl _,fun _=>?_⟩
   ·have hg:zB up.length (base+i) (zu n rows 0 fr::up)=look (base+i) (zu n rows 0 fr):=by simp [zB]
    show zB up.length (base+i) _=_
    rw [hg,hlk,if_pos hs,Nat.add_sub_cancel_left,h2']
    rfl
   ·have hg0:=(hrows B (zn h2')).1
    have h5:=h4 hg0.symm
    have hpl:pl2 up.length (n*64+40+i)=pl (fr::up).length i:=by
     rw [show n*64+40+i=base+i from rfl,p2 _ hs,Nat.add_sub_cancel_left];rfl
    rw [hpl]
    exact h5
  |_=>simp [CV.po] at this
end
end Go.Eng

