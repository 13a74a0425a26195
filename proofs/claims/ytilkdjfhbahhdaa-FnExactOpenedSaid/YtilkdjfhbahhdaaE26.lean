import Derived.Test.YtilkdjfhbahhdaaE25
import Derived.Lib.SliceRun
set_option linter.unusedVariables false
set_option linter.unusedSimpArgs false
namespace Go.Eng
open Go.RowKit
section
variable {P:Program} {F F':Nat→Prop} {G:Nat→Option Obj} {N0:Base G} {T:Nat} {pl pl' pl0:Pl} {st st':St} {a:Act} {w w' w0:World} {fs fs':List Frame} {fr f':Frame} {up up' up0:List Frame} {Q:Exit→Act→World→Prop}
def zFS (F:Nat→Prop) (fs:List Frame) (pl:Pl) (w:World) (u:Value) (c:Bool×List CV):Prop:=
 (c.1=true∧∃ys:List Value,u= .agg ys.toArray∧zK F fs pl w ys c.2)∨(c.1=false∧∃x,c.2= [x]∧zAM F fs pl w u x)
def RepL (F:Nat→Prop) (fs:List Frame) (pl:Pl) (w:World) (us:List Value) (vs:List (Bool×List CV)):Prop:=
 us.length=vs.length∧∀(i:Nat) u c,us[i]?=some u→vs[i]?=some c→zFS F fs pl w u c
theorem RepL.nil:RepL F fs pl w [] []:=⟨rfl,fun i u c hu=>by simp at hu⟩
theorem RepL.cons {u:Value} {c:Bool×List CV} {us:List Value} {vs:List (Bool×List CV)} (h:zFS F fs pl w u c) (h':RepL F fs pl w us vs):RepL F fs pl w (u::us) (c::vs):=by
 refine ⟨by simp [h'.1],fun i u' c' hu hc=>?_⟩
 cases i with
 |zero=>
  simp only [List.getElem?_cons_zero,zM] at hu hc
  subst hu;subst hc;exact h
 |succ i=>exact h'.2 i u' c' (by simpa using hu) (by simpa using hc)
theorem RepL.uncons {c:Bool×List CV} {us:List Value} {vs:List (Bool×List CV)} (h:RepL F fs pl w us (c::vs)):∃u us',us=u::us'∧zFS F fs pl w u c∧RepL F fs pl w us' vs:=by
 match us,h with
 | [],h=>exact absurd h.1 (by simp)
 |u::us,h=>exact ⟨u,us,rfl,h.2 0 u c rfl rfl,by simpa using h.1,fun i u' c' hu hc=>h.2 (i+1) u' c' (by simpa using hu) (by simpa using hc)⟩
theorem Keep.rep1 (h:Keep F fs fs' pl pl' w w') {u:Value} {c:Bool×List CV} (hr:zFS F fs pl w u c):zFS F fs' pl' w' u c:=by
 rcases hr with ⟨e,ys,h1,h2⟩|⟨e,x,h1,h2⟩
 ·exact .inl ⟨e,ys,h1,h.repCs h2⟩
 ·exact .inr ⟨e,x,h1,h.repC h2⟩
theorem Keep.repL (h:Keep F fs fs' pl pl' w w') {us:List Value} {vs:List (Bool×List CV)} (hr:RepL F fs pl w us vs):RepL F fs' pl' w' us vs:=
 ⟨hr.1,fun i u c hu hc=>h.rep1 (hr.2 i u c hu hc)⟩
theorem zEF {us:List Value} {vs:List (Bool×List CV)} (hr:RepL F fs pl w us vs):zd F fs pl w (if h:us.length=1 then us[0] else .tuple us.toArray) (zAF vs):=by
 by_cases hl:vs.length=1
 ·match vs,hl,hr with
  | [(g,cs)],_,hr=>
   obtain ⟨u,us',rfl,h1,h2⟩:=hr.uncons
   have:us'= []:=zAQ h2.1
   subst this
   rcases h1 with ⟨e,ys,h3,h4⟩|⟨e,y,h3,h4⟩
   ·simp only at e h4
    subst e
    exact ⟨ys,h3,h4⟩
   ·simp only at e h3
    subst e;subst h3
    exact h4
 ·have hne:¬us.length=1:=by rw [hr.1];exact hl
  have ha:zAF vs= .tup vs:=by
   match vs,hl with
   | [],_=>rfl
   | [_],hl=>exact absurd rfl hl
   |_::_::_,_=>unfold zAF;split<;>simp_all
  rw [ha,dif_neg hne]
  exact ⟨us,rfl,hr.1,hr.2⟩
def zAR (tmps:Array Value):ResultVar→Sem Value
 | .tmp t=>pure (tmps.getD t undef)
 | .cell a t=>do loadVar t (←asAddr (tmps.getD a undef))
theorem zEG (hm:MemOK F N0 (st.fr::st.up) pl w) {tmps:Array Value} (ht:∀n v,look n st.t=some v→zd F (st.fr::st.up) pl w (tmps.getD n undef) v):
  ∀(rs:List ResultVar) (ks:List (Nat⊕(Nat×Bool×Nat))) (vs:List (Bool×List CV)),rs.mapM (zCS P)=some ks→zBU st ks=some vs→∃us,(rs.mapM (zAR tmps)).run P w= .ok us w∧RepL F (st.fr::st.up) pl w us vs
 | [],ks,vs,hc,h=>by
  simp only [List.mapM_nil,Option.pure_def,zM] at hc
  subst hc
  simp only [zBU,zM] at h
  subst h
  exact ⟨[],by simp,RepL.nil⟩
 |r::rs,ks,vs,hc,h=>by
  simp only [List.mapM_cons,Option.pure_def,Option.bind_eq_bind,zN,zM] at hc
  obtain ⟨k,hk,ks',hks,rfl⟩:=hc
  have hev:∀n,zd F (st.fr::st.up) pl w (tmps.getD n undef) (st.eval (.t n)):=fun n=>by
   simp only [St.eval]
   split
   ·exact ht n _ ‹_›
   ·trivial
  have fin:∀{u:Value} {c:Bool×List CV} {vs':List (Bool×List CV)},(zAR tmps r).run P w= .ok u w→zFS F (st.fr::st.up) pl w u c→zBU st ks'=some vs'→vs=c::vs'→∃us,((r::rs).mapM (zAR tmps)).run P w= .ok us w∧RepL F (st.fr::st.up) pl w us vs:=by
   intro u c vs' hrun hrep hres hvs
   obtain ⟨us,h1,h2⟩:=zEG hm ht rs ks' vs' hks hres
   subst hvs
   exact ⟨u::us,by simp [List.mapM_cons,hrun,h1],h2.cons hrep⟩
  cases r with
  |tmp t=>
   simp only [zCS,zM] at hk
   subst hk
   simp only [zBU] at h
   have hv:=hev t
   split at h
   ·rename_i x hx
    obtain ⟨vs',h1,rfl⟩:=Option.map_eq_some_iff.1 h
    rw [hx] at hv
    exact fin (by simp [zAR]) (.inr ⟨rfl,x,rfl,hv⟩) h1 rfl
   ·rename_i cs hx
    obtain ⟨vs',h1,rfl⟩:=Option.map_eq_some_iff.1 h
    rw [hx] at hv
    obtain ⟨ys,h2,h3⟩:=hv
    exact fin (by simp [zAR]) (.inl ⟨rfl,ys,h2,h3⟩) h1 rfl
   ·cases h
  |cell ad t=>
   simp only [zCS,zL] at hk
   obtain ⟨g,hg,rfl⟩:=hk
   simp only [zBU,zN,zL] at h
   obtain ⟨cs,h1,v,h2,vs',h3,rfl⟩:=h
   obtain ⟨ad',us,h4,h5,h6,h7⟩:=zDt hm h1 (hev ad)
   obtain ⟨l1,l2⟩:=zDG hg h5 h6
   rcases zGl h2 h7 with ⟨e,h8⟩|⟨e,u,h8,h9⟩
   ·exact fin (by simp [zAR,asAddr,h4,l1 e]) (.inl ⟨e,us,rfl,h7⟩) h3 rfl
   ·subst h8
    subst e
    obtain ⟨x,rfl⟩:∃x,cs= [x]:=List.length_eq_one_iff.1 h7.1.symm
    exact fin (by simp [zAR,asAddr,h4,l2 rfl u rfl]) (.inr ⟨rfl,x,rfl,(h7.2 0 u x rfl rfl).1⟩) h3 rfl
theorem zHi:∀{vs ls:List (Bool×List CV)} {st st':St} {pl:Pl} {us:List Value},MemOK F N0 (st.fr::st.up) pl w→N0.n≤w.heap.size→zAC st vs=some (ls,st')→RepL F (st.fr::st.up) pl w us vs→
  ∃pl',Same F N0 pl st st' w pl'∧RepL F (st'.fr::st'.up) pl' w us ls∧∀c∈ls,∀x∈c.2,∃p,x= .p p
 | [],ls,st,st',pl,us,hm,hN,h,hr=>by
  simp only [zAC,zM,Prod.mk.injEq] at h
  obtain ⟨rfl,rfl⟩:=h
  exact ⟨pl,Same.refl hm,hr,fun c hc=>by cases hc⟩
 |(g,cs)::vs,ls,st,st',pl,us,hm,hN,h,hr=>by
  simp only [zAC,zN,zL,Prod.mk.injEq,Prod.exists] at h
  obtain ⟨ps,st1,h1,l,st2,h2,rfl,rfl⟩:=h
  obtain ⟨u,us',rfl,h3,h4⟩:=hr.uncons
  have key:∃pl1,Same F N0 pl st st1 w pl1∧zFS F (st1.fr::st1.up) pl1 w u (g,ps.map CV.p):=by
   rcases h3 with ⟨e,ys,h5,h6⟩|⟨e,x,h5,h6⟩
   ·obtain ⟨pl1,s1,r1⟩:=zAu hm hN h1 h6
    exact ⟨pl1,s1,.inl ⟨e,ys,h5,r1.cs⟩⟩
   ·simp only at h5
    subst h5
    have h7:=h1
    simp only [zq,zN,zM,Prod.mk.injEq,Prod.exists] at h7
    obtain ⟨p,st3,h8,ps2,st4,⟨rfl,rfl⟩,rfl,rfl⟩:=h7
    obtain ⟨pl1,s1,r1⟩:=zCD hm hN h8 h6
    exact ⟨pl1,s1,.inr ⟨e,.p p,rfl,r1⟩⟩
  obtain ⟨pl1,s1,r1⟩:=key
  obtain ⟨pl2,s2,r2,r3⟩:=zHi s1.mem hN h2 (s1.keep.repL h4)
  refine ⟨pl2,s1.trans s2,r2.cons (s2.keep.rep1 r1),fun c hc x hx=>?_⟩
  rcases List.mem_cons.1 hc with rfl|hc
  ·obtain ⟨p,_,rfl⟩:=List.mem_map.1 hx
   exact ⟨p,rfl⟩
  ·exact r3 c hc x hx
theorem zE4:∀(l:List AV) (i n:Nat),look n (zDn l i)=if i≤n then l[n-i]? else none
 | [],i,n=>by simp [zDn,look]
 |x::r,i,n=>by
  simp only [zDn,look]
  by_cases h:i=n
  ·subst h;simp
  ·rw [if_neg h,zE4 r (i+1) n]
   by_cases h2:i+1≤n
   ·rw [if_pos h2,if_pos (by omega)]
    obtain ⟨k,rfl⟩:∃k,n=i+1+k:=⟨n-(i+1),by omega⟩
    rw [show i+1+k-i=k+1 by omega,show i+1+k-(i+1)=k by omega]
    rfl
   ·rw [if_neg h2,if_neg (by omega)]
theorem zBs (d n:Nat) (up:List Frame):zB d n ([]::up)=zB d n up:=by
 simp only [zB]
 split
 ·rename_i h
  simp only [look]
  cases hq:zB d n up with
  |none=>rfl
  |some B=>have:=zH hq;omega
 ·rfl
theorem zKO (m:Nat):Low m up pl ([]::up) pl:=⟨fun d n _=>⟨zBs d n up,rfl⟩,fun d n j b s h=>⟨d,n,j,h⟩⟩
theorem zKP (hm:MemOK F N0 up pl w):MemOK F N0 ([]::up) pl w:=
 ⟨fun d n j b s h=>by rw [zBs];exact hm.live d n j b s h,hm.inj,fun d n B hB=>by
  rw [zBs] at hB
  exact (zKO (d+1)).blk (Nat.lt_succ_self d) (hm.blk d n B hB),hm.fsz,hm.fix⟩
theorem zII {u:Value} {v:AV} (hv:∀c∈v.cvs,∃p,c= .p p) (hP:∀{u p},RepP (Own F pl) w u p→RepP (Own F' pl') w' u p) (h:zd F fs pl w u v):zd F' fs' pl' w' u (v.map (zAg up.length)):=
 zAv (fun u c hc h=>by obtain ⟨p,rfl⟩:=hv c hc;exact hP h) (fun c h=>by subst h;rfl) h
theorem zEH {l:List (Bool×List CV)} {c:CV} (h:c∈(zAF l).cvs):∃x∈l,c∈x.2:=by
 unfold zAF at h
 split at h
 ·exact ⟨_,List.mem_cons_self ..,h⟩
 ·exact ⟨_,List.mem_cons_self ..,by simpa [AV.cvs] using h⟩
 ·simp only [AV.cvs,List.mem_flatMap] at h
  exact h
theorem zIJ (res:List Nat):∀(k:KCode) (p:Nat) (env:List (Nat×List Nat)) (out:List Nat),zl (zAP res p k env out)=zl k:=by
 intro k
 induction k with
 |seq a b iha ihb=>intro p env out;simp only [zAP,zl,iha,ihb]
 |cond c a b iha ihb=>intro p env out;simp only [zAP,zl,iha,ihb]
 |block id c ih=>intro p env out;simp only [zAP,zl,ih]
 |loop mk l os c ih=>intro p env out;simp only [zAP,zl,ih]
 |_=>intro p env out;rfl
theorem zGG {c c':CV} {B:Blk} (h:zFj st c=some (c',B)):∃n B0,zB st.up.length n (st.fr::st.up)=some B0∧B={B0 with g:=0}∧B0.k.okO=true∧c'.po=true∧
  ∀{F:Nat→Prop} {pl pl3:Pl} {w:World} {v:Value},pl3 st.up.length 0=pl st.up.length n→zAM F (st.fr::st.up) pl w v c→zAM F (za [B] 0::st.up) pl3 w v (zAg st.up.length c'):=by
 unfold zFj at h
 split at h
 ·rename_i d n g
  split at h
  ·rename_i hd
   subst hd
   split at h
   ·rename_i g' sz ty cells hB
    split at h
    ·rename_i hc
     obtain ⟨rfl,hp⟩:=hc
     cases h
     refine ⟨n,_,hB,rfl,hp,rfl,fun {F pl pl3 w v} q0 hr=>?_⟩
     obtain ⟨h1,B1,h2,h3,h4⟩:=hr
     have h2:some B1=some _:=h2.symm.trans hB
     cases h2
     obtain ⟨b,s,h5,h6⟩:=h4 rfl
     exact ⟨h1,⟨0,sz,ty,.box cells⟩,by simp [za,zB,look],Nat.le_refl _,fun _=>⟨b,s,by rw [q0];exact h5,by simpa using h6⟩⟩
    ·cases h
   ·cases h
  ·cases h
 ·rename_i d n g m
  split at h
  ·rename_i hd
   subst hd
   split at h
   ·rename_i g' sz ty rows hB
    split at h
    ·rename_i hc
     subst hc
     cases h
     refine ⟨n,_,hB,rfl,rfl,rfl,fun {F pl pl3 w v} q0 hr=>?_⟩
     obtain ⟨h1,B1,h2,h3,h4⟩:=hr
     have h2:some B1=some _:=h2.symm.trans hB
     cases h2
     refine ⟨h1,⟨0,sz,ty,.row rows⟩,by simp [za,zB,look],Nat.le_refl _,fun _=>?_⟩
     rw [q0]
     exact h4 rfl
    ·cases h
   ·rename_i g' sz ty cols rows hB
    split at h
    ·rename_i hc
     subst hc
     cases h
     refine ⟨n,_,hB,rfl,rfl,rfl,fun {F pl pl3 w v} q0 hr=>?_⟩
     obtain ⟨h1,B1,h2,h3,h4⟩:=hr
     have h2:some B1=some _:=h2.symm.trans hB
     cases h2
     refine ⟨h1,⟨0,sz,ty,.deep cols rows⟩,by simp [za,zB,look],Nat.le_refl _,fun _=>?_⟩
     rw [q0]
     exact h4 rfl
    ·cases h
   ·cases h
  ·cases h
 ·cases h
theorem zG1 (f:CV→CV):∀l:List (Bool×List CV),(zAF l).map f=zAF (l.map fun x=>(x.1,x.2.map f))
 | []=>rfl
 | [(true,cs)]=>rfl
 | [(false,[])]=>rfl
 | [(false,[x])]=>rfl
 | [(false,x::y::r)]=>rfl
 |(a,b)::(c,d)::r=>by
  have h1:∀(p q:Bool×List CV) (r:List (Bool×List CV)),zAF (p::q::r)= .tup (p::q::r):=fun p q r=>by
   unfold zAF;split<;>simp_all
  rw [List.map_cons,List.map_cons,h1,h1]
  simp only [AV.map,List.map_cons]
theorem zGH {fs':List Frame} {m:Nat} {us:List Value} {cs:List CV} (hP:∀{u p},RepP (Own F pl) w u p→RepP (Own F pl') w u p) (h:cs.all isP=true) (hr:zK F fs pl w us cs):zK F fs' pl' w us (cs.map (zAg m)):=
 ⟨by rw [List.length_map];exact hr.1,fun i u c hu hc=>by
  rw [List.getElem?_map] at hc
  obtain ⟨c0,h0,rfl⟩:=Option.map_eq_some_iff.1 hc
  have h9:=List.all_eq_true.1 h c0 (zn h0)
  obtain ⟨h1,h2⟩:=hr.2 i u _ hu h0
  cases c0 with
  |p x=>exact ⟨hP h1,h2⟩
  |_=>cases h9⟩
theorem zHj {fs':List Frame} {m:Nat} {u:Value} {g:Bool} {cs:List CV} (hP:∀{u p},RepP (Own F pl) w u p→RepP (Own F pl') w u p) (h:cs.all isP=true) (hr:zFS F fs pl w u (g,cs)):zFS F fs' pl' w u (g,cs.map (zAg m)):=by
 rcases hr with ⟨e,ys,h1,h2⟩|⟨e,x,h1,h2⟩
 ·exact .inl ⟨e,ys,h1,zGH hP h h2⟩
 ·simp only at h1
  subst h1
  have h9:=List.all_eq_true.1 h x (List.mem_cons_self ..)
  cases x with
  |p x=>exact .inr ⟨e,.p x,rfl,hP h2⟩
  |_=>cases h9
theorem zFT {fs':List Frame} {m:Nat} (hP:∀{u p},RepP (Own F pl) w u p→RepP (Own F pl') w u p):∀{l:List (Bool×List CV)} {us:List Value},(l.all fun x=>x.2.all isP)=true→RepL F fs pl w us l→RepL F fs' pl' w us (l.map fun x=>(x.1,x.2.map (zAg m)))
 | [],us,h,hr=>by
  have:=zAQ hr.1
  subst this
  exact RepL.nil
 |(g,cs)::l,us,h,hr=>by
  obtain ⟨u,us',rfl,h1,h2⟩:=hr.uncons
  simp only [List.all_cons,Bool.and_eq_true] at h
  exact RepL.cons (zHj hP h.1 h1) (zFT hP h.2 h2)
theorem zEI {c:CV} (h:isP c=true):c.po=true:=by
 cases c with
 |p x=>rfl
 |_=>cases h
theorem zJW {fs:List Frame} {u:Value} {us:List Value} {c:CV} {cs:List CV} (h1:zAM F fs pl w u c) (h2:c= .u∨u.oneCell'=true) (h:zK F fs pl w us cs):zK F fs pl w (u::us) (c::cs):=
 ⟨by simp [h.1],fun i v d hv hd=>by
  cases i with
  |zero=>cases hv;cases hd;exact ⟨h1,h2⟩
  |succ i=>exact h.2 i v d (by simpa using hv) (by simpa using hd)⟩
theorem zGI {fs:List Frame} {us:List Value} {c:CV} {cs:List CV} (h:zK F fs pl w us (c::cs)):∃u us',us=u::us'∧zAM F fs pl w u c∧(c= .u∨u.oneCell'=true)∧zK F fs pl w us' cs:=by
 cases us with
 |nil=>have:=h.1;simp at this
 |cons u us=>
  obtain ⟨h1,h2⟩:=h.2 0 u c rfl rfl
  exact ⟨u,us,rfl,h1,h2,by have:=h.1;simpa using this,fun i v d hv hd=>h.2 (i+1) v d (by simpa using hv) (by simpa using hd)⟩
theorem zIK {c c':CV} {B:Blk} (h:zFj st c=some (c',B)):c≠ .u:=by
 rintro rfl
 cases h
theorem zGJ:∀{cs cs':List CV} {B:Blk},zHE st cs=some (cs',B)→∃n B0,zB st.up.length n (st.fr::st.up)=some B0∧B={B0 with g:=0}∧B0.k.okO=true∧(∀c∈cs',c.po=true)∧
  ∀{F:Nat→Prop} {pl pl3:Pl} {w:World} {us:List Value},pl3 st.up.length 0=pl st.up.length n→(∀{u p},RepP (Own F pl) w u p→RepP (Own F pl3) w u p)→zK F (st.fr::st.up) pl w us cs→zK F (za [B] 0::st.up) pl3 w us (cs'.map (zAg st.up.length))
 | [],cs',B,h=>by cases h
 |c::r,cs',B,h=>by
  unfold zHE at h
  split at h
  ·rename_i hp
   obtain ⟨⟨l2,B2⟩,h1,h2⟩:=Option.map_eq_some_iff.1 h
   cases h2
   obtain ⟨n,B0,k1,k2,k3,k4,k5⟩:=zGJ h1
   refine ⟨n,B0,k1,k2,k3,fun x hx=>?_,fun q hP hr=>?_⟩
   ·rcases List.mem_cons.1 hx with rfl|hx
    ·exact zEI hp
    ·exact k4 x hx
   ·obtain ⟨u,us',rfl,h3,h4,h5⟩:=zGI hr
    cases c with
    |p x=>exact zJW (hP h3) (.inr (RepP.one (show RepP _ _ _ x from h3)).1) (k5 q hP h5)
    |_=>simp [isP] at hp
  ·split at h
   ·rename_i ha
    obtain ⟨⟨c',B2⟩,h1,h2⟩:=Option.map_eq_some_iff.1 h
    cases h2
    obtain ⟨n,B0,k1,k2,k3,k4,k5⟩:=zGG h1
    refine ⟨n,B0,k1,k2,k3,fun x hx=>?_,fun q hP hr=>?_⟩
    ·rcases List.mem_cons.1 hx with rfl|hx
     ·exact k4
     ·exact zEI (List.all_eq_true.1 ha x hx)
    ·obtain ⟨u,us',rfl,h3,h4,h5⟩:=zGI hr
     exact zJW (k5 q h3) (.inr (h4.resolve_left (zIK h1))) (zGH hP ha h5)
   ·cases h
theorem zGK:∀{l l':List (Bool×List CV)} {B:Blk},zHF st l=some (l',B)→∃n B0,zB st.up.length n (st.fr::st.up)=some B0∧B={B0 with g:=0}∧B0.k.okO=true∧(∀x∈l',∀c∈x.2,c.po=true)∧
  ∀{F:Nat→Prop} {pl pl3:Pl} {w:World} {us:List Value},pl3 st.up.length 0=pl st.up.length n→(∀{u p},RepP (Own F pl) w u p→RepP (Own F pl3) w u p)→RepL F (st.fr::st.up) pl w us l→RepL F (za [B] 0::st.up) pl3 w us (l'.map fun x=>(x.1,x.2.map (zAg st.up.length)))
 | [],l',B,h=>by cases h
 |(g,cs)::r,l',B,h=>by
  unfold zHF at h
  split at h
  ·rename_i hp
   obtain ⟨⟨l2,B2⟩,h1,h2⟩:=Option.map_eq_some_iff.1 h
   cases h2
   obtain ⟨n,B0,k1,k2,k3,k4,k5⟩:=zGK h1
   refine ⟨n,B0,k1,k2,k3,fun x hx c hc=>?_,fun q hP hr=>?_⟩
   ·rcases List.mem_cons.1 hx with rfl|hx
    ·exact zEI (List.all_eq_true.1 hp c hc)
    ·exact k4 x hx c hc
   ·obtain ⟨u,us',rfl,h3,h4⟩:=hr.uncons
    exact RepL.cons (zHj hP hp h3) (k5 q hP h4)
  ·split at h
   ·rename_i c hp
    split at h
    ·rename_i ha
     obtain ⟨⟨c',B2⟩,h1,h2⟩:=Option.map_eq_some_iff.1 h
     cases h2
     obtain ⟨n,B0,k1,k2,k3,k4,k5⟩:=zGG h1
     refine ⟨n,B0,k1,k2,k3,fun x hx c hc=>?_,fun q hP hr=>?_⟩
     ·rcases List.mem_cons.1 hx with rfl|hx
      ·simp only [List.mem_singleton] at hc
       subst hc
       exact k4
      ·exact zEI (List.all_eq_true.1 (List.all_eq_true.1 ha x hx) c hc)
     ·obtain ⟨u,us',rfl,h3,h4⟩:=hr.uncons
      rcases h3 with ⟨e,_⟩|⟨e,x,h5,h6⟩
      ·cases e
      ·cases h5
       exact RepL.cons (.inr ⟨rfl,_,rfl,k5 q h6⟩) (zFT hP ha h4)
    ·cases h
   ·rename_i cs hp
    split at h
    ·rename_i ha
     obtain ⟨⟨cs',B2⟩,h1,h2⟩:=Option.map_eq_some_iff.1 h
     cases h2
     obtain ⟨n,B0,k1,k2,k3,k4,k5⟩:=zGJ h1
     refine ⟨n,B0,k1,k2,k3,fun x hx c hc=>?_,fun q hP hr=>?_⟩
     ·rcases List.mem_cons.1 hx with rfl|hx
      ·exact k4 c hc
      ·exact zEI (List.all_eq_true.1 (List.all_eq_true.1 ha x hx) c hc)
     ·obtain ⟨u,us',rfl,h3,h4⟩:=hr.uncons
      rcases h3 with ⟨_,ys,rfl,h6⟩|⟨e,_⟩
      ·exact RepL.cons (.inl ⟨rfl,ys,rfl,k5 q hP h6⟩) (zFT hP ha h4)
      ·cases e
    ·cases h
   ·cases h
theorem zGL {r:Res} (h:zB7 r=true):r.up= []∧((r.v= .c (.p (.ls []))∧r.rows= [])∨∃sz ty,r.v= .c (.own 0 0 0 0)∧r.rows= [⟨0,sz,ty,.row []⟩]):=by
 obtain ⟨v,up,rows⟩:=r
 simp only [zB7,Bool.and_eq_true,List.isEmpty_iff] at h
 obtain ⟨h1,h⟩:=h
 refine ⟨h1,?_⟩
 split at h
 ·simp only [List.isEmpty_iff] at h
  subst h
  exact .inl ⟨rfl,rfl⟩
 ·simp only [Bool.and_eq_true,beq_iff_eq,List.isEmpty_iff] at h
  obtain ⟨rfl,rfl⟩:=h
  exact .inr ⟨_,_,rfl,rfl⟩
 ·cases h
theorem zKQ {r:Res} (he:zB7 r=true) {w':World} {fs':List Frame} (hm:MemOK F N0 fs' pl' w') (hk:Step pl w w'):RetOK F N0 [] pl w r (.slice none 0 0) w':=by
 have keep:KeepU [] [] pl zAY w w':=⟨hk,rfl,fun d n b hb=>by simp [zB] at hb,fun d n j b s h=>by cases h⟩
 obtain ⟨h1,h⟩:=zGL he
 rcases h with ⟨h2,h3⟩|⟨sz,ty,h2,h3⟩
 ·refine ⟨⟨zAY,?_,?_,?_⟩,fun c hc=>?_,fun B hB=>?_⟩
  ·rw [h2]
   exact RepP.nls
  ·rw [h1,h3]
   exact ⟨fun d n j b s h=>(by cases h),fun d n j d' n' j' b s s' h=>(by cases h),fun d n B hB=>(by simp [za,zB,look] at hB),hm.fsz,hm.fix⟩
  ·rw [h1];exact keep
  ·rw [h2] at hc
   simp only [AV.cvs,List.mem_singleton] at hc
   subst hc
   rfl
  ·rw [h3] at hB;cases hB
 ·refine ⟨⟨zAY,?_,?_,?_⟩,fun c hc=>?_,fun B hB=>?_⟩
  ·rw [h1,h2,h3]
   exact ⟨rfl,⟨0,sz,ty,.row []⟩,by simp [za,zB,look],Nat.le_refl _,fun _=> .inl ⟨rfl,rfl,rfl⟩⟩
  ·rw [h1,h3]
   refine ⟨fun d n j b s h=>(by cases h),fun d n j d' n' j' b s s' h=>(by cases h),fun d n B hB=>?_,hm.fsz,hm.fix⟩
   have hlt:=zH hB
   simp only [List.length_cons,List.length_nil] at hlt
   have hd:d=0:=by omega
   subst hd
   simp only [za,zB,List.length_nil,if_true,look] at hB
   split at hB
   ·cases hB
    exact .inl ⟨rfl,rfl⟩
   ·cases hB
  ·rw [h1];exact keep
  ·rw [h2] at hc
   simp only [AV.cvs,List.mem_singleton] at hc
   subst hc
   rfl
  ·rw [h3] at hB
   simp only [List.mem_singleton] at hB
   subst hB
   exact ⟨rfl,rfl⟩
theorem zEJ {d:Nat} {u:Value} {a:Act} (h:d<a.tmps.size):(a.put (some d) u).tmps.getD d undef=u:=by simp [Act.put,h]
theorem zJX {d n:Nat} {u:Value} {a:Act} (h:d≠n):(a.put (some d) u).tmps.getD n undef=a.tmps.getD n undef:=by
 simp [Act.put,Array.getD_eq_getD_getElem?,Array.getElem?_setIfInBounds,h]
theorem zBG {d:Option Nat} {u:Value} {a:Act}:(a.put d u).tmps.size=a.tmps.size:=by cases d<;>simp [Act.put]
theorem zCJ {d:Option Nat} {u:Value} {a:Act}:(a.put d u).defers=a.defers:=by cases d<;>simp [Act.put]
theorem zEK {o:Oper} {a:Act} {w:World} {u:Value} {K:Act→World→Prop} {Q:Exit→Act→World→Prop} (h:(execOp a.eval o).run P w= .ok (.value u) w) (hK:K (a.put o.dst u) w):o.wp P a w K Q:=
 zFQ (zU (R:=fun u' w2=>u'=u∧w2=w) h ⟨rfl,rfl⟩ K fun u' w2 e=>by obtain ⟨rfl,rfl⟩:=e;exact hK)
theorem zE5 {o:Oper} (h:zJ3 o=true):o.op= .assign (.const (.slice none 0 0))∧o.dst=some 2∧o.guard=none:=by
 unfold zJ3 at h
 split at h
 ·exact ⟨by assumption,by assumption,by assumption⟩
 ·cases h
theorem zIL {o:Oper} (h:zKt o=true):o.op= .move (.tmp 0)∧o.dst=some 3∧o.guard=none:=by
 unfold zKt at h
 split at h
 ·exact ⟨by assumption,by assumption,by assumption⟩
 ·cases h
theorem zIM {o:Oper} (h:zKu P o=true):∃t e pos,o.op= .binOp .eql t (.tmp 3) (.const (.slice none 0 0)) pos∧P.underlying t=some (.slice e)∧o.dst=some 4∧o.guard=none:=by
 unfold zKu at h
 split at h
 ·rename_i t p h1 h2 h3
  split at h
  ·rename_i e he
   exact ⟨t,e,p,h1,he,h2,h3⟩
  ·cases h
 ·cases h
theorem zKR {run:zh} (hS:zA5 G P run) {h:Hints} {f:FuncId} {fn:Func} {n:Nat} {c:Code} {k0 kc:KCode} {pl0:Pl} {st0:St} {ex:Ex} {a:Act} {w1:World} (hc:zDq P fn=some c) (hk0:zX P h f c=some k0) (he:zl kc=zl k0) (hb:bnd T kc=true)
  (h1:zm run n kc st0=some (ex,st)) (hi:Inv F N0 T up pl w pl0 st0 a w1) {body:Code} (hbody:fn.body=some body) (hQ:∀pl' a' w',Inv F N0 T up pl w pl' st a' w'→Q (zKN ex) a' w')
  (h0:(zBJ P fn).isSome=true→4<T∧∃rows,look 0 st0.t=some (.c (.p (.ls rows)))∧(∀m,m≠0→look m st0.t=none)∧(rows= []→∀pl' st1 a' w',Inv F N0 T up pl w pl' st1 a' w'→a'.defers= []→a'.tmps.getD 2 undef= .slice none 0 0→Q .ret a' w')):body.wp P Q a w1:=by
 unfold zDq at hc
 cases hs:zBJ P fn with
 |none=>
  rw [hs] at hc
  simp only [hbody,zM] at hc
  subst hc
  exact zEE hS n _ k0 kc hk0 he hb h1 hi hQ
 |some c'=>
  rw [hs] at hc h0
  simp only [zM] at hc
  subst hc
  obtain ⟨hT,rows,g0,gm,hnil⟩:=h0 rfl
  unfold zBJ at hs
  rw [hbody] at hs
  split at hs
  ·rename_i b0 i opx j ops k opb d hbq
   cases hbq
   split at hs
   ·rename_i x m q b ex1 ex2 ex3 ex4
    split at hs
    ·rename_i hall
     cases hs
     simp only [Bool.and_eq_true] at hall
     obtain ⟨⟨⟨⟨⟨⟨hx,hbb⟩,hm⟩,hq⟩,hp⟩,hf⟩,ht⟩:=hall
     obtain ⟨x1,x2,x3⟩:=zE5 hx
     obtain ⟨b1,b2,b3⟩:=zE5 hbb
     obtain ⟨m1,m2,m3⟩:=zIL hm
     obtain ⟨t,e,pos,q1,q2,q3,q4⟩:=zIM hq
     simp only [zX,zN,zL] at hk0
     obtain ⟨k1,hk1,k2,hk2,rfl⟩:=hk0
     cases kc<;>simp only [zl,reduceCtorEq,KCode.seq.injEq] at he
     rename_i ka kb
     simp only [bnd,Bool.and_eq_true] at hb
     simp only [zm,zN] at h1
     obtain ⟨⟨e1,st1⟩,hev1,hev⟩:=h1
     have hst:e1= .normal∧∃v,st1.t=(2,v)::st0.t:=by
      obtain ⟨ks,hks,hk1⟩:=hk1
      simp only [Bool.false_eq_true,if_false,zM] at hk1
      subst hk1
      have he1:=he.1
      cases ka<;>simp only [zl,reduceCtorEq,KCode.ops.injEq] at he1
      rename_i l
      subst he1
      unfold zAa at hks
      rw [ex1] at hks
      simp only [List.mapM_cons,List.mapM_nil,Option.pure_def,Option.bind_eq_bind,zN,zM,x3] at hks
      obtain ⟨ko,⟨kk,hkk,rfl⟩,r,rfl,rfl⟩:=hks
      simp only [zm,zL,Prod.mk.injEq] at hev1
      obtain ⟨s1,hev1,rfl,rfl⟩:=hev1
      refine ⟨rfl,?_⟩
      unfold zAm at hkk
      rw [x1] at hkk
      simp only at hkk
      split at hkk
      ·cases hkk
       rw [x2] at hev1
       simp only [zA0,zQ,zC,Option.map_some,zG,zM] at hev1
       subst hev1
       exact ⟨_,rfl⟩
      ·cases hkk
     obtain ⟨rfl,v2,hst⟩:=hst
     refine wp_seq (zEE hS n _ k1 _ (by simp only [zX,zN];exact hk1) he.1 hb.1 hev1 hi fun pl' a' w' hi'=>?_)
     show Code.wp P _ Q a' w'
     have hsl:look 0 st1.t=some (.c (.p (.ls rows))):=by rw [hst];simpa [look] using g0
     have hr0:=hi'.rel.tmps 0 _ hsl
     have hr0:RepP (Own F pl') w' (a'.tmps.getD 0 undef) (.ls rows):=hr0
     have hz:=hi'.rel.size
     refine wp_seq (wp_seq (wp_region_list ?_))
     rw [ex2]
     refine wpList_plain m3 fun K hK=>zEK (u:=a'.tmps.getD 0 undef) (by simp [execOp,m1,Act.eval]) (hK _ _ ?_)
     rw [m2]
     have e3:(a'.put (some 3) (a'.tmps.getD 0 undef)).tmps.getD 3 undef=a'.tmps.getD 0 undef:=zEJ (by omega)
     generalize hv:a'.tmps.getD 0 undef=v at hr0 e3⊢
     have hsl2:∃ad nn cc,v= .slice ad nn cc:=by cases hr0<;>exact ⟨_,_,_,rfl⟩
     obtain ⟨ad,nn,cc,rfl⟩:=hsl2
     refine wpList_plain q4 fun K hK=>zEK (u:= .bool ad.isNone) (by
      exact zp (zAf (.inl (by simp)) (by simp)) (Lib.run_eql_slice_nil w' t e ad nn cc 0 0 q2) q1 e3 rfl) (hK _ _ (wpList_nil ?_))
     rw [q3]
     show Code.wp P _ _ _ w'
     have e4:((a'.put (some 3) (.slice ad nn cc)).put (some 4) (.bool ad.isNone)).tmps.getD 4 undef= .bool ad.isNone:=zEJ (by rw [zBG];omega)
     have rel2:Rel F N0 T pl' st1 ((a'.put (some 3) (.slice ad nn cc)).put (some 4) (.bool ad.isNone)) w':=by
      refine ⟨hi'.rel.mem,fun m x hx=>?_,by rw [zBG,zBG];exact hz,by rw [zCJ,zCJ];exact hi'.rel.defers,hi'.rel.low⟩
      have hm3:3≠m∧4≠m:=by
       constructor
       ·rintro rfl;rw [hst] at hx;simp [look,gm 3 (by decide)] at hx
       ·rintro rfl;rw [hst] at hx;simp [look,gm 4 (by decide)] at hx
      rw [zJX hm3.2,zJX hm3.1]
      exact hi'.rel.tmps m x hx
     have inv2:Inv F N0 T up pl w pl' st1 ((a'.put (some 3) (.slice ad nn cc)).put (some 4) (.bool ad.isNone)) w':=⟨rel2,hi'.keep⟩
     cases ad with
     |none=>
      refine wp_cond_true (by simpa [Act.eval] using e4) (wp_seq (wp_region_list ?_))
      rw [ex3]
      refine wpList_plain b3 fun K hK=>zEK (u:= .slice none 0 0) (by simp [execOp,b1,Act.eval]) (hK _ _ (wpList_nil ?_))
      rw [b2]
      refine wp_ret ?_
      have hre:rows= []:=by cases hr0;rfl
      have inv3:Inv F N0 T up pl w pl' {st1 with t:= []} (((a'.put (some 3) (.slice none nn cc)).put (some 4) (.bool (Option.isNone (none:Option Addr)))).put (some 2) (.slice none 0 0)) w':=
       ⟨⟨rel2.mem,(fun m x hx=>(by cases hx)),(by rw [zBG];exact rel2.size),(by rw [zCJ];exact rel2.defers),rel2.low⟩,hi'.keep⟩
      exact hnil hre pl' _ _ _ inv3 inv3.rel.defers (zEJ (by rw [zBG,zBG];omega))
     |some ad=>
      refine wp_cond_false (by simpa [Act.eval] using e4) (wp_skip ?_)
      exact zEE hS n d k2 kb hk2 he.2 hb.2 hev inv2 hQ
    ·cases hs
   ·cases hs
  ·cases hs
theorem zK4 {run:zh} (hS:zA5 G P run) {h:Hints} {f:FuncId} {kf:KFun} (hK:zBB P h f kf) {n:Nat} {args:List AV} {up:List Frame} {r:Res} (hl:args.length=kf.params.length) {e:Ex} {st:St}
  (h1:zm run n kf.body {t:=zDn args 0,fr:= [],up:=up}=some (e,st)) (h2:zCs kf e st.low=some r) (h3:zGf kf args up r=some r) {vals:List Value} (hm:MemOK F N0 up pl w) (hN:N0.n≤w.heap.size) (hv:zAW F up pl w vals args):Goes P f vals.toArray w (RetOK F N0 up pl w r):=by
 obtain ⟨fn,hf,hname,hcomp,hb⟩:=hK
 simp only [zDb,zN,zL] at hcomp
 obtain ⟨c,hbody,k0,hk0,rs,hrs,rfl⟩:=hcomp
 have hn : ¬ fn.name = "runtime.NumGoroutine" := by simpa using hname
 obtain ⟨body,hbd⟩:∃b,fn.body=some b:=by
  cases hq:fn.body with
  |some b=>exact ⟨b,rfl⟩
  |none=>simp [zDq,zBJ,hq] at hbody
 refine .inr ⟨by simp [callFunc,hf,hn,hbd],calls_of_wp hf hbd ?_⟩
 simp only at hl hb h1
 let T:=max fn.ntmps args.length
 have hT:(vals.toArray++Array.replicate (fn.ntmps-vals.toArray.size) undef).size=T:=by
  simp [T,hv.1];omega
 have hrel:Rel F N0 T pl {t:=zDn args 0,fr:= [],up:=up} {tmps:=vals.toArray++Array.replicate (fn.ntmps-vals.toArray.size) undef,defers:= []} w:=by
  refine ⟨zKP hm,fun i x hx=>?_,hT,rfl,hN⟩
  rw [zE4] at hx
  simp only [Nat.zero_le,if_true,Nat.sub_zero] at hx
  have hi:i<args.length:=(List.getElem?_eq_some_iff.1 hx).1
  obtain ⟨u,hu⟩:=zz (l:=vals) (i:=i) (by rw [hv.1];exact hi)
  have hg:(vals.toArray++Array.replicate (fn.ntmps-vals.toArray.size) undef).getD i undef=u:=by
   rw [Array.getD_eq_getD_getElem?,Array.getElem?_append_left (by simpa [hv.1] using hi)]
   simp [hu]
  simp only
  rw [hg]
  have:=hv.2 i u x hu hx
  exact zDP (fun d n=>zBs d n up) this
 refine zKR hS hbody hk0 (zIJ _ _ _ _ _) (by simpa [T,hl] using hb) h1 ⟨hrel,KeepU.refl⟩ hbd (fun pl' a' w' hi0=>?_) (fun hs=>?_)
 case refine_2=>
  have hn1:(zBJ P fn).isSome=true:=hs
  unfold zGf at h3
  simp only [hn1,if_true] at h3
  have hspec:4<fn.ntmps∧fn.results.toList= [.tmp 2]:=by
   obtain ⟨c',hc'⟩:=Option.isSome_iff_exists.1 hs
   unfold zBJ at hc'
   split at hc'
   ·split at hc'
    ·split at hc'
     ·rename_i hall
      simp only [Bool.and_eq_true,decide_eq_true_eq] at hall
      exact ⟨hall.2,by assumption⟩
     ·cases hc'
    ·cases hc'
   ·cases hc'
  split at h3
  ·rename_i rows
   split at h3
   ·rename_i hcond
    refine ⟨by simp only [T];omega,rows,by simp [zDn,look],fun m hm0=>by simp [zDn,look,Ne.symm hm0],fun hre pl' st1 a' w' hi' hd h2'=>?_⟩
    have hem:zB7 r=true:=by
     subst hre
     simpa using hcond
    refine ⟨hd,.slice none 0 0,?_,_,rfl,zKQ hem hi'.rel.mem hi'.keep.step⟩
    have hmm:(fn.results.mapM (zAR a'.tmps)).run P w'= .ok #[.slice none 0 0] w':=by
     rw [Array.mapM_eq_mapM_toList,hspec.2]
     simp [zAR,h2']
    have hres:results fn a'.tmps=(do let vs←fn.results.mapM (zAR a'.tmps);pure (if h:vs.size=1 then vs[0] else .tuple vs)):=by
     unfold results
     congr 2
    rw [hres]
    simp only [Sem.run_bind,hmm,Result.andThen_ok,Sem.run_pure]
    simp
   ·cases h3
  ·cases h3
 obtain ⟨hlow1,hlow2⟩:=zHd hi0.rel
 have hi:Inv F N0 T up pl w pl' st.low a' w':=⟨hlow1,hi0.keep.trans hlow2⟩
 clear hi0 hlow1 hlow2 h1
 generalize st.low=st at h2 hi
 have pfin:∀{ls:List (Bool×List CV)} {st':St} {pl2:Pl} {us:List Value},(fn.results.toList.mapM (zAR a'.tmps)).run P w'= .ok us w'→Same F N0 pl' st st' w' pl2→RepL F (st'.fr::st'.up) pl2 w' us ls→(∀c∈ls,∀x∈c.2,∃p,x= .p p)→
   a'.defers= []∧∃v,(results fn a'.tmps).run P w'= .ok v w'∧∃u,Ending.returned v= .returned u∧RetOK F N0 up pl w ⟨zAF ls,st'.up,[]⟩ u w':=by
  intro ls st' pl2 us u1 s1 s2 s3
  have hplain:∀c∈(zAF ls).cvs,∃p,c= .p p:=fun c hc=>by
   obtain ⟨x,hx,hc'⟩:=zEH hc
   exact s3 x hx c hc'
  let pl3:Pl:=fun d n=>if d<st'.up.length then pl2 d n else nop
  have q1:∀d n,d<st'.up.length→pl3 d n=pl2 d n:=fun d n h=>by simp [pl3,h]
  have q2:∀d n,¬d<st'.up.length→pl3 d n=nop:=fun d n h=>by simp [pl3,h]
  have hlow3:Low st'.up.length (st'.fr::st'.up) pl2 ([]::st'.up) pl3:=⟨fun d n h=>⟨by simp [zB,Nat.ne_of_lt h],q1 d n h⟩,fun d n j b s h=>by
   by_cases hd:d<st'.up.length
   ·exact ⟨d,n,j,by rw [←q1 d n hd];exact h⟩
   ·rw [q2 d n hd] at h;cases h⟩
  have hm3:MemOK F N0 ([]::st'.up) pl3 w':=zHa s1.mem hlow3 (fun n j b s h=>by rw [q2 _ n (Nat.lt_irrefl _)] at h;cases h) (fun n j n' j' b s s' h=>by rw [q2 _ n (Nat.lt_irrefl _)] at h;cases h) (fun d n h=>q2 d n (by omega)) (fun n B h=>by cases h)
  have hkeep:KeepU up st'.up pl pl3 w w':=by
   have k1:=hi.keep.trans (zAn s1.keep).u
   refine ⟨k1.step,k1.later.len,fun d n b hb=>?_,fun d n j b s h=>?_⟩
   ·obtain ⟨b',h3,h5⟩:=k1.later.blk d n b hb
    exact ⟨b',h3,fun e=>by rw [q1 d n (zH h3)];exact h5 e⟩
   ·by_cases hd:d<st'.up.length
    ·rw [q1 d n hd] at h;exact k1.later.new d n j b s h
    ·rw [q2 d n hd] at h;cases h
  have hfin:a'.defers= []∧∃v,(results fn a'.tmps).run P w'= .ok v w'∧∃u,Ending.returned v= .returned u∧RetOK F N0 up pl w ⟨zAF ls,st'.up,[]⟩ u w':=by
   refine ⟨hi.rel.defers,(if h:us.length=1 then us[0] else .tuple us.toArray),?_,_,rfl,⟨pl3,?_,hm3,hkeep⟩,fun c hc=>by obtain ⟨p,rfl⟩:=hplain c hc;rfl,fun B hB=>by cases hB⟩
   ·have hmm:(fn.results.mapM (zAR a'.tmps)).run P w'= .ok us.toArray w':=by
     rw [Array.mapM_eq_mapM_toList]
     simp [u1]
    have hres:results fn a'.tmps=(do let vs←fn.results.mapM (zAR a'.tmps);pure (if h:vs.size=1 then vs[0] else .tuple vs)):=by
     unfold results
     congr 2
    rw [hres]
    simp only [Sem.run_bind,hmm,Result.andThen_ok,Sem.run_pure]
    simp
   ·exact zII hplain (fun h=>hlow3.repP h) (zEF s2)
  exact hfin
 unfold zCs at h2
 split at h2
 ·rename_i hcond
  simp only [zN,zL,Prod.exists] at h2
  obtain ⟨vs,g1,ls,st',g2,rfl⟩:=h2
  obtain ⟨us,u1,u2⟩:=zEG hi.rel.mem hi.rel.tmps fn.results.toList rs vs hrs g1
  obtain ⟨pl2,s1,s2,s3⟩:=zHi hi.rel.mem hi.rel.low g2 u2
  have hfin:=pfin u1 s1 s2 s3
  rcases hcond.1 with rfl|rfl
  ·exact hfin
  ·exact hfin
 ·split at h2
  ·rename_i hcond
   obtain ⟨vs,g1,h2⟩:=Option.bind_eq_some_iff.1 h2
   obtain ⟨us,u1,u2⟩:=zEG hi.rel.mem hi.rel.tmps fn.results.toList rs vs hrs g1
   unfold zGe at h2
   split at h2
   ·rename_i hp
    cases h2
    have hfin:=pfin u1 (Same.refl hi.rel.mem) u2 (fun c hc x hx=>by
     have h1:=List.all_eq_true.1 (List.all_eq_true.1 hp c hc) x hx
     cases x with
     |p y=>exact ⟨y,rfl⟩
     |_=>simp [isP] at h1)
    rcases hcond with rfl|rfl
    ·exact hfin
    ·exact hfin
   ·obtain ⟨⟨l',B⟩,hc,rfl⟩:=Option.map_eq_some_iff.1 h2
    obtain ⟨n,B0,hB,rfl,hok,hpo,hrep⟩:=zGK hc
    let pl3:Pl:=fun d' n'=>if d'<st.up.length then pl' d' n' else if d'=st.up.length∧n'=0 then pl' st.up.length n else nop
    have q1:∀d n,d<st.up.length→pl3 d n=pl' d n:=fun d n h=>by simp [pl3,h]
    have q0:pl3 st.up.length 0=pl' st.up.length n:=by simp [pl3]
    have q2:∀d' n' j x,¬d'<st.up.length→pl3 d' n' j=some x→d'=st.up.length∧n'=0∧pl' st.up.length n j=some x:=fun d' n' j x hh h=>by
     simp only [pl3,if_neg hh] at h
     split at h
     ·rename_i e;exact ⟨e.1,e.2,h⟩
     ·cases h
    have hlow3:Low st.up.length (st.fr::st.up) pl' (za [{B0 with g:=0}] 0::st.up) pl3:=⟨fun d n h=>⟨by simp [zB,Nat.ne_of_lt h],q1 d n h⟩,fun d' n' j b s h=>by
     by_cases hd:d'<st.up.length
     ·exact ⟨d',n',j,by rw [←q1 d' n' hd];exact h⟩
     ·exact ⟨_,_,_,(q2 d' n' j _ hd h).2.2⟩⟩
    have hm3:MemOK F N0 (za [{B0 with g:=0}] 0::st.up) pl3 w':=zHa hi.rel.mem hlow3 (fun n' j b s h=>by
     obtain ⟨_,rfl,h3⟩:=q2 _ n' j _ (Nat.lt_irrefl _) h
     exact ⟨⟨{B0 with g:=0},by simp [za,look]⟩,_,_,_,Nat.le_refl _,h3⟩) (fun n' j n'' j' b s s' h h'=>by
     obtain ⟨_,rfl,e1⟩:=q2 _ n' j _ (Nat.lt_irrefl _) h
     obtain ⟨_,rfl,e2⟩:=q2 _ n'' j' _ (Nat.lt_irrefl _) h'
     exact ⟨rfl,(hi.rel.mem.inj _ _ _ _ _ _ b s s' e1 e2).2.2⟩) (fun d' n' h=>by
     funext j
     cases hq:pl3 d' n' j with
     |none=>rfl
     |some x=>have:=(q2 d' n' j x (by omega) hq).1;omega) (fun n' B h=>by
     simp only [za,look] at h
     split at h
     ·rename_i e
      subst e
      cases h
      exact zCx hlow3 (hi.rel.mem.blk _ _ _ hB) hok rfl rfl rfl q0
     ·cases h)
    have hkeep:KeepU up st.up pl pl3 w w':=by
     have k1:=hi.keep
     refine ⟨k1.step,k1.later.len,fun d n b hb=>?_,fun d' n' j b s h=>?_⟩
     ·obtain ⟨b',h3,h5⟩:=k1.later.blk d n b hb
      exact ⟨b',h3,fun e=>by rw [q1 d n (zH h3)];exact h5 e⟩
     ·by_cases hd:d'<st.up.length
      ·rw [q1 d' n' hd] at h;exact k1.later.new d' n' j b s h
      ·exact k1.later.new _ _ _ b s (q2 d' n' j _ hd h).2.2
    have hfin:a'.defers= []∧∃v,(results fn a'.tmps).run P w'= .ok v w'∧∃u,Ending.returned v= .returned u∧RetOK F N0 up pl w ⟨zAF l',st.up,[{B0 with g:=0}]⟩ u w':=by
     refine ⟨hi.rel.defers,(if h:us.length=1 then us[0] else .tuple us.toArray),?_,_,rfl,⟨pl3,?_,hm3,hkeep⟩,fun c hc=>?_,fun B hB=>?_⟩
     ·have hmm:(fn.results.mapM (zAR a'.tmps)).run P w'= .ok us.toArray w':=by
       rw [Array.mapM_eq_mapM_toList]
       simp [u1]
      have hres:results fn a'.tmps=(do let vs←fn.results.mapM (zAR a'.tmps);pure (if h:vs.size=1 then vs[0] else .tuple vs)):=by
       unfold results
       congr 2
      rw [hres]
      simp only [Sem.run_bind,hmm,Result.andThen_ok,Sem.run_pure]
      simp
     ·show zd _ _ _ _ _ ((zAF l').map (zAg st.up.length))
      rw [zG1]
      exact zEF (hrep q0 (fun h=>hlow3.repP h) u2)
     ·obtain ⟨x,hx,hc'⟩:=zEH hc
      exact hpo x hx c hc'
     ·simp only [List.mem_singleton] at hB
      subst hB
      exact ⟨rfl,hok⟩
    rcases hcond with rfl|rfl
    ·exact hfin
    ·exact hfin
  ·cases h2
def zHk (G:Nat→Option Obj) (P:Program) (lib:zh):Prop:=zA5 G P lib
theorem zG2 {KP:FuncId→Option KFun} {lib:zh} {h:Hints} (hK:∀f kf,KP f=some kf→zBB P h f kf) (hL:zHk G P lib):∀n,zA5 G P (zB8 KP lib n):=by
 intro n
 induction n with
 |zero=>intro f args up r hr;simp [zB8] at hr
 |succ n ih=>
  intro f args up r hr F N0 pl w vals hm hN hv
  simp only [zB8] at hr
  split at hr
  ·rename_i kf hkf
   split at hr
   ·rename_i hl
    obtain ⟨⟨e,st⟩,h1,h2⟩:=Option.bind_eq_some_iff.1 hr
    dsimp only at h2
    obtain ⟨q,h4,h3⟩:=Option.bind_eq_some_iff.1 h2
    clear h2
    have hq:q=r:=by
     unfold zGf at h3
     split at h3
     ·split at h3
      ·split at h3
       ·exact Option.some.inj h3
       ·cases h3
      ·cases h3
     ·exact Option.some.inj h3
    subst hq
    exact zK4 ih (hK f kf hkf) hl h1 h4 h3 hm hN hv
   ·cases hr
  ·exact hL f args up r hr F N0 pl w vals hm hN hv
end
end Go.Eng

