import Derived.Test.YtilkdjfhbahhdaaGreatDoorE25
import Derived.Lib.SliceRun
set_option linter.unusedVariables false
set_option linter.unusedSimpArgs false
namespace Go.Eng
open Go.RowKit
section
variable {P:Program} {F F':Nat→Prop} {G:Nat→Option Obj} {N0:Base G} {T:Nat} {pl pl' pl0:Pl} {st st':St} {a:Act} {w w' w0:World} {fs fs':List Frame} {fr f':Frame} {up up' up0:List Frame} {Q:Exit→Act→World→Prop}
def zGQ (F:Nat→Prop) (fs:List Frame) (pl:Pl) (w:World) (u:Value) (c:Bool×List CV):Prop:=
 (c.1=true∧∃ys:List Value,u= .agg ys.toArray∧zR F fs pl w ys c.2)∨(c.1=false∧∃x,c.2= [x]∧zA0 F fs pl w u x)
def RepL (F:Nat→Prop) (fs:List Frame) (pl:Pl) (w:World) (us:List Value) (vs:List (Bool×List CV)):Prop:=
 us.length=vs.length∧∀(i:Nat) u c,us[i]?=some u→vs[i]?=some c→zGQ F fs pl w u c
theorem RepL.nil:RepL F fs pl w [] []:=⟨rfl,fun i u c hu=>by simp at hu⟩
theorem RepL.cons {u:Value} {c:Bool×List CV} {us:List Value} {vs:List (Bool×List CV)} (h:zGQ F fs pl w u c) (h':RepL F fs pl w us vs):RepL F fs pl w (u::us) (c::vs):=by
 refine ⟨by simp [h'.1],fun i u' c' hu hc=>?_⟩
 cases i with
 |zero=>
  simp only [List.getElem?_cons_zero,zQ] at hu hc
  subst hu;subst hc;exact h
 |succ i=>exact h'.2 i u' c' (by simpa using hu) (by simpa using hc)
theorem RepL.uncons {c:Bool×List CV} {us:List Value} {vs:List (Bool×List CV)} (h:RepL F fs pl w us (c::vs)):∃u us',us=u::us'∧zGQ F fs pl w u c∧RepL F fs pl w us' vs:=by
 match us,h with
 | [],h=>exact absurd h.1 (by simp)
 |u::us,h=>exact ⟨u,us,rfl,h.2 0 u c rfl rfl,by simpa using h.1,fun i u' c' hu hc=>h.2 (i+1) u' c' (by simpa using hu) (by simpa using hc)⟩
theorem Keep.rep1 (h:Keep F fs fs' pl pl' w w') {u:Value} {c:Bool×List CV} (hr:zGQ F fs pl w u c):zGQ F fs' pl' w' u c:=by
 rcases hr with ⟨e,ys,h1,h2⟩|⟨e,x,h1,h2⟩
 ·exact .inl ⟨e,ys,h1,h.repCs h2⟩
 ·exact .inr ⟨e,x,h1,h.repC h2⟩
theorem Keep.repL (h:Keep F fs fs' pl pl' w w') {us:List Value} {vs:List (Bool×List CV)} (hr:RepL F fs pl w us vs):RepL F fs' pl' w' us vs:=
 ⟨hr.1,fun i u c hu hc=>h.rep1 (hr.2 i u c hu hc)⟩
theorem zE4 {us:List Value} {vs:List (Bool×List CV)} (hr:RepL F fs pl w us vs):zc F fs pl w (if h:us.length=1 then us[0] else .tuple us.toArray) (zAk vs):=by
 by_cases hl:vs.length=1
 ·match vs,hl,hr with
  | [(g,cs)],_,hr=>
   obtain ⟨u,us',rfl,h1,h2⟩:=hr.uncons
   have:us'= []:=zAi h2.1
   subst this
   rcases h1 with ⟨e,ys,h3,h4⟩|⟨e,y,h3,h4⟩
   ·simp only at e h4
    subst e
    exact ⟨ys,h3,h4⟩
   ·simp only at e h3
    subst e;subst h3
    exact h4
 ·have hne:¬us.length=1:=by rw [hr.1];exact hl
  have ha:zAk vs= .tup vs:=by
   match vs,hl with
   | [],_=>rfl
   | [_],hl=>exact absurd rfl hl
   |_::_::_,_=>unfold zAk;split<;>simp_all
  rw [ha,dif_neg hne]
  exact ⟨us,rfl,hr.1,hr.2⟩
def zA3 (tmps:Array Value):ResultVar→Sem Value
 | .tmp t=>pure (tmps.getD t undef)
 | .cell a t=>do loadVar t (←asAddr (tmps.getD a undef))
theorem zE5 (hm:MemOK F N0 (st.fr::st.up) pl w) {tmps:Array Value} (ht:∀n v,zE n st.t=some v→zc F (st.fr::st.up) pl w (tmps.getD n undef) v):
  ∀(rs:List ResultVar) (ks:List (Nat⊕(Nat×Bool×Nat))) (vs:List (Bool×List CV)),rs.mapM (zDC P)=some ks→zCD st ks=some vs→∃us,(rs.mapM (zA3 tmps)).run P w= .ok us w∧RepL F (st.fr::st.up) pl w us vs
 | [],ks,vs,hc,h=>by
  simp only [List.mapM_nil,Option.pure_def,zQ] at hc
  subst hc
  simp only [zCD,zQ] at h
  subst h
  exact ⟨[],by simp,RepL.nil⟩
 |r::rs,ks,vs,hc,h=>by
  simp only [List.mapM_cons,Option.pure_def,Option.bind_eq_bind,zT,zQ] at hc
  obtain ⟨k,hk,ks',hks,rfl⟩:=hc
  have hev:∀n,zc F (st.fr::st.up) pl w (tmps.getD n undef) (st.eval (.t n)):=fun n=>by
   simp only [St.eval]
   split
   ·exact ht n _ ‹_›
   ·trivial
  have fin:∀{u:Value} {c:Bool×List CV} {vs':List (Bool×List CV)},(zA3 tmps r).run P w= .ok u w→zGQ F (st.fr::st.up) pl w u c→zCD st ks'=some vs'→vs=c::vs'→∃us,((r::rs).mapM (zA3 tmps)).run P w= .ok us w∧RepL F (st.fr::st.up) pl w us vs:=by
   intro u c vs' hrun hrep hres hvs
   obtain ⟨us,h1,h2⟩:=zE5 hm ht rs ks' vs' hks hres
   subst hvs
   exact ⟨u::us,by simp [List.mapM_cons,hrun,h1],h2.cons hrep⟩
  cases r with
  |tmp t=>
   simp only [zDC,zQ] at hk
   subst hk
   simp only [zCD] at h
   have hv:=hev t
   split at h
   ·rename_i x hx
    obtain ⟨vs',h1,rfl⟩:=Option.map_eq_some_iff.1 h
    rw [hx] at hv
    exact fin (by simp [zA3]) (.inr ⟨rfl,x,rfl,hv⟩) h1 rfl
   ·rename_i cs hx
    obtain ⟨vs',h1,rfl⟩:=Option.map_eq_some_iff.1 h
    rw [hx] at hv
    obtain ⟨ys,h2,h3⟩:=hv
    exact fin (by simp [zA3]) (.inl ⟨rfl,ys,h2,h3⟩) h1 rfl
   ·cases h
  |cell ad t=>
   simp only [zDC,zS] at hk
   obtain ⟨g,hg,rfl⟩:=hk
   simp only [zCD,zT,zS] at h
   obtain ⟨cs,h1,v,h2,vs',h3,rfl⟩:=h
   obtain ⟨ad',us,h4,h5,h6,h7⟩:=zEi hm h1 (hev ad)
   obtain ⟨l1,l2⟩:=zD0 hg h5 h6
   rcases zHp h2 h7 with ⟨e,h8⟩|⟨e,u,h8,h9⟩
   ·exact fin (by simp [zA3,asAddr,h4,l1 e]) (.inl ⟨e,us,rfl,h7⟩) h3 rfl
   ·subst h8
    subst e
    obtain ⟨x,rfl⟩:∃x,cs= [x]:=List.length_eq_one_iff.1 h7.1.symm
    exact fin (by simp [zA3,asAddr,h4,l2 rfl u rfl]) (.inr ⟨rfl,x,rfl,(h7.2 0 u x rfl rfl).1⟩) h3 rfl
theorem zIs:∀{vs ls:List (Bool×List CV)} {st st':St} {pl:Pl} {us:List Value},MemOK F N0 (st.fr::st.up) pl w→N0.n≤w.heap.size→zAd st vs=some (ls,st')→RepL F (st.fr::st.up) pl w us vs→
  ∃pl',Same F N0 pl st st' w pl'∧RepL F (st'.fr::st'.up) pl' w us ls∧∀c∈ls,∀x∈c.2,∃p,x= .p p
 | [],ls,st,st',pl,us,hm,hN,h,hr=>by
  simp only [zAd,zQ,Prod.mk.injEq] at h
  obtain ⟨rfl,rfl⟩:=h
  exact ⟨pl,Same.refl hm,hr,fun c hc=>by cases hc⟩
 |(g,cs)::vs,ls,st,st',pl,us,hm,hN,h,hr=>by
  simp only [zAd,zT,zS,Prod.mk.injEq,Prod.exists] at h
  obtain ⟨ps,st1,h1,l,st2,h2,rfl,rfl⟩:=h
  obtain ⟨u,us',rfl,h3,h4⟩:=hr.uncons
  have key:∃pl1,Same F N0 pl st st1 w pl1∧zGQ F (st1.fr::st1.up) pl1 w u (g,ps.map CV.p):=by
   rcases h3 with ⟨e,ys,h5,h6⟩|⟨e,x,h5,h6⟩
   ·obtain ⟨pl1,s1,r1⟩:=zBb hm hN h1 h6
    exact ⟨pl1,s1,.inl ⟨e,ys,h5,r1.cs⟩⟩
   ·simp only at h5
    subst h5
    have h7:=h1
    simp only [zAI,zT,zQ,Prod.mk.injEq,Prod.exists] at h7
    obtain ⟨p,st3,h8,ps2,st4,⟨rfl,rfl⟩,rfl,rfl⟩:=h7
    obtain ⟨pl1,s1,r1⟩:=zCx hm hN h8 h6
    exact ⟨pl1,s1,.inr ⟨e,.p p,rfl,r1⟩⟩
  obtain ⟨pl1,s1,r1⟩:=key
  obtain ⟨pl2,s2,r2,r3⟩:=zIs s1.mem hN h2 (s1.keep.repL h4)
  refine ⟨pl2,s1.trans s2,r2.cons (s2.keep.rep1 r1),fun c hc x hx=>?_⟩
  rcases List.mem_cons.1 hc with rfl|hc
  ·obtain ⟨p,_,rfl⟩:=List.mem_map.1 hx
   exact ⟨p,rfl⟩
  ·exact r3 c hc x hx
theorem zFy:∀(l:List AV) (i n:Nat),zE n (zEb l i)=if i≤n then l[n-i]? else none
 | [],i,n=>by simp [zEb,zE]
 |x::r,i,n=>by
  simp only [zEb,zE]
  by_cases h:i=n
  ·subst h;simp
  ·rw [if_neg h,zFy r (i+1) n]
   by_cases h2:i+1≤n
   ·rw [if_pos h2,if_pos (by omega)]
    obtain ⟨k,rfl⟩:∃k,n=i+1+k:=⟨n-(i+1),by omega⟩
    rw [show i+1+k-i=k+1 by omega,show i+1+k-(i+1)=k by omega]
    rfl
   ·rw [if_neg h2,if_neg (by omega)]
theorem zAu (d n:Nat) (up:List Frame):zA d n ([]::up)=zA d n up:=by
 simp only [zA]
 split
 ·rename_i h
  simp only [zE]
  cases hq:zA d n up with
  |none=>rfl
  |some B=>have:=zM hq;omega
 ·rfl
theorem zLk (m:Nat):Low m up pl ([]::up) pl:=⟨fun d n _=>⟨zAu d n up,rfl⟩,fun d n j b s h=>⟨d,n,j,h⟩⟩
theorem zIt (hm:MemOK F N0 up pl w):MemOK F N0 ([]::up) pl w:=
 ⟨fun d n j b s h=>by rw [zAu];exact hm.live d n j b s h,hm.inj,fun d n B hB=>by
  rw [zAu] at hB
  exact (zLk (d+1)).blk (Nat.lt_succ_self d) (hm.blk d n B hB),hm.fsz,hm.fix⟩
theorem zFz {u:Value} {v:AV} (hv:∀c∈v.cvs,∃p,c= .p p) (hP:∀{u p},RepP (Own F pl) w u p→RepP (Own F' pl') w' u p) (h:zc F fs pl w u v):zc F' fs' pl' w' u (v.map (zBO up.length)):=
 zBc (fun u c hc h=>by obtain ⟨p,rfl⟩:=hv c hc;exact hP h) (fun c h=>by subst h;rfl) h
theorem zE6 {l:List (Bool×List CV)} {c:CV} (h:c∈(zAk l).cvs):∃x∈l,c∈x.2:=by
 unfold zAk at h
 split at h
 ·exact ⟨_,List.mem_cons_self ..,h⟩
 ·exact ⟨_,List.mem_cons_self ..,by simpa [AV.cvs] using h⟩
 ·simp only [AV.cvs,List.mem_flatMap] at h
  exact h
theorem zJR (res:List Nat):∀(k:KCode) (p:Nat) (env:List (Nat×List Nat)) (out:List Nat),zAB (zA1 res p k env out)=zAB k:=by
 intro k
 induction k with
 |seq a b iha ihb=>intro p env out;simp only [zA1,zAB,iha,ihb]
 |cond c a b iha ihb=>intro p env out;simp only [zA1,zAB,iha,ihb]
 |block id c ih=>intro p env out;simp only [zA1,zAB,ih]
 |loop mk l os c ih=>intro p env out;simp only [zA1,zAB,ih]
 |_=>intro p env out;rfl
theorem zHG {c c':CV} {B:Blk} (h:zGj st c=some (c',B)):∃n B0,zA st.up.length n (st.fr::st.up)=some B0∧B={B0 with g:=0}∧B0.k.okO=true∧c'.po=true∧
  ∀{F:Nat→Prop} {pl pl3:Pl} {w:World} {v:Value},pl3 st.up.length 0=pl st.up.length n→zA0 F (st.fr::st.up) pl w v c→zA0 F (zl [B] 0::st.up) pl3 w v (zBO st.up.length c'):=by
 unfold zGj at h
 split at h
 ·rename_i d n g
  split at h
  ·rename_i hd
   subst hd
   split at h
   ·rename_i g' sz ty cells hB
    split at h
    ·rename_i hc
     obtain ⟨rfl,hp⟩:=hc
     cases h
     refine ⟨n,_,hB,rfl,hp,rfl,fun {F pl pl3 w v} q0 hr=>?_⟩
     obtain ⟨h1,B1,h2,h3,h4⟩:=hr
     have h2:some B1=some _:=h2.symm.trans hB
     cases h2
     obtain ⟨b,s,h5,h6⟩:=h4 rfl
     exact ⟨h1,⟨0,sz,ty,.box cells⟩,by simp [zl,zA,zE],Nat.le_refl _,fun _=>⟨b,s,by rw [q0];exact h5,by simpa using h6⟩⟩
    ·cases h
   ·cases h
  ·cases h
 ·rename_i d n g m
  split at h
  ·rename_i hd
   subst hd
   split at h
   ·rename_i g' sz ty rows hB
    split at h
    ·rename_i hc
     subst hc
     cases h
     refine ⟨n,_,hB,rfl,rfl,rfl,fun {F pl pl3 w v} q0 hr=>?_⟩
     obtain ⟨h1,B1,h2,h3,h4⟩:=hr
     have h2:some B1=some _:=h2.symm.trans hB
     cases h2
     refine ⟨h1,⟨0,sz,ty,.row rows⟩,by simp [zl,zA,zE],Nat.le_refl _,fun _=>?_⟩
     rw [q0]
     exact h4 rfl
    ·cases h
   ·rename_i g' sz ty cols rows hB
    split at h
    ·rename_i hc
     subst hc
     cases h
     refine ⟨n,_,hB,rfl,rfl,rfl,fun {F pl pl3 w v} q0 hr=>?_⟩
     obtain ⟨h1,B1,h2,h3,h4⟩:=hr
     have h2:some B1=some _:=h2.symm.trans hB
     cases h2
     refine ⟨h1,⟨0,sz,ty,.deep cols rows⟩,by simp [zl,zA,zE],Nat.le_refl _,fun _=>?_⟩
     rw [q0]
     exact h4 rfl
    ·cases h
   ·cases h
  ·cases h
 ·cases h
theorem zH5 (f:CV→CV):∀l:List (Bool×List CV),(zAk l).map f=zAk (l.map fun x=>(x.1,x.2.map f))
 | []=>rfl
 | [(true,cs)]=>rfl
 | [(false,[])]=>rfl
 | [(false,[x])]=>rfl
 | [(false,x::y::r)]=>rfl
 |(a,b)::(c,d)::r=>by
  have h1:∀(p q:Bool×List CV) (r:List (Bool×List CV)),zAk (p::q::r)= .tup (p::q::r):=fun p q r=>by
   unfold zAk;split<;>simp_all
  rw [List.map_cons,List.map_cons,h1,h1]
  simp only [AV.map,List.map_cons]
theorem zHH {fs':List Frame} {m:Nat} {us:List Value} {cs:List CV} (hP:∀{u p},RepP (Own F pl) w u p→RepP (Own F pl') w u p) (h:cs.all isP=true) (hr:zR F fs pl w us cs):zR F fs' pl' w us (cs.map (zBO m)):=
 ⟨by rw [List.length_map];exact hr.1,fun i u c hu hc=>by
  rw [List.getElem?_map] at hc
  obtain ⟨c0,h0,rfl⟩:=Option.map_eq_some_iff.1 hc
  have h9:=List.all_eq_true.1 h c0 (zy h0)
  obtain ⟨h1,h2⟩:=hr.2 i u _ hu h0
  cases c0 with
  |p x=>exact ⟨hP h1,h2⟩
  |_=>cases h9⟩
theorem zIu {fs':List Frame} {m:Nat} {u:Value} {g:Bool} {cs:List CV} (hP:∀{u p},RepP (Own F pl) w u p→RepP (Own F pl') w u p) (h:cs.all isP=true) (hr:zGQ F fs pl w u (g,cs)):zGQ F fs' pl' w u (g,cs.map (zBO m)):=by
 rcases hr with ⟨e,ys,h1,h2⟩|⟨e,x,h1,h2⟩
 ·exact .inl ⟨e,ys,h1,zHH hP h h2⟩
 ·simp only at h1
  subst h1
  have h9:=List.all_eq_true.1 h x (List.mem_cons_self ..)
  cases x with
  |p x=>exact .inr ⟨e,.p x,rfl,hP h2⟩
  |_=>cases h9
theorem zGR {fs':List Frame} {m:Nat} (hP:∀{u p},RepP (Own F pl) w u p→RepP (Own F pl') w u p):∀{l:List (Bool×List CV)} {us:List Value},(l.all fun x=>x.2.all isP)=true→RepL F fs pl w us l→RepL F fs' pl' w us (l.map fun x=>(x.1,x.2.map (zBO m)))
 | [],us,h,hr=>by
  have:=zAi hr.1
  subst this
  exact RepL.nil
 |(g,cs)::l,us,h,hr=>by
  obtain ⟨u,us',rfl,h1,h2⟩:=hr.uncons
  simp only [List.all_cons,Bool.and_eq_true] at h
  exact RepL.cons (zIu hP h.1 h1) (zGR hP h.2 h2)
theorem zE7 {c:CV} (h:isP c=true):c.po=true:=by
 cases c with
 |p x=>rfl
 |_=>cases h
theorem zKn {fs:List Frame} {u:Value} {us:List Value} {c:CV} {cs:List CV} (h1:zA0 F fs pl w u c) (h2:c= .u∨u.oneCell'=true) (h:zR F fs pl w us cs):zR F fs pl w (u::us) (c::cs):=
 ⟨by simp [h.1],fun i v d hv hd=>by
  cases i with
  |zero=>cases hv;cases hd;exact ⟨h1,h2⟩
  |succ i=>exact h.2 i v d (by simpa using hv) (by simpa using hd)⟩
theorem zHI {fs:List Frame} {us:List Value} {c:CV} {cs:List CV} (h:zR F fs pl w us (c::cs)):∃u us',us=u::us'∧zA0 F fs pl w u c∧(c= .u∨u.oneCell'=true)∧zR F fs pl w us' cs:=by
 cases us with
 |nil=>have:=h.1;simp at this
 |cons u us=>
  obtain ⟨h1,h2⟩:=h.2 0 u c rfl rfl
  exact ⟨u,us,rfl,h1,h2,by have:=h.1;simpa using this,fun i v d hv hd=>h.2 (i+1) v d (by simpa using hv) (by simpa using hd)⟩
theorem zJS {c c':CV} {B:Blk} (h:zGj st c=some (c',B)):c≠ .u:=by
 rintro rfl
 cases h
theorem zHJ:∀{cs cs':List CV} {B:Blk},zIO st cs=some (cs',B)→∃n B0,zA st.up.length n (st.fr::st.up)=some B0∧B={B0 with g:=0}∧B0.k.okO=true∧(∀c∈cs',c.po=true)∧
  ∀{F:Nat→Prop} {pl pl3:Pl} {w:World} {us:List Value},pl3 st.up.length 0=pl st.up.length n→(∀{u p},RepP (Own F pl) w u p→RepP (Own F pl3) w u p)→zR F (st.fr::st.up) pl w us cs→zR F (zl [B] 0::st.up) pl3 w us (cs'.map (zBO st.up.length))
 | [],cs',B,h=>by cases h
 |c::r,cs',B,h=>by
  unfold zIO at h
  split at h
  ·rename_i hp
   obtain ⟨⟨l2,B2⟩,h1,h2⟩:=Option.map_eq_some_iff.1 h
   cases h2
   obtain ⟨n,B0,k1,k2,k3,k4,k5⟩:=zHJ h1
   refine ⟨n,B0,k1,k2,k3,fun x hx=>?_,fun q hP hr=>?_⟩
   ·rcases List.mem_cons.1 hx with rfl|hx
    ·exact zE7 hp
    ·exact k4 x hx
   ·obtain ⟨u,us',rfl,h3,h4,h5⟩:=zHI hr
    cases c with
    |p x=>exact zKn (hP h3) (.inr (RepP.one (show RepP _ _ _ x from h3)).1) (k5 q hP h5)
    |_=>simp [isP] at hp
  ·split at h
   ·rename_i ha
    obtain ⟨⟨c',B2⟩,h1,h2⟩:=Option.map_eq_some_iff.1 h
    cases h2
    obtain ⟨n,B0,k1,k2,k3,k4,k5⟩:=zHG h1
    refine ⟨n,B0,k1,k2,k3,fun x hx=>?_,fun q hP hr=>?_⟩
    ·rcases List.mem_cons.1 hx with rfl|hx
     ·exact k4
     ·exact zE7 (List.all_eq_true.1 ha x hx)
    ·obtain ⟨u,us',rfl,h3,h4,h5⟩:=zHI hr
     exact zKn (k5 q h3) (.inr (h4.resolve_left (zJS h1))) (zHH hP ha h5)
   ·cases h
theorem zHK:∀{l l':List (Bool×List CV)} {B:Blk},zIP st l=some (l',B)→∃n B0,zA st.up.length n (st.fr::st.up)=some B0∧B={B0 with g:=0}∧B0.k.okO=true∧(∀x∈l',∀c∈x.2,c.po=true)∧
  ∀{F:Nat→Prop} {pl pl3:Pl} {w:World} {us:List Value},pl3 st.up.length 0=pl st.up.length n→(∀{u p},RepP (Own F pl) w u p→RepP (Own F pl3) w u p)→RepL F (st.fr::st.up) pl w us l→RepL F (zl [B] 0::st.up) pl3 w us (l'.map fun x=>(x.1,x.2.map (zBO st.up.length)))
 | [],l',B,h=>by cases h
 |(g,cs)::r,l',B,h=>by
  unfold zIP at h
  split at h
  ·rename_i hp
   obtain ⟨⟨l2,B2⟩,h1,h2⟩:=Option.map_eq_some_iff.1 h
   cases h2
   obtain ⟨n,B0,k1,k2,k3,k4,k5⟩:=zHK h1
   refine ⟨n,B0,k1,k2,k3,fun x hx c hc=>?_,fun q hP hr=>?_⟩
   ·rcases List.mem_cons.1 hx with rfl|hx
    ·exact zE7 (List.all_eq_true.1 hp c hc)
    ·exact k4 x hx c hc
   ·obtain ⟨u,us',rfl,h3,h4⟩:=hr.uncons
    exact RepL.cons (zIu hP hp h3) (k5 q hP h4)
  ·split at h
   ·rename_i c hp
    split at h
    ·rename_i ha
     obtain ⟨⟨c',B2⟩,h1,h2⟩:=Option.map_eq_some_iff.1 h
     cases h2
     obtain ⟨n,B0,k1,k2,k3,k4,k5⟩:=zHG h1
     refine ⟨n,B0,k1,k2,k3,fun x hx c hc=>?_,fun q hP hr=>?_⟩
     ·rcases List.mem_cons.1 hx with rfl|hx
      ·simp only [List.mem_singleton] at hc
       subst hc
       exact k4
      ·exact zE7 (List.all_eq_true.1 (List.all_eq_true.1 ha x hx) c hc)
     ·obtain ⟨u,us',rfl,h3,h4⟩:=hr.uncons
      rcases h3 with ⟨e,_⟩|⟨e,x,h5,h6⟩
      ·cases e
      ·cases h5
       exact RepL.cons (.inr ⟨rfl,_,rfl,k5 q h6⟩) (zGR hP ha h4)
    ·cases h
   ·rename_i cs hp
    split at h
    ·rename_i ha
     obtain ⟨⟨cs',B2⟩,h1,h2⟩:=Option.map_eq_some_iff.1 h
     cases h2
     obtain ⟨n,B0,k1,k2,k3,k4,k5⟩:=zHJ h1
     refine ⟨n,B0,k1,k2,k3,fun x hx c hc=>?_,fun q hP hr=>?_⟩
     ·rcases List.mem_cons.1 hx with rfl|hx
      ·exact k4 c hc
      ·exact zE7 (List.all_eq_true.1 (List.all_eq_true.1 ha x hx) c hc)
     ·obtain ⟨u,us',rfl,h3,h4⟩:=hr.uncons
      rcases h3 with ⟨_,ys,rfl,h6⟩|⟨e,_⟩
      ·exact RepL.cons (.inl ⟨rfl,ys,rfl,k5 q hP h6⟩) (zGR hP ha h4)
      ·cases e
    ·cases h
   ·cases h
theorem zHL {r:Res} (h:zDc r=true):r.up= []∧((r.v= .c (.p (.ls []))∧r.rows= [])∨∃sz ty,r.v= .c (.own 0 0 0 0)∧r.rows= [⟨0,sz,ty,.row []⟩]):=by
 obtain ⟨v,up,rows⟩:=r
 simp only [zDc,Bool.and_eq_true,List.isEmpty_iff] at h
 obtain ⟨h1,h⟩:=h
 refine ⟨h1,?_⟩
 split at h
 ·simp only [List.isEmpty_iff] at h
  subst h
  exact .inl ⟨rfl,rfl⟩
 ·simp only [Bool.and_eq_true,beq_iff_eq,List.isEmpty_iff] at h
  obtain ⟨rfl,rfl⟩:=h
  exact .inr ⟨_,_,rfl,rfl⟩
 ·cases h
theorem zLl {r:Res} (he:zDc r=true) {w':World} {fs':List Frame} (hm:MemOK F N0 fs' pl' w') (hk:Step pl w w'):RetOK F N0 [] pl w r (.slice none 0 0) w':=by
 have keep:KeepU [] [] pl zAt w w':=⟨hk,rfl,fun d n b hb=>by simp [zA] at hb,fun d n j b s h=>by cases h⟩
 obtain ⟨h1,h⟩:=zHL he
 rcases h with ⟨h2,h3⟩|⟨sz,ty,h2,h3⟩
 ·refine ⟨⟨zAt,?_,?_,?_⟩,fun c hc=>?_,fun B hB=>?_⟩
  ·rw [h2]
   exact RepP.nls
  ·rw [h1,h3]
   exact ⟨fun d n j b s h=>(by cases h),fun d n j d' n' j' b s s' h=>(by cases h),fun d n B hB=>(by simp [zl,zA,zE] at hB),hm.fsz,hm.fix⟩
  ·rw [h1];exact keep
  ·rw [h2] at hc
   simp only [AV.cvs,List.mem_singleton] at hc
   subst hc
   rfl
  ·rw [h3] at hB;cases hB
 ·refine ⟨⟨zAt,?_,?_,?_⟩,fun c hc=>?_,fun B hB=>?_⟩
  ·rw [h1,h2,h3]
   exact ⟨rfl,⟨0,sz,ty,.row []⟩,by simp [zl,zA,zE],Nat.le_refl _,fun _=> .inl ⟨rfl,rfl,rfl⟩⟩
  ·rw [h1,h3]
   refine ⟨fun d n j b s h=>(by cases h),fun d n j d' n' j' b s s' h=>(by cases h),fun d n B hB=>?_,hm.fsz,hm.fix⟩
   have hlt:=zM hB
   simp only [List.length_cons,List.length_nil] at hlt
   have hd:d=0:=by omega
   subst hd
   simp only [zl,zA,List.length_nil,if_true,zE] at hB
   split at hB
   ·cases hB
    exact .inl ⟨rfl,rfl⟩
   ·cases hB
  ·rw [h1];exact keep
  ·rw [h2] at hc
   simp only [AV.cvs,List.mem_singleton] at hc
   subst hc
   rfl
  ·rw [h3] at hB
   simp only [List.mem_singleton] at hB
   subst hB
   exact ⟨rfl,rfl⟩
theorem zE8 {d:Nat} {u:Value} {a:Act} (h:d<a.tmps.size):(a.put (some d) u).tmps.getD d undef=u:=by simp [Act.put,h]
theorem zKo {d n:Nat} {u:Value} {a:Act} (h:d≠n):(a.put (some d) u).tmps.getD n undef=a.tmps.getD n undef:=by
 simp [Act.put,Array.getD_eq_getD_getElem?,Array.getElem?_setIfInBounds,h]
theorem zBw {d:Option Nat} {u:Value} {a:Act}:(a.put d u).tmps.size=a.tmps.size:=by cases d<;>simp [Act.put]
theorem zC3 {d:Option Nat} {u:Value} {a:Act}:(a.put d u).defers=a.defers:=by cases d<;>simp [Act.put]
theorem zE9 {o:Oper} {a:Act} {w:World} {u:Value} {K:Act→World→Prop} {Q:Exit→Act→World→Prop} (h:(execOp a.eval o).run P w= .ok (.value u) w) (hK:K (a.put o.dst u) w):o.wp P a w K Q:=
 zGO (zd (R:=fun u' w2=>u'=u∧w2=w) h ⟨rfl,rfl⟩ K fun u' w2 e=>by obtain ⟨rfl,rfl⟩:=e;exact hK)
theorem zF0 {o:Oper} (h:zLQ o=true):o.op= .assign (.const (.slice none 0 0))∧o.dst=some 2∧o.guard=none:=by
 unfold zLQ at h
 split at h
 ·exact ⟨by assumption,by assumption,by assumption⟩
 ·cases h
theorem zJT {o:Oper} (h:zME o=true):o.op= .move (.tmp 0)∧o.dst=some 3∧o.guard=none:=by
 unfold zME at h
 split at h
 ·exact ⟨by assumption,by assumption,by assumption⟩
 ·cases h
theorem zJU {o:Oper} (h:zMF P o=true):∃t e pos,o.op= .binOp .eql t (.tmp 3) (.const (.slice none 0 0)) pos∧P.underlying t=some (.slice e)∧o.dst=some 4∧o.guard=none:=by
 unfold zMF at h
 split at h
 ·rename_i t p h1 h2 h3
  split at h
  ·rename_i e he
   exact ⟨t,e,p,h1,he,h2,h3⟩
  ·cases h
 ·cases h
theorem zLm {run:zk} (hS:zBk G P run) {h:Hints} {f:FuncId} {fn:Func} {n:Nat} {c:Code} {k0 kc:KCode} {pl0:Pl} {st0:St} {ex:Ex} {a:Act} {w1:World} (hc:zEf P fn=some c) (hk0:zf P h f c=some k0) (he:zAB kc=zAB k0) (hb:bnd T kc=true)
  (h1:zAE run n kc st0=some (ex,st)) (hi:Inv F N0 T up pl w pl0 st0 a w1) {body:Code} (hbody:fn.body=some body) (hQ:∀pl' a' w',Inv F N0 T up pl w pl' st a' w'→Q (zLj ex) a' w')
  (h0:(zB0 P fn).isSome=true→4<T∧∃rows,zE 0 st0.t=some (.c (.p (.ls rows)))∧(∀m,m≠0→zE m st0.t=none)∧(rows= []→∀pl' st1 a' w',Inv F N0 T up pl w pl' st1 a' w'→a'.defers= []→a'.tmps.getD 2 undef= .slice none 0 0→Q .ret a' w')):body.wp P Q a w1:=by
 unfold zEf at hc
 cases hs:zB0 P fn with
 |none=>
  rw [hs] at hc
  simp only [hbody,zQ] at hc
  subst hc
  exact zE3 hS n _ k0 kc hk0 he hb h1 hi hQ
 |some c'=>
  rw [hs] at hc h0
  simp only [zQ] at hc
  subst hc
  obtain ⟨hT,rows,g0,gm,hnil⟩:=h0 rfl
  unfold zB0 at hs
  rw [hbody] at hs
  split at hs
  ·rename_i b0 i opx j ops k opb d hbq
   cases hbq
   split at hs
   ·rename_i x m q b ex1 ex2 ex3 ex4
    split at hs
    ·rename_i hall
     cases hs
     simp only [Bool.and_eq_true] at hall
     obtain ⟨⟨⟨⟨⟨⟨hx,hbb⟩,hm⟩,hq⟩,hp⟩,hf⟩,ht⟩:=hall
     obtain ⟨x1,x2,x3⟩:=zF0 hx
     obtain ⟨b1,b2,b3⟩:=zF0 hbb
     obtain ⟨m1,m2,m3⟩:=zJT hm
     obtain ⟨t,e,pos,q1,q2,q3,q4⟩:=zJU hq
     simp only [zf,zT,zS] at hk0
     obtain ⟨k1,hk1,k2,hk2,rfl⟩:=hk0
     cases kc<;>simp only [zAB,reduceCtorEq,KCode.seq.injEq] at he
     rename_i ka kb
     simp only [bnd,Bool.and_eq_true] at hb
     simp only [zAE,zT] at h1
     obtain ⟨⟨e1,st1⟩,hev1,hev⟩:=h1
     have hst:e1= .normal∧∃v,st1.t=(2,v)::st0.t:=by
      obtain ⟨ks,hks,hk1⟩:=hk1
      simp only [Bool.false_eq_true,if_false,zQ] at hk1
      subst hk1
      have he1:=he.1
      cases ka<;>simp only [zAB,reduceCtorEq,KCode.ops.injEq] at he1
      rename_i l
      subst he1
      unfold zBF at hks
      rw [ex1] at hks
      simp only [List.mapM_cons,List.mapM_nil,Option.pure_def,Option.bind_eq_bind,zT,zQ,x3] at hks
      obtain ⟨ko,⟨kk,hkk,rfl⟩,r,rfl,rfl⟩:=hks
      simp only [zAE,zS,Prod.mk.injEq] at hev1
      obtain ⟨s1,hev1,rfl,rfl⟩:=hev1
      refine ⟨rfl,?_⟩
      unfold zBU at hkk
      rw [x1] at hkk
      simp only at hkk
      split at hkk
      ·cases hkk
       rw [x2] at hev1
       simp only [zBh,zU,zB,Option.map_some,zC,zQ] at hev1
       subst hev1
       exact ⟨_,rfl⟩
      ·cases hkk
     obtain ⟨rfl,v2,hst⟩:=hst
     refine wp_seq (zE3 hS n _ k1 _ (by simp only [zf,zT];exact hk1) he.1 hb.1 hev1 hi fun pl' a' w' hi'=>?_)
     show Code.wp P _ Q a' w'
     have hsl:zE 0 st1.t=some (.c (.p (.ls rows))):=by rw [hst];simpa [zE] using g0
     have hr0:=hi'.rel.tmps 0 _ hsl
     have hr0:RepP (Own F pl') w' (a'.tmps.getD 0 undef) (.ls rows):=hr0
     have hz:=hi'.rel.size
     refine wp_seq (wp_seq (wp_region_list ?_))
     rw [ex2]
     refine wpList_plain m3 fun K hK=>zE9 (u:=a'.tmps.getD 0 undef) (by simp [execOp,m1,Act.eval]) (hK _ _ ?_)
     rw [m2]
     have e3:(a'.put (some 3) (a'.tmps.getD 0 undef)).tmps.getD 3 undef=a'.tmps.getD 0 undef:=zE8 (by omega)
     generalize hv:a'.tmps.getD 0 undef=v at hr0 e3⊢
     have hsl2:∃ad nn cc,v= .slice ad nn cc:=by cases hr0<;>exact ⟨_,_,_,rfl⟩
     obtain ⟨ad,nn,cc,rfl⟩:=hsl2
     refine wpList_plain q4 fun K hK=>zE9 (u:= .bool ad.isNone) (by
      exact zAF (zBN (.inl (by simp)) (by simp)) (Lib.run_eql_slice_nil w' t e ad nn cc 0 0 q2) q1 e3 rfl) (hK _ _ (wpList_nil ?_))
     rw [q3]
     show Code.wp P _ _ _ w'
     have e4:((a'.put (some 3) (.slice ad nn cc)).put (some 4) (.bool ad.isNone)).tmps.getD 4 undef= .bool ad.isNone:=zE8 (by rw [zBw];omega)
     have rel2:Rel F N0 T pl' st1 ((a'.put (some 3) (.slice ad nn cc)).put (some 4) (.bool ad.isNone)) w':=by
      refine ⟨hi'.rel.mem,fun m x hx=>?_,by rw [zBw,zBw];exact hz,by rw [zC3,zC3];exact hi'.rel.defers,hi'.rel.low⟩
      have hm3:3≠m∧4≠m:=by
       constructor
       ·rintro rfl;rw [hst] at hx;simp [zE,gm 3 (by decide)] at hx
       ·rintro rfl;rw [hst] at hx;simp [zE,gm 4 (by decide)] at hx
      rw [zKo hm3.2,zKo hm3.1]
      exact hi'.rel.tmps m x hx
     have inv2:Inv F N0 T up pl w pl' st1 ((a'.put (some 3) (.slice ad nn cc)).put (some 4) (.bool ad.isNone)) w':=⟨rel2,hi'.keep⟩
     cases ad with
     |none=>
      refine wp_cond_true (by simpa [Act.eval] using e4) (wp_seq (wp_region_list ?_))
      rw [ex3]
      refine wpList_plain b3 fun K hK=>zE9 (u:= .slice none 0 0) (by simp [execOp,b1,Act.eval]) (hK _ _ (wpList_nil ?_))
      rw [b2]
      refine wp_ret ?_
      have hre:rows= []:=by cases hr0;rfl
      have inv3:Inv F N0 T up pl w pl' {st1 with t:= []} (((a'.put (some 3) (.slice none nn cc)).put (some 4) (.bool (Option.isNone (none:Option Addr)))).put (some 2) (.slice none 0 0)) w':=
       ⟨⟨rel2.mem,(fun m x hx=>(by cases hx)),(by rw [zBw];exact rel2.size),(by rw [zC3];exact rel2.defers),rel2.low⟩,hi'.keep⟩
      exact hnil hre pl' _ _ _ inv3 inv3.rel.defers (zE8 (by rw [zBw,zBw];omega))
     |some ad=>
      refine wp_cond_false (by simpa [Act.eval] using e4) (wp_skip ?_)
      exact zE3 hS n d k2 kb hk2 he.2 hb.2 hev inv2 hQ
    ·cases hs
   ·cases hs
  ·cases hs
theorem zMP {run:zk} (hS:zBk G P run) {h:Hints} {f:FuncId} {kf:KFun} (hK:zCM P h f kf) {n:Nat} {args:List AV} {up:List Frame} {r:Res} (hl:args.length=kf.params.length) {e:Ex} {st:St}
  (h1:zAE run n kf.body {t:=zEb args 0,fr:= [],up:=up}=some (e,st)) (h2:zDb kf e st.low=some r) (h3:zHj kf args up r=some r) {vals:List Value} (hm:MemOK F N0 up pl w) (hN:N0.n≤w.heap.size) (hv:zAq F up pl w vals args):Goes P f vals.toArray w (RetOK F N0 up pl w r):=by
 obtain ⟨fn,hf,hname,hcomp,hb⟩:=hK
 simp only [zEO,zT,zS] at hcomp
 obtain ⟨c,hbody,k0,hk0,rs,hrs,rfl⟩:=hcomp
 have hn : ¬ fn.name = "runtime.NumGoroutine" := by simpa using hname
 obtain ⟨body,hbd⟩:∃b,fn.body=some b:=by
  cases hq:fn.body with
  |some b=>exact ⟨b,rfl⟩
  |none=>simp [zEf,zB0,hq] at hbody
 refine .inr ⟨by simp [callFunc,hf,hn,hbd],calls_of_wp hf hbd ?_⟩
 simp only at hl hb h1
 let T:=max fn.ntmps args.length
 have hT:(vals.toArray++Array.replicate (fn.ntmps-vals.toArray.size) undef).size=T:=by
  simp [T,hv.1];omega
 have hrel:Rel F N0 T pl {t:=zEb args 0,fr:= [],up:=up} {tmps:=vals.toArray++Array.replicate (fn.ntmps-vals.toArray.size) undef,defers:= []} w:=by
  refine ⟨zIt hm,fun i x hx=>?_,hT,rfl,hN⟩
  rw [zFy] at hx
  simp only [Nat.zero_le,if_true,Nat.sub_zero] at hx
  have hi:i<args.length:=(List.getElem?_eq_some_iff.1 hx).1
  obtain ⟨u,hu⟩:=zAR (l:=vals) (i:=i) (by rw [hv.1];exact hi)
  have hg:(vals.toArray++Array.replicate (fn.ntmps-vals.toArray.size) undef).getD i undef=u:=by
   rw [Array.getD_eq_getD_getElem?,Array.getElem?_append_left (by simpa [hv.1] using hi)]
   simp [hu]
  simp only
  rw [hg]
  have:=hv.2 i u x hu hx
  exact zD9 (fun d n=>zAu d n up) this
 refine zLm hS hbody hk0 (zJR _ _ _ _ _) (by simpa [T,hl] using hb) h1 ⟨hrel,KeepU.refl⟩ hbd (fun pl' a' w' hi0=>?_) (fun hs=>?_)
 case refine_2=>
  have hn1:(zB0 P fn).isSome=true:=hs
  unfold zHj at h3
  simp only [hn1,if_true] at h3
  have hspec:4<fn.ntmps∧fn.results.toList= [.tmp 2]:=by
   obtain ⟨c',hc'⟩:=Option.isSome_iff_exists.1 hs
   unfold zB0 at hc'
   split at hc'
   ·split at hc'
    ·split at hc'
     ·rename_i hall
      simp only [Bool.and_eq_true,decide_eq_true_eq] at hall
      exact ⟨hall.2,by assumption⟩
     ·cases hc'
    ·cases hc'
   ·cases hc'
  split at h3
  ·rename_i rows
   split at h3
   ·rename_i hcond
    refine ⟨by simp only [T];omega,rows,by simp [zEb,zE],fun m hm0=>by simp [zEb,zE,Ne.symm hm0],fun hre pl' st1 a' w' hi' hd h2'=>?_⟩
    have hem:zDc r=true:=by
     subst hre
     simpa using hcond
    refine ⟨hd,.slice none 0 0,?_,_,rfl,zLl hem hi'.rel.mem hi'.keep.step⟩
    have hmm:(fn.results.mapM (zA3 a'.tmps)).run P w'= .ok #[.slice none 0 0] w':=by
     rw [Array.mapM_eq_mapM_toList,hspec.2]
     simp [zA3,h2']
    have hres:results fn a'.tmps=(do let vs←fn.results.mapM (zA3 a'.tmps);pure (if h:vs.size=1 then vs[0] else .tuple vs)):=by
     unfold results
     congr 2
    rw [hres]
    simp only [Sem.run_bind,hmm,Result.andThen_ok,Sem.run_pure]
    simp
   ·cases h3
  ·cases h3
 obtain ⟨hlow1,hlow2⟩:=zIn hi0.rel
 have hi:Inv F N0 T up pl w pl' st.low a' w':=⟨hlow1,hi0.keep.trans hlow2⟩
 clear hi0 hlow1 hlow2 h1
 generalize st.low=st at h2 hi
 have pfin:∀{ls:List (Bool×List CV)} {st':St} {pl2:Pl} {us:List Value},(fn.results.toList.mapM (zA3 a'.tmps)).run P w'= .ok us w'→Same F N0 pl' st st' w' pl2→RepL F (st'.fr::st'.up) pl2 w' us ls→(∀c∈ls,∀x∈c.2,∃p,x= .p p)→
   a'.defers= []∧∃v,(results fn a'.tmps).run P w'= .ok v w'∧∃u,Ending.returned v= .returned u∧RetOK F N0 up pl w ⟨zAk ls,st'.up,[]⟩ u w':=by
  intro ls st' pl2 us u1 s1 s2 s3
  have hplain:∀c∈(zAk ls).cvs,∃p,c= .p p:=fun c hc=>by
   obtain ⟨x,hx,hc'⟩:=zE6 hc
   exact s3 x hx c hc'
  let pl3:Pl:=fun d n=>if d<st'.up.length then pl2 d n else nop
  have q1:∀d n,d<st'.up.length→pl3 d n=pl2 d n:=fun d n h=>by simp [pl3,h]
  have q2:∀d n,¬d<st'.up.length→pl3 d n=nop:=fun d n h=>by simp [pl3,h]
  have hlow3:Low st'.up.length (st'.fr::st'.up) pl2 ([]::st'.up) pl3:=⟨fun d n h=>⟨by simp [zA,Nat.ne_of_lt h],q1 d n h⟩,fun d n j b s h=>by
   by_cases hd:d<st'.up.length
   ·exact ⟨d,n,j,by rw [←q1 d n hd];exact h⟩
   ·rw [q2 d n hd] at h;cases h⟩
  have hm3:MemOK F N0 ([]::st'.up) pl3 w':=zIk s1.mem hlow3 (fun n j b s h=>by rw [q2 _ n (Nat.lt_irrefl _)] at h;cases h) (fun n j n' j' b s s' h=>by rw [q2 _ n (Nat.lt_irrefl _)] at h;cases h) (fun d n h=>q2 d n (by omega)) (fun n B h=>by cases h)
  have hkeep:KeepU up st'.up pl pl3 w w':=by
   have k1:=hi.keep.trans (zBV s1.keep).u
   refine ⟨k1.step,k1.later.len,fun d n b hb=>?_,fun d n j b s h=>?_⟩
   ·obtain ⟨b',h3,h5⟩:=k1.later.blk d n b hb
    exact ⟨b',h3,fun e=>by rw [q1 d n (zM h3)];exact h5 e⟩
   ·by_cases hd:d<st'.up.length
    ·rw [q1 d n hd] at h;exact k1.later.new d n j b s h
    ·rw [q2 d n hd] at h;cases h
  have hfin:a'.defers= []∧∃v,(results fn a'.tmps).run P w'= .ok v w'∧∃u,Ending.returned v= .returned u∧RetOK F N0 up pl w ⟨zAk ls,st'.up,[]⟩ u w':=by
   refine ⟨hi.rel.defers,(if h:us.length=1 then us[0] else .tuple us.toArray),?_,_,rfl,⟨pl3,?_,hm3,hkeep⟩,fun c hc=>by obtain ⟨p,rfl⟩:=hplain c hc;rfl,fun B hB=>by cases hB⟩
   ·have hmm:(fn.results.mapM (zA3 a'.tmps)).run P w'= .ok us.toArray w':=by
     rw [Array.mapM_eq_mapM_toList]
     simp [u1]
    have hres:results fn a'.tmps=(do let vs←fn.results.mapM (zA3 a'.tmps);pure (if h:vs.size=1 then vs[0] else .tuple vs)):=by
     unfold results
     congr 2
    rw [hres]
    simp only [Sem.run_bind,hmm,Result.andThen_ok,Sem.run_pure]
    simp
   ·exact zFz hplain (fun h=>hlow3.repP h) (zE4 s2)
  exact hfin
 unfold zDb at h2
 split at h2
 ·rename_i hcond
  simp only [zT,zS,Prod.exists] at h2
  obtain ⟨vs,g1,ls,st',g2,rfl⟩:=h2
  obtain ⟨us,u1,u2⟩:=zE5 hi.rel.mem hi.rel.tmps fn.results.toList rs vs hrs g1
  obtain ⟨pl2,s1,s2,s3⟩:=zIs hi.rel.mem hi.rel.low g2 u2
  have hfin:=pfin u1 s1 s2 s3
  rcases hcond.1 with rfl|rfl
  ·exact hfin
  ·exact hfin
 ·split at h2
  ·rename_i hcond
   obtain ⟨vs,g1,h2⟩:=Option.bind_eq_some_iff.1 h2
   obtain ⟨us,u1,u2⟩:=zE5 hi.rel.mem hi.rel.tmps fn.results.toList rs vs hrs g1
   unfold zHi at h2
   split at h2
   ·rename_i hp
    cases h2
    have hfin:=pfin u1 (Same.refl hi.rel.mem) u2 (fun c hc x hx=>by
     have h1:=List.all_eq_true.1 (List.all_eq_true.1 hp c hc) x hx
     cases x with
     |p y=>exact ⟨y,rfl⟩
     |_=>simp [isP] at h1)
    rcases hcond with rfl|rfl
    ·exact hfin
    ·exact hfin
   ·obtain ⟨⟨l',B⟩,hc,rfl⟩:=Option.map_eq_some_iff.1 h2
    obtain ⟨n,B0,hB,rfl,hok,hpo,hrep⟩:=zHK hc
    let pl3:Pl:=fun d' n'=>if d'<st.up.length then pl' d' n' else if d'=st.up.length∧n'=0 then pl' st.up.length n else nop
    have q1:∀d n,d<st.up.length→pl3 d n=pl' d n:=fun d n h=>by simp [pl3,h]
    have q0:pl3 st.up.length 0=pl' st.up.length n:=by simp [pl3]
    have q2:∀d' n' j x,¬d'<st.up.length→pl3 d' n' j=some x→d'=st.up.length∧n'=0∧pl' st.up.length n j=some x:=fun d' n' j x hh h=>by
     simp only [pl3,if_neg hh] at h
     split at h
     ·rename_i e;exact ⟨e.1,e.2,h⟩
     ·cases h
    have hlow3:Low st.up.length (st.fr::st.up) pl' (zl [{B0 with g:=0}] 0::st.up) pl3:=⟨fun d n h=>⟨by simp [zA,Nat.ne_of_lt h],q1 d n h⟩,fun d' n' j b s h=>by
     by_cases hd:d'<st.up.length
     ·exact ⟨d',n',j,by rw [←q1 d' n' hd];exact h⟩
     ·exact ⟨_,_,_,(q2 d' n' j _ hd h).2.2⟩⟩
    have hm3:MemOK F N0 (zl [{B0 with g:=0}] 0::st.up) pl3 w':=zIk hi.rel.mem hlow3 (fun n' j b s h=>by
     obtain ⟨_,rfl,h3⟩:=q2 _ n' j _ (Nat.lt_irrefl _) h
     exact ⟨⟨{B0 with g:=0},by simp [zl,zE]⟩,_,_,_,Nat.le_refl _,h3⟩) (fun n' j n'' j' b s s' h h'=>by
     obtain ⟨_,rfl,e1⟩:=q2 _ n' j _ (Nat.lt_irrefl _) h
     obtain ⟨_,rfl,e2⟩:=q2 _ n'' j' _ (Nat.lt_irrefl _) h'
     exact ⟨rfl,(hi.rel.mem.inj _ _ _ _ _ _ b s s' e1 e2).2.2⟩) (fun d' n' h=>by
     funext j
     cases hq:pl3 d' n' j with
     |none=>rfl
     |some x=>have:=(q2 d' n' j x (by omega) hq).1;omega) (fun n' B h=>by
     simp only [zl,zE] at h
     split at h
     ·rename_i e
      subst e
      cases h
      exact zDh hlow3 (hi.rel.mem.blk _ _ _ hB) hok rfl rfl rfl q0
     ·cases h)
    have hkeep:KeepU up st.up pl pl3 w w':=by
     have k1:=hi.keep
     refine ⟨k1.step,k1.later.len,fun d n b hb=>?_,fun d' n' j b s h=>?_⟩
     ·obtain ⟨b',h3,h5⟩:=k1.later.blk d n b hb
      exact ⟨b',h3,fun e=>by rw [q1 d n (zM h3)];exact h5 e⟩
     ·by_cases hd:d'<st.up.length
      ·rw [q1 d' n' hd] at h;exact k1.later.new d' n' j b s h
      ·exact k1.later.new _ _ _ b s (q2 d' n' j _ hd h).2.2
    have hfin:a'.defers= []∧∃v,(results fn a'.tmps).run P w'= .ok v w'∧∃u,Ending.returned v= .returned u∧RetOK F N0 up pl w ⟨zAk l',st.up,[{B0 with g:=0}]⟩ u w':=by
     refine ⟨hi.rel.defers,(if h:us.length=1 then us[0] else .tuple us.toArray),?_,_,rfl,⟨pl3,?_,hm3,hkeep⟩,fun c hc=>?_,fun B hB=>?_⟩
     ·have hmm:(fn.results.mapM (zA3 a'.tmps)).run P w'= .ok us.toArray w':=by
       rw [Array.mapM_eq_mapM_toList]
       simp [u1]
      have hres:results fn a'.tmps=(do let vs←fn.results.mapM (zA3 a'.tmps);pure (if h:vs.size=1 then vs[0] else .tuple vs)):=by
       unfold results
       congr 2
      rw [hres]
      simp only [Sem.run_bind,hmm,Result.andThen_ok,Sem.run_pure]
      simp
     ·show zc _ _ _ _ _ ((zAk l').map (zBO st.up.length))
      rw [zH5]
      exact zE4 (hrep q0 (fun h=>hlow3.repP h) u2)
     ·obtain ⟨x,hx,hc'⟩:=zE6 hc
      exact hpo x hx c hc'
     ·simp only [List.mem_singleton] at hB
      subst hB
      exact ⟨rfl,hok⟩
    rcases hcond with rfl|rfl
    ·exact hfin
    ·exact hfin
  ·cases h2
def zEA (G:Nat→Option Obj) (P:Program) (lib:zk):Prop:=zBk G P lib
def zHM (q:List AV→Option AV) (args:List AV) (up:List Frame):Option Res:=(q args).map fun v=>⟨v,up,[]⟩
theorem zKp (hm:MemOK F N0 fs pl w) (hs:Step zAt w w'):MemOK F N0 fs pl w'∧Keep F fs fs pl pl w w':=by
 have hk:Keep F fs fs pl pl w w':=⟨⟨hs.os,hs.tape,hs.output,hs.size,fun k hk _=>hs.block k hk (fun _ _ _ _ h=>by cases h)⟩,Later.refl ..⟩
 exact ⟨⟨fun d n j b s h=>by
  obtain ⟨h1,h2,h3⟩:=hm.live d n j b s h
  exact ⟨h1,Nat.lt_of_lt_of_le h2 hs.size,h3⟩,hm.inj,fun d n B hB=>zAp hk rfl (fun j b s h=>hs.block b (hm.live d n j b s h).2.1 (fun _ _ _ _ h=>by cases h)) (hm.blk d n B hB),fun k h=>Nat.lt_of_lt_of_le (hm.fsz k h) hs.size,zA7 hm (fun k hk _=>hs.block k hk (fun _ _ _ _ h=>by cases h))⟩,hk⟩
theorem zKq {v:AV} {u:Value} {up:List Frame} (hp:∀c∈v.cvs,∃p,c= .p p) (hm:MemOK F N0 up pl w) (hs:Step zAt w w') (hr:zc F up pl w' u v):RetOK F N0 up pl w ⟨v,up,[]⟩ u w':=by
 obtain ⟨m1,m2⟩:=zKp hm hs
 exact ⟨⟨pl,zFz hp (fun h=>h) hr,zIt m1,m2.u⟩,fun c hc=>by obtain ⟨p,rfl⟩:=hp c hc;rfl,fun B hB=>by cases hB⟩
theorem zH6 {KP:FuncId→Option KFun} {lib:zk} {h:Hints} (hK:∀f kf,KP f=some kf→zCM P h f kf) (hL:zEA G P lib):∀n,zBk G P (zBz KP lib n):=by
 intro n
 induction n with
 |zero=>intro f args up r hr;simp [zBz] at hr
 |succ n ih=>
  intro f args up r hr F N0 pl w vals hm hN hv
  simp only [zBz] at hr
  split at hr
  ·rename_i kf hkf
   split at hr
   ·rename_i hl
    obtain ⟨⟨e,st⟩,h1,h2⟩:=Option.bind_eq_some_iff.1 hr
    dsimp only at h2
    obtain ⟨q,h4,h3⟩:=Option.bind_eq_some_iff.1 h2
    clear h2
    have hq:q=r:=by
     unfold zHj at h3
     split at h3
     ·split at h3
      ·split at h3
       ·exact Option.some.inj h3
       ·cases h3
      ·cases h3
     ·exact Option.some.inj h3
    subst hq
    exact zMP ih (hK f kf hkf) hl h1 h4 h3 hm hN hv
   ·cases hr
  ·exact hL f args up r hr F N0 pl w vals hm hN hv
end
end Go.Eng

