import Derived.Test.YtdkoeegcpbaojaaGreatDoorTFnExactDagText
import Derived.Test.YtdkoeegcpbaojaaGreatDoorE32
import Derived.Lib.Strings
import Derived.Test.YtdkoeegcpbaojaaGreatDoorSFnExactDagTextp1
namespace Go.Proofs.YtdkoeegcpbaojaaGreatDoor.KFnExactDagText
open Go.Eng
set_option linter.unusedVariables false
set_option linter.unusedSimpArgs false
theorem qU9 (r:List UInt8):Ev (qBT · (BR r) ⟨#[32]⟩) (BR (tb r)):=by
 refine ⟨1,fun n hn=>?_⟩
 obtain ⟨m,rfl,hm⟩:=up1 hn
 show zR (BR r) ⟨#[32]⟩=_
 unfold zR
 rw [if_pos ⟨by decide,by decide+kernel⟩]
 unfold Lib.trimLeftS tb
 have:(fun c=>(⟨#[32]⟩:ByteArray).data.toList.contains c)=(fun c=>c==32):=funext (qTN qWl)
 rw [this]
 rfl
theorem qVA (r:List UInt8):Ev (qBT · (BR r) ⟨#[65,66,67,68,69,70,71,72,73,74,75,76,77,78,79,80,81,82,83,84,85,86,87,88,89,90,48,49,50,51,52,53,54,55,56,57,36]⟩) (BR (wr r)):=by
 refine ⟨1,fun n hn=>?_⟩
 obtain ⟨m,rfl,hm⟩:=up1 hn
 show zR (BR r) wcS=_
 unfold zR
 rw [if_pos ⟨by decide,by decide+kernel⟩]
 unfold Lib.trimLeftS wr
 have:(fun c=>wcS.data.toList.contains c)=wch:=funext (qTN qWm)
 rw [this]
 rfl
theorem qIA (r:List UInt8) (m:Nat) (b:Bool) (rows:List (List PV)):Ev (qA5 · (BR r) m b rows) (BR (tb r),m,b,rows):=by
 obtain ⟨n1,h1⟩:=qU9 r
 refine ⟨n1+1,fun n hn=>?_⟩
 obtain ⟨m,rfl,hm⟩:=up1 hn
 have h1:=h1 m (by omega)
 dsimp only at h1
 simp only [qA5,qDr,qC,qE,qG,qH,qJ,qK,Option.bind_some,qF,qM,qN,h1]
theorem qBj (m:Nat) (s w:List UInt8):qn (m+2) (BR s) (BR w)=some (w.isPrefixOf s):=by
 simp only [qn,qCF,qAE,qA4,qC,qE,qG,qH,qJ,qK,Option.bind_some,qF,qM,qN,qb,qGb,qAR]
 by_cases h:w.length≤s.length
 ·have h1:((s.length:Nat):Int)≥((w.length:Nat):Int):=by omega
  simp [h1,h,List.isPrefixOf_iff_prefix,List.prefix_iff_eq_take]
  by_cases e:w=s.take w.length
  ·simp [←e,List.isPrefixOf_iff_prefix.2 (List.prefix_iff_eq_take.2 e)]
  ·have e2:¬s.take w.length=w:=fun h=>e h.symm
   have e3:w.isPrefixOf s=false:=by
    rw [Bool.eq_false_iff]
    intro hp
    exact e (List.prefix_iff_eq_take.1 (List.isPrefixOf_iff_prefix.1 hp))
   simp [e2,e3]
 ·have h1:¬((s.length:Nat):Int)≥((w.length:Nat):Int):=by omega
  have e3:w.isPrefixOf s=false:=by
   rw [Bool.eq_false_iff]
   intro hp
   exact h (List.isPrefixOf_iff_prefix.1 hp).length_le
  simp [h1,e3]
theorem qUR (s w:List UInt8):Ev (qn · (BR s) (BR w)) (w.isPrefixOf s):=by
 refine ⟨2,fun n hn=>?_⟩
 obtain ⟨m,rfl,hm⟩:=up1 hn
 obtain ⟨m,rfl,hm⟩:=up1 hm
 exact qBj m s w
def qTz:List (List PV):=qEv.map fun w=> [PV.s (BR w)]
theorem qSe {n:Nat} {r:List UInt8} (m:Nat) (b:Bool) (rows:List (List PV)) (h:∀w∈qEv,qn n (BR r) (BR w)=some (w.isPrefixOf r)):
  ∀(k i M:Nat),i+k=15→k+1≤M→zC (qCZ n) M (15,15,(i:Int),qTz,BR r,m,b,rows)=some (match (qEv.drop i).find? (fun w=>w.isPrefixOf r) with|some w=> .inl (BR w,BR r,m,b,rows)|none=> .inr (BR r,m,b,rows))
 |k,i,0,h1,h2=>by omega
 |0,i,M+1,h1,h2=>by
  have hi:i=15:=by omega
  subst hi
  rw [qP (r:= .inr (BR r,m,b,rows)) (by simp [qCZ,qC,qE,qG,qH,qJ,qK,Option.bind_some,qF,qM,qN])]
  rfl
 |k+1,i,M+1,h1,h2=>by
  have hi:i<qEv.length:=by simp [qEv];omega
  obtain ⟨w,hw⟩:∃w,qEv[i]?=some w:=⟨_,List.getElem?_eq_getElem hi⟩
  have hR:qTz[i]?=some [PV.s (BR w)]:=by simp [qTz,List.getElem?_map,hw]
  have hl:qTz.length=15:=rfl
  have hc:zT [PV.s (BR w)] 0=some (BR w):=rfl
  have hp:=h w (List.mem_of_getElem? hw)
  have hd:qEv.drop i=w::qEv.drop (i+1):=qDc hw
  have w5:IntKind.i64.wrap ((i:Int)+1)=((i+1:Nat):Int):=by rw [qT (by omega)];omega
  rw [hd]
  simp only [List.find?_cons]
  cases hq:w.isPrefixOf r with
  |true=>
   rw [qP (r:= .inl (BR w,BR r,m,b,rows)) (by
    refine qD (by simp;omega) (qD (by simp [hl];omega) (qA hR (qA hc (qA (hp.trans (congrArg some hq)) (qD rfl rfl))))))]
  |false=>
   rw [qU (v':=(15,15,((i+1:Nat):Int),qTz,BR r,m,b,rows)) (by
    refine qD (by simp;omega) (qD (by simp [hl];omega) (qA hR (qA hc (qA (hp.trans (congrArg some hq)) (qO rfl ?_)))))
    rw [w5];rfl)]
   exact qSe m b rows h k (i+1) M (by omega) (by omega)
theorem qO6 (r:List UInt8) (m:Nat) (b:Bool) (rows:List (List PV)):Ev (qBv · (BR r) m b rows) (BR (sgn (tb r)),BR (tb r),m,b,rows):=by
 obtain ⟨n1,h1⟩:=qIA r m b rows
 obtain ⟨n2,h2⟩:=qAa (F:=fun w n=>qn n (BR (tb r)) (BR w)) (f:=fun w=>w.isPrefixOf (tb r)) qEv (fun w _=>qUR (tb r) w)
 refine ⟨n1+n2+30,fun n hn=>?_⟩
 obtain ⟨k,rfl,hm⟩:=up1 hn
 have h1:=h1 k (by omega)
 have lp:=qSe m b rows (h2 k (by omega)) 15 0 k rfl (by omega)
 refine qA h1 (qA lp ?_)
 simp only [List.drop_zero]
 unfold sgn
 cases hq:qEv.find? (fun w=>w.isPrefixOf (tb r)) with
 |some w=>rfl
 |none=>rfl
theorem qUq (r:List UInt8):sgn r<+:r:=by
 unfold sgn
 split
 ·rename_i w hw
  have:=List.find?_some hw
  exact List.isPrefixOf_iff_prefix.1 (by simpa using this)
 ·exact List.nil_prefix
theorem qSf (w r:List UInt8) (m:Nat) (b:Bool) (rows:List (List PV)):Ev (qt · (BR w) (BR r) m b rows) (decide (sgn (tb r)=w),BR (if sgn (tb r)=w then (tb r).drop w.length else tb r),m,b,rows):=by
 obtain ⟨n1,h1⟩:=qO6 r m b rows
 refine ⟨n1+1,fun n hn=>?_⟩
 obtain ⟨k,rfl,hm⟩:=up1 hn
 refine qA (h1 k (by omega)) ?_
 by_cases h:sgn (tb r)=w
 ·have hp:=(qUq (tb r)).length_le
  rw [h] at hp
  refine qO (by simp [qAR,h]) (qD (by simp [qb];omega) ?_)
  rw [qC,qb,qb,qGb]
  simp [h]
 ·refine qD (by simp [qAR,h]) ?_
  rw [qC]
  simp [h]
theorem qVB (r:List UInt8) (m:Nat) (b:Bool) (rows:List (List PV)) (hr:r.length≤1000):Ev (qBU · (BR r) m b rows) (BR (wd (tb r)),BR (wr (tb r)),m,b,rows):=by
 obtain ⟨n1,h1⟩:=qIA r m b rows
 obtain ⟨n2,h2⟩:=qVA (tb r)
 refine ⟨n1+n2+1,fun n hn=>?_⟩
 obtain ⟨k,rfl,hm⟩:=up1 hn
 have hb:=qAD r
 have hw:=qHh (tb r)
 have hsum:=congrArg List.length (wdr (tb r))
 simp only [List.length_append] at hsum
 have e:IntKind.i64.wrap (((tb r).length:Int)-((wr (tb r)).length:Int))=((wd (tb r)).length:Int):=by rw [qT (by omega)];omega
 refine qA (h1 k (by omega)) (qA (h2 k (by omega)) ?_)
 simp only [qb,e]
 refine qD (by simp;omega) (qD (by simp;omega) ?_)
 rw [qC]
 have t1:(wd (tb r)++wr (tb r)).take (wd (tb r)).length=wd (tb r):=List.take_left ..
 have t2:(wd (tb r)++wr (tb r)).drop (wd (tb r)).length=wr (tb r):=List.drop_left ..
 rw [wdr] at t1 t2
 simp [qGb,t1,t2]
def qGJ (p:PS):ByteArray×Nat×Bool×List (List PV):=(BR p.1,p.2.2.length,p.2.1,p.2.2.map qa)
def qHn (r:Int×PS):Int×ByteArray×Nat×Bool×List (List PV):=(r.1,BR r.2.1,r.2.2.2.length,r.2.2.1,r.2.2.2.map qa)
def qSA (c:Nd):Prop:=(kd c).length≤2000∧c.2.2.2.2.1.size≤2000
structure Gd (p:PS):Prop where
 r:p.1.length≤1000
 n:p.2.2.length≤60
 s:∀x∈p.2.2,qSA x
theorem qO7 (x:Nd) (p:PS) (h:p.2.2.length≤60):Ev (qu · x.1 x.2.1 x.2.2.1 x.2.2.2.1 x.2.2.2.2.1 x.2.2.2.2.2.1 x.2.2.2.2.2.2.1 x.2.2.2.2.2.2.2.1 x.2.2.2.2.2.2.2.2.1 x.2.2.2.2.2.2.2.2.2.1 x.2.2.2.2.2.2.2.2.2.2.1 x.2.2.2.2.2.2.2.2.2.2.2.1 x.2.2.2.2.2.2.2.2.2.2.2.2.1 ((kd x).map qq) (BR p.1) p.2.2.length p.2.1 (p.2.2.map qa)) (qHn (qDb x p)):=by
 obtain ⟨r,b,l⟩:=p
 refine ⟨1,fun n hn=>?_⟩
 obtain ⟨m,rfl,hm⟩:=up1 hn
 replace h:l.length≤60:=h
 show qu (m+1) _ _ _ _ _ _ _ _ _ _ _ _ _ _ (BR r) l.length b (l.map qa)=_
 unfold qDb
 have w1:IntKind.i64.wrap (((l.length:Nat):Int)-1)=(l.length:Int)-1:=qT (by omega)
 have w2:IntKind.i64.wrap ((((l.length+1):Nat):Int)-1)=(l.length:Int):=by rw [qT (by omega)];omega
 cases b with
 |true=>
  rw [if_pos (.inl rfl)]
  refine qD rfl (qO rfl ?_)
  rw [qC,w1]
  rfl
 |false=>
  by_cases h6:60≤l.length
  ·rw [if_pos (.inr h6)]
   have d:decide (((l.length:Nat):Int)≥60)=true:=decide_eq_true (by omega)
   refine qO rfl (qO (by rw [d];rfl) ?_)
   rw [qC,w1,d]
   rfl
  ·have hn:¬(((r,false,l):PS).2.1=true∨60≤((r,false,l):PS).2.2.length):=by
    intro hh
    rcases hh with hh|hh
    ·exact absurd hh (by simp)
    ·exact h6 hh
   rw [if_neg hn]
   have d:decide (((l.length:Nat):Int)≥60)=false:=decide_eq_false (by omega)
   refine qO rfl (qD (by rw [d];rfl) (qD rfl (qD (decide_eq_true ⟨by simp,by decide,by decide,by simp;omega,rfl⟩) ?_)))
   rw [qC,w2,d]
   simp only [qHn,List.map_append,List.length_append]
   rfl
theorem qLP (v:V3) (p:PS) (h:p.2.2.length≤60):Ev (qj · v.1 v.2.1 v.2.2 (BR p.1) p.2.2.length p.2.1 (p.2.2.map qa)) (qHn (qDb (nd1 v) p)):=by
 obtain ⟨n1,h1⟩:=qO7 (nd1 v) p h
 refine ⟨n1+1,fun n hn=>?_⟩
 obtain ⟨k,rfl,hm⟩:=up1 hn
 exact qA (h1 k (by omega)) rfl
theorem qHi {x:Nd} {p:PS} (h:Gd p) (hx:qSA x):Gd (qDb x p).2:=by
 unfold qDb
 split
 ·exact ⟨h.r,h.n,h.s⟩
 ·rename_i hh
  refine ⟨h.r,?_,fun y hy=>?_⟩
  ·have:¬60≤p.2.2.length:=fun e=>hh (.inr e)
   simp;omega
  ·simp at hy
   rcases hy with hy|rfl
   ·exact h.s _ hy
   ·exact hx
theorem qCy {w:List UInt8} {p:PS} (h:Gd p):Gd (qX w p).2:=by
 have:=qJm w p
 have h2:=qAD p.1
 have h3:=h.r
 refine ⟨by omega,?_,?_⟩
 ·unfold qX;split<;>exact h.n
 ·unfold qX;split<;>exact h.s
theorem qGt (w:List UInt8) (p:PS):Ev (qt · (BR w) (BR p.1) p.2.2.length p.2.1 (p.2.2.map qa)) ((qX w p).1,qGJ (qX w p).2):=by
 obtain ⟨n1,h1⟩:=qSf w p.1 p.2.2.length p.2.1 (p.2.2.map qa)
 refine ⟨n1,fun n hn=>?_⟩
 have h1:=h1 n hn
 unfold qX
 by_cases h:sgn (tb p.1)=w
 ·simp only [h,if_true,decide_true] at h1
  rw [if_pos h];exact h1
 ·simp only [h,if_false,decide_false] at h1
  rw [if_neg h];exact h1
theorem qTO (p:PS) (h:p.1.length≤1000):Ev (qBU · (BR p.1) p.2.2.length p.2.1 (p.2.2.map qa)) (BR (wd (tb p.1)),qGJ (wr (tb p.1),p.2)):=qVB p.1 _ _ _ h
theorem qTP (r:List UInt8):(wd r).length≤r.length:=by
 have:=congrArg List.length (wdr r)
 simp only [List.length_append] at this
 omega
theorem qVd (r:List UInt8) (h:r.length≤1000):Ev (qAp · (BR (wd (tb r)))) (qA9 (BR (wd (tb r)))):=qNo _ (by rw [qb];have:=qTP (tb r);have:=qAD r;omega)
theorem qXE (r:List UInt8) (h:r.length≤1000):Ev (qe · (BR (wd (tb r)))) (qi (BR (wd (tb r)))):=qH6 _ (by rw [qb];have:=qTP (tb r);have:=qAD r;omega)
theorem qT0 (c:UInt8) (t:List UInt8):Lib.cut (c::t) [34]=if c=34 then ([],t,true) else (c::(Lib.cut t [34]).1,(Lib.cut t [34]).2.1,(Lib.cut t [34]).2.2):=by
 by_cases h:c=34
 ·subst h
  rw [if_pos rfl]
  simp [Lib.cut,Lib.index,List.isPrefixOf]
 ·rw [if_neg h]
  have h':¬34=c:=fun e=>h e.symm
  have g:=Lib.index_ge t [34]
  unfold Lib.cut
  by_cases e:Lib.index t [34]= -1
  ·have:Lib.index (c::t) [34]= -1:=by simp [Lib.index,List.isPrefixOf,h',e]
   simp [this,e]
  ·have:Lib.index (c::t) [34]=Lib.index t [34]+1:=by simp [Lib.index,List.isPrefixOf,h',e]
   have p:0≤Lib.index t [34]:=by omega
   have p1:0≤Lib.index t [34]+1:=by omega
   have q:(Lib.index t [34]+1).toNat=(Lib.index t [34]).toNat+1:=by omega
   simp [this,p,p1,q]
theorem qWn (acc t:List UInt8):qCJ acc (34::34::t)=qCJ (acc++ [34]) t:=(qCJ.eq_def acc _).trans (by simp)
theorem qWo (acc t:List UInt8) (h:t.head?≠some 34):qCJ acc (34::t)=some (acc,t):=by
 refine (qCJ.eq_def acc _).trans ?_
 cases t with
 |nil=>simp
 |cons d t=>
  have:¬d=34:=fun e=>h (by rw [e];rfl)
  simp [this]
theorem qWp (acc t:List UInt8) {c:UInt8} (h:¬c=34):qCJ acc (c::t)=qCJ (acc++ [c]) t:=(qCJ.eq_def acc _).trans (by simp only [if_neg h])
theorem up3 {n n0:Nat} (h:n0+3≤n):∃m,n=m+3∧n0≤m:=⟨n-3,by omega,by omega⟩
theorem qSg:∀(r acc:List UInt8),qCJ acc r=if (Lib.cut r [34]).2.2=true then (if (Lib.cut r [34]).2.1.head?=some 34 then qCJ (acc++(Lib.cut r [34]).1++ [34]) (Lib.cut r [34]).2.1.tail else some (acc++(Lib.cut r [34]).1,(Lib.cut r [34]).2.1)) else none
 | [],acc=>by simp [qCJ,Lib.cut,Lib.index]
 |c::t,acc=>by
  rw [qT0]
  by_cases h:c=34
  ·subst h
   rw [if_pos rfl]
   by_cases e:t.head?=some 34
   ·obtain ⟨u,rfl⟩:∃u,t=34::u:=by
     cases t with
     |nil=>cases e
     |cons d u=>simp at e;subst e;exact ⟨u,rfl⟩
    rw [qWn];simp
   ·rw [qWo acc t e];simp [e]
  ·simp only [if_neg h]
   rw [qWp acc t h,qSg t (acc++ [c])]
   simp
theorem qUr:∀r:List UInt8,(Lib.cut r [34]).1.length+(Lib.cut r [34]).2.1.length≤r.length∧((Lib.cut r [34]).2.2=true→(Lib.cut r [34]).2.1.length<r.length)
 | []=>by simp [Lib.cut,Lib.index]
 |c::t=>by
  rw [qT0]
  have ih:=qUr t
  split
  ·simp
  ·simp only [List.length_cons]
   exact ⟨by omega,fun h=>by have:=ih.2 h;omega⟩
theorem qHj:∀(k:Nat) (acc r:List UInt8) {s t:List UInt8},r.length≤k→qCJ acc r=some (s,t)→s.length≤acc.length+r.length+1
 |k,acc,[],s,t,hk,h=>by simp [qCJ] at h
 |0,acc,c::r,s,t,hk,h=>by simp at hk
 |k+1,acc,c::r,s,t,hk,h=>by
  simp only [List.length_cons] at hk
  unfold qCJ at h
  split at h
  ·cases r with
   |nil=>
    simp at h
    rw [←h.1];simp;omega
   |cons d r'=>
    simp only at h
    split at h
    ·have:=qHj k _ r' (by simp at hk;omega) h
     simp at this⊢;omega
    ·simp at h
     rw [←h.1];simp;omega
  ·have:=qHj k _ r (by omega) h
   simp at this⊢;omega
theorem qWq (m:Nat) (r:List UInt8) (h:r.length≤1000):qIS (m+1) (BR r) ⟨#[34]⟩=some (BR (Lib.cut r [34]).1,BR (Lib.cut r [34]).2.1,(Lib.cut r [34]).2.2):=by
 show zAk (BR r) ⟨#[34]⟩=_
 unfold zAk
 rw [if_pos (by rw [qb];omega),←Go.Lib.toList_data (BR r),qAR]
 rfl
theorem qPK (n:Nat) (orig:ByteArray) (m:Nat) (b:Bool) (rows:List (List PV)):∀(k:Nat) (r acc:List UInt8) (M:Nat),r.length≤k→acc.length+r.length≤1000→k+1≤M→
  zC (qDJ (n+2)) M (BR acc,BR r,orig,m,b,rows)=some (match qCJ acc r with
   |none=> .inl (-1,orig,m,true,rows)
   |some (s,t)=> .inr (BR s,BR t,orig,m,b,rows))
 |k,r,acc,0,h1,h2,h3=>by omega
 |k,r,acc,M+1,h1,h2,h3=>by
  have hc:=qWq (n+1) r (by omega)
  have hl:=qUr r
  have hp:=qBj n (Lib.cut r [34]).2.1 [34]
  rw [qSg]
  cases hf:(Lib.cut r [34]).2.2 with
  |false=>
   rw [if_neg (by simp)]
   refine (qP (r:= .inl (-1,orig,m,true,rows)) ?_).trans rfl
   refine qA hc (qD (by simp [hf]) rfl)
  |true=>
   rw [if_pos rfl]
   have hlt:=hl.2 hf
   by_cases hh:(Lib.cut r [34]).2.1.head?=some 34
   ·rw [if_pos hh]
    have hb:List.isPrefixOf [34] (Lib.cut r [34]).2.1=true:=(qFV 34 _).2 hh
    obtain ⟨u,hu⟩:∃u,(Lib.cut r [34]).2.1=34::u:=by
     cases e:(Lib.cut r [34]).2.1 with
     |nil=>rw [e] at hh;cases hh
     |cons c u=>rw [e] at hh;simp at hh;subst hh;exact ⟨u,rfl⟩
    rw [hb] at hp
    rw [qU (v':=(BR (acc++(Lib.cut r [34]).1++ [34]),BR (Lib.cut r [34]).2.1.tail,orig,m,b,rows)) (by
     refine qA hc (qO (by simp [hf]) (qD (decide_eq_true (by rw [qb,qb];omega)) (qA hp (qO rfl (qD (decide_eq_true (by rw [qO5,qb,List.length_append];show _+1≤9223372036854775807;omega)) (qD (decide_eq_true ⟨by decide,by simp only [qb];rw [hu];simp;omega,by simp [qb]⟩) ?_))))))
     rw [qC]
     simp only [qO5,qb,qGb]
     rw [hu]
     simp
     exact (qO5 (acc++(Lib.cut r [34]).1) [34]).trans (by rw [List.append_assoc]))]
    rw [hu] at hl hlt⊢
    simp only [List.length_cons] at hl hlt
    refine qPK n orig m b rows (k-1) _ _ M (by simp;omega) (by simp;omega) (by omega)
   ·rw [if_neg hh]
    have hb:List.isPrefixOf [34] (Lib.cut r [34]).2.1=false:=by
     rw [Bool.eq_false_iff];intro e;exact hh ((qFV 34 _).1 e)
    rw [hb] at hp
    refine (qP (r:= .inr (BR (acc++(Lib.cut r [34]).1),BR (Lib.cut r [34]).2.1,orig,m,b,rows)) ?_).trans rfl
    refine qA hc (qO (by simp [hf]) (qD (decide_eq_true (by rw [qb,qb];omega)) (qA hp (qD rfl ?_))))
    rw [qC,qO5]
theorem qVC (t:List UInt8) (b:Bool) (l:List Nd) (h:t.length≤999) (hl:l.length≤60):Ev (qDs · (BR (34::t)) l.length b (l.map qa)) (qHn (match qCJ [] t with
   |none=>(-1,34::t,true,l)
   |some (s,t')=>qDb (nd1 (2,0,BR s)) (t',b,l))):=by
 have lp:=fun n M (hM:t.length+1≤M)=>qPK n (BR (34::t)) l.length b (l.map qa) t.length t [] M (Nat.le_refl _) (by simp;omega) hM
 cases hq:qCJ [] t with
 |none=>
  refine ⟨t.length+1+3,fun n hn=>?_⟩
  obtain ⟨m,rfl,hm⟩:=up3 hn
  have lp:=lp m (m+2) (by omega)
  rw [hq] at lp
  refine qD (decide_eq_true ⟨by decide,by rw [qb];simp;omega,Int.le_refl _⟩) ?_
  have e:(BR (34::t)).extract ((1:Int)).toNat ((((BR (34::t)).size:Nat):Int)).toNat=BR t:=by rw [qGb,qb];simp
  rw [e]
  exact qA lp rfl
 |some st=>
  obtain ⟨s,t'⟩:=st
  obtain ⟨n1,h1⟩:=qLP (2,0,BR s) (t',b,l) hl
  refine ⟨n1+t.length+1+3,fun n hn=>?_⟩
  obtain ⟨m,rfl,hm⟩:=up3 hn
  have lp:=lp m (m+2) (by omega)
  rw [hq] at lp
  refine qD (decide_eq_true ⟨by decide,by rw [qb];simp;omega,Int.le_refl _⟩) ?_
  have e:(BR (34::t)).extract ((1:Int)).toNat ((((BR (34::t)).size:Nat):Int)).toNat=BR t:=by rw [qGb,qb];simp
  rw [e]
  exact qA lp (qA (h1 (m+2) (by omega)) rfl)
theorem qWN (m:Nat) (r:List UInt8) (w:ByteArray):qAL (m+1) (BR r) w=some (BR (if w.toList.isPrefixOf r=true then r.drop w.size else r),w.toList.isPrefixOf r):=by
 show ze (BR r) w=_
 unfold ze Lib.trimPrefix Lib.hasPrefix
 rw [←Go.Lib.toList_data (BR r),←Go.Lib.toList_data w,qAR,qAZ]
 rfl
theorem qT1 {n:Nat} (deep:Int) (r:List UInt8) (b:Bool) (l:List Nd)
  (h1:∀i,0≤i∧i≤5→qAo n i=some (qf i)) (h2:∀i,1≤i∧i≤5→qB2 n i=some (4,i,em))
  (h3:∀w,qAL n (BR r) w=some (BR (if w.toList.isPrefixOf r=true then r.drop w.size else r),w.toList.isPrefixOf r))
  (h4:∀i,1≤i∧i≤5→qj n 4 i em (BR (r.drop (qf i).size)) l.length b (l.map qa)=some (qHn (qDb (nd1 (4,i,em)) (r.drop (qf i).size,b,l)))):
  ∀(k:Nat) (i:Int) (M:Nat),1≤i→i+k=6→k+1≤M→zC (qCK n) M (deep,i,BR r,l.length,b,l.map qa)=some (match qKI r i k with
   |some e=> .inl (qHn (qDb (nd1 (4,e,em)) (r.drop (qf e).size,b,l)))
   |none=> .inr (deep,BR r,l.length,b,l.map qa))
 |k,i,0,_,_,h=>by omega
 |0,i,M+1,hi,hk,h=>by
  rw [qP (r:= .inr (deep,BR r,l.length,b,l.map qa)) (by exact qO (decide_eq_false (show ¬i≤5 by omega)) rfl)]
  rfl
 |k+1,i,M+1,hi,hk,h=>by
  have hi5:1≤i∧i≤5:=⟨hi,by omega⟩
  have c:=h3 (qf i)
  cases hq:(qf i).toList.isPrefixOf r with
  |true=>
   rw [hq,if_pos rfl] at c
   unfold qKI
   rw [if_pos hq]
   refine qP (qD (decide_eq_true (show i≤5 by omega)) (qA (h1 i ⟨by omega,by omega⟩) (qA c (qD rfl (qA (h2 i hi5) (qA (h4 i hi5) rfl))))))
  |false=>
   rw [hq,if_neg (by simp)] at c
   unfold qKI
   rw [if_neg (by rw [hq];simp)]
   have w1:IntKind.i64.wrap (i+1)=i+1:=qT (by omega)
   rw [qU (v':=(deep,i+1,BR r,l.length,b,l.map qa)) (by refine qD (decide_eq_true (show i≤5 by omega)) (qA (h1 i ⟨by omega,by omega⟩) (qA c (qO rfl ?_)));rw [qC,w1])]
   exact qT1 deep r b l h1 h2 h3 h4 k (i+1) M (by omega) (by omega) (by omega)
theorem qWr (deep:Int) (r:List UInt8) (b:Bool) (l:List Nd) (hl:l.length≤60):∃n0,∀n,n0≤n→∀M,n0≤M→zC (qCK n) M (deep,1,BR r,l.length,b,l.map qa)=some (match qKI r 1 5 with
   |some e=> .inl (qHn (qDb (nd1 (4,e,em)) (r.drop (qf e).size,b,l)))
   |none=> .inr (deep,BR r,l.length,b,l.map qa)):=by
 obtain ⟨n1,h1⟩:=qGq (F:=qAo) (f:=qf) (lo:=0) (by decide) qFU
 obtain ⟨n2,h2⟩:=qGq (F:=qB2) (f:=fun i=>(4,i,em)) (lo:=1) (by decide) (fun i _=>qMI i)
 obtain ⟨n4,h4⟩:=qGq (F:=fun n i=>qj n 4 i em (BR (r.drop (qf i).size)) l.length b (l.map qa)) (f:=fun i=>qHn (qDb (nd1 (4,i,em)) (r.drop (qf i).size,b,l))) (lo:=1) (by decide) (fun i _=>qLP (4,i,em) (r.drop (qf i).size,b,l) hl)
 refine ⟨n1+n2+n4+7,fun n hn M hM=>?_⟩
 exact qT1 deep r b l (h1 n (by omega)) (h2 n (by omega)) (fun w=>by
  obtain ⟨m,rfl,_⟩:=up1 (show n1+1≤n by omega)
  exact qWN m r w) (h4 n (by omega)) 5 1 M (by omega) (by omega) (by omega)
theorem qUs {g:G_impl_reader_binary} {n:Nat} (deep:Int) (w:List UInt8) (p:PS) (res:Int→Int×PS) (h1:∀i,1≤i∧i≤10→qCM n i=some (fnS i)):
  ∀(k:Nat) (i:Int) (M:Nat),1≤i→i+k=11→k+1≤M→(∀op,qGs w i k=some op→g.impl_reader_call op deep (BR p.1) p.2.2.length p.2.1 (p.2.2.map qa)=some (qHn (res op)))→
   zC (qAs g n) M (deep,BR w,i,BR p.1,p.2.2.length,p.2.1,p.2.2.map qa)=some (match qGs w i k with
   |some op=> .inl (qHn (res op))
   |none=> .inr (qGJ p))
 |k,i,0,_,_,h,_=>by omega
 |0,i,M+1,hi,hk,h,_=>by
  rw [qP (r:= .inr (qGJ p)) (by exact qO (decide_eq_false (show ¬i≤10 by omega)) rfl)]
  rfl
 |k+1,i,M+1,hi,hk,h,hc=>by
  unfold qGs at hc⊢
  by_cases hq:(fnS i).toList=w
  ·rw [if_pos hq] at hc⊢
   refine qP (qD (decide_eq_true (show i≤10 by omega)) (qA (h1 i ⟨hi,by omega⟩) (qD (by simp [qAR,hq]) (qA (hc i rfl) rfl))))
  ·rw [if_neg hq] at hc⊢
   have w1:IntKind.i64.wrap (i+1)=i+1:=qT (by omega)
   have hq':¬w=(fnS i).toList:=fun e=>hq e.symm
   rw [qU (v':=(deep,BR w,i+1,BR p.1,p.2.2.length,p.2.1,p.2.2.map qa)) (by refine qD (decide_eq_true (show i≤10 by omega)) (qA (h1 i ⟨hi,by omega⟩) (qO (by simp [qAR,hq']) ?_));rw [qC,w1])]
   exact qUs deep w p res h1 k (i+1) M (by omega) (by omega) (by omega) hc
theorem qWs:∃n0,∀n,n0≤n→∀i,1≤i∧i≤10→qCM n i=some (fnS i):=by
 obtain ⟨n1,h1⟩:=qAa (F:=fun (i:Nat) n=>qCM n ((i:Int)+1)) (f:=fun i=>fnS ((i:Int)+1)) (List.range 10) (fun i hi=>qLM _ (by have:=List.mem_range.1 hi;omega))
 refine ⟨n1,fun n hn i hi=>?_⟩
 have:=h1 n hn (i-1).toNat (List.mem_range.2 (by omega))
 rwa [show (((i-1).toNat:Nat):Int)+1=i by omega] at this
theorem qWt:∃n0,∀n,n0≤n→∀i,1≤i∧i≤11→qBb n i=some (qAV i):=by
 obtain ⟨n1,h1⟩:=qAa (F:=fun (i:Nat) n=>qBb n ((i:Int)+1)) (f:=fun i=>qAV ((i:Int)+1)) (List.range 11) (fun i hi=>qHg _ (by have:=List.mem_range.1 hi;omega))
 refine ⟨n1,fun n hn i hi=>?_⟩
 have:=h1 n hn (i-1).toNat (List.mem_range.2 (by omega))
 rwa [show (((i-1).toNat:Nat):Int)+1=i by omega] at this
def opF (s:List UInt8):Int→Int→Nat→Int
 |op,_,0=>op
 |op,i,k+1=>opF s (if s=(qAV i).toList then i else op) (i+1) k
theorem qWu (r:List UInt8):opF (sgn r) 0 1 11=qA3 r:=by
 unfold qA3
 generalize sgn r=s
 by_cases h1:s= [43]; · subst h1;decide+kernel
 by_cases h2:s= [45]; · subst h2;decide+kernel
 by_cases h3:s= [42]; · subst h3;decide+kernel
 by_cases h4:s= [47]; · subst h4;decide+kernel
 by_cases h5:s= [38]; · subst h5;decide+kernel
 by_cases h6:s= [61]; · subst h6;decide+kernel
 by_cases h7:s= [60,62]; · subst h7;decide+kernel
 by_cases h8:s= [60]; · subst h8;decide+kernel
 by_cases h9:s= [60,61]; · subst h9;decide+kernel
 by_cases h10:s= [62]; · subst h10;decide+kernel
 by_cases h11:s= [62,61]; · subst h11;decide+kernel
 rw [if_neg h1,if_neg h2,if_neg h3,if_neg h4,if_neg h5,if_neg h6,if_neg h7,if_neg h8,if_neg h9,if_neg h10,if_neg h11]
 rw [←sg1] at h1;rw [←sg2] at h2;rw [←sg3] at h3;rw [←sg4] at h4;rw [←sg5] at h5;rw [←sg6] at h6;rw [←sg7] at h7;rw [←sg8] at h8;rw [←sg9] at h9;rw [←qVZ] at h10;rw [←qVa] at h11
 simp only [opF,if_neg h1]
 simp only [show (1:Int)+1=2 from rfl,if_neg h2,show (2:Int)+1=3 from rfl,if_neg h3,show (3:Int)+1=4 from rfl,if_neg h4,show (4:Int)+1=5 from rfl,if_neg h5,show (5:Int)+1=6 from rfl,if_neg h6,show (6:Int)+1=7 from rfl,if_neg h7,show (7:Int)+1=8 from rfl,if_neg h8,show (8:Int)+1=9 from rfl,if_neg h9,show (9:Int)+1=10 from rfl,if_neg h10,show (10:Int)+1=11 from rfl,if_neg h11]
theorem qT2 {n:Nat} (least deep a op i:Int) (r R:List UInt8) (m:Nat) (b:Bool) (rows:List (List PV)) (hi:1≤i∧i≤11)
  (h1:qBv n (BR r) m b rows=some (BR (sgn R),BR R,m,b,rows)) (h2:qBb n i=some (qAV i)):
  (qBI n (least,deep,a,op,i,BR r,m,b,rows)).run=some (.inl (least,deep,a,if sgn R=(qAV i).toList then i else op,i+1,BR R,m,b,rows)):=by
 have w1:IntKind.i64.wrap (i+1)=i+1:=qT (by omega)
 refine qD (decide_eq_true (show i≤11 by omega)) (qA h1 (qA h2 ?_))
 by_cases hq:sgn R=(qAV i).toList
 ·rw [if_pos hq]
  exact qD (by simp [qAR,hq]) (by rw [qC,w1])
 ·rw [if_neg hq]
  exact qO (by simp [qAR,hq]) (by rw [qC,w1])
theorem qT3 {n:Nat} (least deep a:Int) (R:List UInt8) (m:Nat) (b:Bool) (rows:List (List PV))
  (h1:qBv n (BR R) m b rows=some (BR (sgn R),BR R,m,b,rows)) (h2:∀i,1≤i∧i≤11→qBb n i=some (qAV i)):
  ∀(k:Nat) (op i:Int) (M:Nat),1≤i→i+k=12→k+1≤M→zC (qBI n) M (least,deep,a,op,i,BR R,m,b,rows)=some (least,deep,a,opF (sgn R) op i k,BR R,m,b,rows)
 |k,op,i,0,_,_,h=>by omega
 |0,op,i,M+1,hi,hk,h=>by
  rw [qP (r:=(least,deep,a,op,BR R,m,b,rows)) (by exact qO (decide_eq_false (show ¬i≤11 by omega)) rfl)]
  rfl
 |k+1,op,i,M+1,hi,hk,h=>by
  rw [qU (qT2 least deep a op i R R m b rows ⟨hi,by omega⟩ h1 (h2 i ⟨hi,by omega⟩))]
  exact qT3 least deep a R m b rows h1 h2 k _ (i+1) M (by omega) (by omega) (by omega)
theorem qWO (least deep a:Int) (r:List UInt8) (m:Nat) (b:Bool) (rows:List (List PV)):∃n0,∀n,n0≤n→∀M,n0≤M→zC (qBI n) M (least,deep,a,0,1,BR r,m,b,rows)=some (least,deep,a,qA3 (tb r),BR (tb r),m,b,rows):=by
 obtain ⟨n1,h1⟩:=qO6 r m b rows
 obtain ⟨n2,h2⟩:=qO6 (tb r) m b rows
 obtain ⟨n3,h3⟩:=qWt
 refine ⟨n1+n2+n3+20,fun n hn M hM=>?_⟩
 obtain ⟨M,rfl,hM⟩:=up1 hM
 have h2:=h2 n (by omega)
 rw [qCd] at h2
 rw [qU (qT2 least deep a 0 1 r (tb r) m b rows (by omega) (h1 n (by omega)) (h3 n (by omega) 1 (by omega)))]
 rw [show (1:Int)+1=2 from rfl,qT3 least deep a (tb r) m b rows h2 (h3 n (by omega)) 10 _ 2 M (by omega) (by omega) (by omega),←qWu]
 rfl
theorem qUt {p:PS} (h:Gd p):Gd (qBN p).2∧(qBN p).2.1.length≤p.1.length∧∀x,(qBN p).1=some x→qSA x:=by
 have h1:=qAD p.1
 have h2:=qHh (tb p.1)
 have h0:=h.r
 unfold qBN
 simp only
 split
 ·have h3:=qJm [58] (wr (tb p.1),p.2)
  have h4:=qAD (qX [58] (wr (tb p.1),p.2)).2.1
  have h5:=qHh (tb (qX [58] (wr (tb p.1),p.2)).2.1)
  have h6:=qAD (wr (tb p.1))
  have e:(qX [58] (wr (tb p.1),p.2)).2.2.2=p.2.2:=by unfold qX;split<;>rfl
  simp only at h3
  refine ⟨⟨by simp only;omega,by rw [e];exact h.n,by rw [e];exact h.s⟩,by simp only;omega,fun x hx=>?_⟩
  cases hx
  exact ⟨by simp [kd,ndA],by simp [ndA,em];decide⟩
 ·exact ⟨h,Nat.le_refl _,fun x hx=>by cases hx⟩
theorem qWP (p:PS) (h:p.1.length≤1000):∃x:Nd,(∀y,(qBN p).1=some y→x=y)∧Ev (qDS · (BR p.1) p.2.2.length p.2.1 (p.2.2.map qa)) (x.1,x.2.1,x.2.2.1,x.2.2.2.1,x.2.2.2.2.1,x.2.2.2.2.2.1,x.2.2.2.2.2.2.1,x.2.2.2.2.2.2.2.1,x.2.2.2.2.2.2.2.2.1,x.2.2.2.2.2.2.2.2.2.1,x.2.2.2.2.2.2.2.2.2.2.1,x.2.2.2.2.2.2.2.2.2.2.2.1,x.2.2.2.2.2.2.2.2.2.2.2.2.1,(kd x).map qq,(qBN p).1.isSome,qGJ (qBN p).2):=by
 have l1:=qAD p.1
 have l2:=qHh (tb p.1)
 have l3:=qJm [58] (wr (tb p.1),p.2)
 have l6:=qAD (wr (tb p.1))
 simp only at l3
 obtain ⟨n1,h1⟩:=qTO p h
 obtain ⟨n2,h2⟩:=qVd p.1 h
 obtain ⟨n3,h3⟩:=qGt [58] (wr (tb p.1),p.2)
 have hle:(qX [58] (wr (tb p.1),p.2)).2.1.length≤1000:=by omega
 obtain ⟨n4,h4⟩:=qTO (qX [58] (wr (tb p.1),p.2)).2 hle
 obtain ⟨n5,h5⟩:=qVd (qX [58] (wr (tb p.1),p.2)).2.1 hle
 have e:(qX [58] (wr (tb p.1),p.2)).2.2=p.2:=by unfold qX;split<;>rfl
 unfold qBN
 simp only
 by_cases hc:(qA9 (BR (wd (tb p.1)))).2.2.2.2=true∧(qX [58] (wr (tb p.1),p.2)).1=true
 ·rw [if_pos hc]
  refine ⟨_,fun y hy=>by cases hy;rfl,n1+n2+n3+n4+n5+1,fun n hn=>?_⟩
  obtain ⟨k,rfl,hm⟩:=up1 hn
  refine qA (h1 k (by omega)) (qA (h2 k (by omega)) (qD hc.1 (qA (h3 k (by omega)) (qO (by simp only;rw [hc.2];rfl) (qA (h4 k (by omega)) (qA (h5 k (by omega)) ?_))))))
  cases hb:(qX [58] (wr (tb p.1),p.2)).2.2.1 with
  |true=>
   refine qD hb ?_
   rw [qC];rfl
  |false=>
   refine qO hb ?_
   rw [qC];rfl
 ·rw [if_neg hc]
  refine ⟨(0,0,0,0,⟨#[]⟩,0,0,false,false,0,0,false,false,[]),fun y hy=>(by cases hy),n1+n2+n3+1,fun n hn=>?_⟩
  obtain ⟨k,rfl,hm⟩:=up1 hn
  cases hr:(qA9 (BR (wd (tb p.1)))).2.2.2.2 with
  |false=>exact qA (h1 k (by omega)) (qA (h2 k (by omega)) (qO hr rfl))
  |true=>
   have ht:(qX [58] (wr (tb p.1),p.2)).1=false:=by
    rw [Bool.eq_false_iff];exact fun e=>hc ⟨hr,e⟩
   refine qA (h1 k (by omega)) (qA (h2 k (by omega)) (qD hr (qA (h3 k (by omega)) (qD (by simp only;rw [ht];rfl) ?_))))
   rw [qC]
   simp only [qGJ,e]
   rfl
theorem qLQ {s:ByteArray} (h:(qi s).2.2.2=true) (hk:(qi s).1=1∨(qi s).1=3):(qi s).2.2.1.size≤2000:=by
 unfold qi at h hk⊢
 split at h
 ·rename_i hc
  rw [if_pos hc] at hk⊢
  have h1:=hc.1
  unfold okV at h1
  have h2:¬(qBQ s).1=2:=by
   simp only at hk
   omega
  rw [if_neg h2] at h1
  simp only [Bool.and_eq_true,beq_iff_eq] at h1
  have:=congrArg List.length h1.1
  rw [qAZ] at this
  have h0:(qBQ s).2.2.size=0:=this
  show (qBQ s).2.2.size≤2000
  omega
 ·cases h
def Kj:PJ→PS→Prop
 | .args _ _ kids,p=>kids.length+p.1.length≤1500
 |_,_=>True
theorem qLa {w:List UInt8} {p:PS} (h:Gd p):Gd (qCX w p)∧(qCX w p).1.length≤p.1.length:=by
 have h1:=qJm w p
 have h2:=qAD p.1
 unfold qCX
 split
 ·exact ⟨h,Nat.le_refl _⟩
 ·split
  ·exact ⟨qCy h,by omega⟩
  ·exact ⟨⟨(qCy h).r,(qCy h).n,(qCy h).s⟩,by show (qX w p).2.1.length≤_;omega⟩
theorem qNw {p:PS} {r:List UInt8} (h:Gd p) (hr:r.length≤p.1.length):Gd (r,p.2):=⟨by have:=h.r;simp only;omega,h.n,h.s⟩
theorem qFd:∀(f:Nat) (j:PJ) (p:PS),Gd p→Kj j p→Gd (pP f j p).2∧(pP f j p).2.1.length≤p.1.length
 |0,j,p,h,_=>⟨h,Nat.le_refl _⟩
 |f+1,.bin least deep,p,h,_=>by
  unfold pP
  have a:=qFd f (.un deep) p h trivial
  have b:=qFd f (.loop least deep (pP f (.un deep) p).1) (pP f (.un deep) p).2 a.1 trivial
  exact ⟨b.1,Nat.le_trans b.2 a.2⟩
 |f+1,.loop least deep a,p,h,_=>by
  have h1:=qAD p.1
  unfold pP
  split
  ·exact ⟨h,Nat.le_refl _⟩
  ·split
   ·exact ⟨qNw h h1,h1⟩
   ·have l1:((tb p.1).drop (sgn (tb p.1)).length).length≤p.1.length:=by simp;omega
    have b:=qFd f (.bin (lvl (qA3 (tb p.1))+1) deep) ((tb p.1).drop (sgn (tb p.1)).length,p.2) (qNw h l1) trivial
    simp only
    have c:=qHi (x:=ndK 5 (qA3 (tb p.1)) [a,(pP f (.bin (lvl (qA3 (tb p.1))+1) deep) ((tb p.1).drop (sgn (tb p.1)).length,p.2)).1]) b.1 ⟨by simp [kd,ndK],by simp [ndK,em];decide⟩
    have d:=qFd f (.loop least deep (qDb (ndK 5 (qA3 (tb p.1)) [a,(pP f (.bin (lvl (qA3 (tb p.1))+1) deep) ((tb p.1).drop (sgn (tb p.1)).length,p.2)).1]) (pP f (.bin (lvl (qA3 (tb p.1))+1) deep) ((tb p.1).drop (sgn (tb p.1)).length,p.2)).2).1) _ c trivial
    refine ⟨d.1,Nat.le_trans d.2 ?_⟩
    rw [qA8]
    exact Nat.le_trans b.2 l1
 |f+1,.un deep,p,h,_=>by
  have h1:=qAD p.1
  have h2:=qJm [45] p
  unfold pP
  split
  ·exact ⟨⟨h.r,h.n,h.s⟩,Nat.le_refl _⟩
  ·split
   ·simp only
    have b:=qFd f (.un (deep+1)) (qX [45] p).2 (qCy h) trivial
    refine ⟨qHi b.1 ⟨by simp [kd,ndK],by simp [ndK,em];decide⟩,?_⟩
    rw [qA8]
    exact Nat.le_trans b.2 (by omega)
   ·have b:=qFd f (.at deep) (qX [45] p).2 (qCy h) trivial
    exact ⟨b.1,Nat.le_trans b.2 (by omega)⟩
 |f+1,.at deep,p,h,_=>by
  have h1:=qAD p.1
  have h2:=qJm [40] p
  have h3:=qHh (tb p.1)
  have h4:=h.r
  have g2:Gd (wr (tb p.1),p.2):=qNw h (by omega)
  unfold pP
  simp only
  split
  ·split
   ·exact ⟨⟨by simp only;omega,h.n,h.s⟩,h1⟩
   ·rename_i hh _ s t hq
    have a:=qLY _ _ hq
    have b:=qHj _ _ _ (Nat.le_refl _) hq
    simp only [List.length_tail,List.length_nil] at a b
    refine ⟨qHi (qNw h (by omega)) ⟨by simp [kd,nd1],by simp only [nd1,qb];omega⟩,?_⟩
    rw [qA8];simp only;omega
  ·split
   ·refine ⟨qHi (qNw h (by simp;omega)) ⟨by simp [kd,nd1],by simp [nd1,em];decide⟩,?_⟩
    rw [qA8];simp;omega
   ·split
    ·have b:=qFd f (.bin 1 (deep+1)) (qX [40] p).2 (qCy h) trivial
     have c:=qLa (w:= [41]) b.1
     exact ⟨c.1,Nat.le_trans c.2 (Nat.le_trans b.2 (by omega))⟩
    ·split
     ·rename_i hv
      refine ⟨qHi g2 ⟨by simp [kd,nd1],qLQ hv.1 hv.2⟩,?_⟩
      rw [qA8];simp only;omega
     ·split
      ·refine ⟨qHi g2 ⟨by simp [kd,ndC],by simp [ndC,em];decide⟩,?_⟩
       rw [qA8];simp only;omega
      ·split
       ·rename_i op _
        have b:=qFd f (.call op deep) (wr (tb p.1),p.2) g2 trivial
        exact ⟨b.1,Nat.le_trans b.2 (by simp only;omega)⟩
       ·exact ⟨⟨g2.r,g2.n,g2.s⟩,by show (wr (tb p.1)).length≤_;omega⟩
 |f+1,.call op deep,p,h,_=>by
  unfold pP
  have a:=qLa (w:= [40]) h
  have b:=qFd f (.args op deep []) (qCX [40] p) a.1 (by have:=a.1.r;show 0+_≤_;omega)
  exact ⟨b.1,Nat.le_trans b.2 a.2⟩
 |f+1,.args op deep kids,p,h,hk=>by
  replace hk:kids.length+p.1.length≤1500:=hk
  unfold pP
  split
  ·refine ⟨qHi h ⟨by simp [kd,ndK];omega,by simp [ndK,em];decide⟩,?_⟩
   rw [qA8];exact Nat.le_refl _
  ·simp only
   have a:=qUt h
   have qg:Gd (qEy (qBN p) (fun p=>pP f (.bin 1 (deep+1)) p)).2∧(qEy (qBN p) (fun p=>pP f (.bin 1 (deep+1)) p)).2.1.length≤p.1.length:=by
    unfold qEy
    split
    ·rename_i x hx
     refine ⟨qHi a.1 (a.2.2 x hx),?_⟩
     rw [qA8];exact a.2.1
    ·have b:=qFd f (.bin 1 (deep+1)) (qBN p).2 a.1 trivial
     exact ⟨b.1,Nat.le_trans b.2 a.2.1⟩
   generalize qEy (qBN p) (fun p=>pP f (.bin 1 (deep+1)) p)=q at qg⊢
   have t0:=qg.2
   have t1:=qAD q.2.1
   have t2:=qJm [44] q.2
   split
   ·rename_i ht
    have t3:=qD0 (by simp) ht
    have b:=qFd f (.args op deep (kids++ [q.1])) (qX [44] q.2).2 (qCy qg.1) (by show (kids++ [q.1]).length+_≤_;simp;omega)
    exact ⟨b.1,Nat.le_trans b.2 (by omega)⟩
   ·have c:=qLa (w:= [41]) (qCy (w:= [44]) qg.1)
    refine ⟨qHi c.1 ⟨by simp [kd,ndK];omega,by simp [ndK,em];decide⟩,?_⟩
    rw [qA8]
    exact Nat.le_trans c.2 (by omega)
def Ad (f:Nat):PJ→PS→Prop
 | .bin _ _,p=>20*(tb p.1).length+6≤f
 | .loop _ _ _,p=>20*(tb p.1).length+5≤f
 | .un _,p=>20*(tb p.1).length+4≤f
 | .at _,p=>20*(tb p.1).length+3≤f∧p.2.1=false
 | .call _ _,p=>20*(tb p.1).length+9≤f
 | .args _ _ _,p=>20*(tb p.1).length+8≤f
def Jd:PJ→Prop
 | .bin _ d=>0≤d∧d≤401
 | .loop _ d _=>0≤d∧d≤401
 | .un d=>0≤d∧d≤401
 | .at d=>0≤d∧d≤400
 | .call _ d=>0≤d∧d≤400
 | .args _ d _=>0≤d∧d≤400
def Wk:PJ→PS→Int×PS→Prop
 | .bin least deep,p,r=>Ev (qCq · least deep (BR p.1) p.2.2.length p.2.1 (p.2.2.map qa)) (qHn r)
 | .loop least deep a,p,r=>∃n0,∀n,n0≤n→∀M,n0≤M→zC (qDK (qR n) n) M (least,deep,a,qGJ p)=some (qHn r)
 | .un deep,p,r=>Ev (qGi · deep (BR p.1) p.2.2.length p.2.1 (p.2.2.map qa)) (qHn r)
 | .at deep,p,r=>Ev (qHR · deep (BR p.1) p.2.2.length p.2.1 (p.2.2.map qa)) (qHn r)
 | .call op deep,p,r=>Ev (qCV · op deep (BR p.1) p.2.2.length p.2.1 (p.2.2.map qa)) (qHn r)
 | .args op deep kids,p,r=>∃(ks:List Int) (p':PS),r=qDb (ndK 6 op ks) p'∧Gd p'∧ks.length≤1501∧∃n0,∀n,n0≤n→∀M,n0≤M→
   zC (qCa (qR n) n) M (op,deep,kids.length,kids.map qq,qGJ p)=some (op,ks.length,ks.map qq,qGJ p')
theorem qNx (w:List UInt8) {p:PS} (h:p.2.1=false):(BR (qX w p).2.1,(qX w p).2.2.2.length,!(qX w p).1,(qX w p).2.2.2.map qa)=qGJ (qCX w p):=by
 have e:(qX w p).2.2=p.2:=by unfold qX;split<;>rfl
 unfold qCX
 rw [if_neg (by rw [h];simp)]
 cases hc:(qX w p).1 with
 |true=>rw [if_pos rfl];simp only [qGJ,e,h];rfl
 |false=>rw [if_neg (by simp)];rfl
theorem qTQ {r w:List UInt8} (hw:w≠ []) (h:w<+:r):(tb (r.drop w.length)).length<r.length:=by
 have h1:=qAD (r.drop w.length)
 have h2:=h.length_le
 have h3:0<w.length:=List.length_pos_iff.2 hw
 simp only [List.length_drop] at h1
 omega
theorem qXF {r:List UInt8} (h:qA3 r≠0):1≤qA3 r∧qA3 r≤11∧sgn r=(qAV (qA3 r)).toList∧sgn r≠ []:=by
 rcases qUp r with e|⟨a,b,c⟩
 ·exact absurd e h
 ·refine ⟨a,b,c,fun e=>h ?_⟩
  unfold qA3;rw [e];decide
def qVe (f:Nat) (deep:Int) (w:List UInt8) (p2:PS):Int×PS:=
 if (qi (BR w)).2.2.2=true∧((qi (BR w)).1=1∨(qi (BR w)).1=3) then qDb (nd1 ((qi (BR w)).1,(qi (BR w)).2.1,(qi (BR w)).2.2.1)) p2
 else if (qA9 (BR w)).2.2.2.2=true then qDb (ndC (qA9 (BR w))) p2
 else match qGs w 1 10 with
 |some op=>pP f (.call op deep) p2
 |none=>(-1,qUO p2)
def qUS (g:G_impl_reader_binary) (n:Nat) (deep:Int) (w:ByteArray) (c:ByteArray×Nat×Bool×List (List PV)):Tr (Int×ByteArray×Nat×Bool×List (List PV)):=
 (.opt (qAp n w) fun r=>(.ask r.2.2.2.2
  (.opt (qu n 2 0 0 0 ⟨#[]⟩ r.1 r.2.1 r.2.2.1 r.2.2.2.1 0 0 false false [] c.1 c.2.1 c.2.2.1 c.2.2.2) fun s=> .done (s.1,s.2.1,s.2.2.1,s.2.2.2.1,s.2.2.2.2))
  (.opt (zC (qAs g n) n (deep,w,1,c.1,c.2.1,c.2.2.1,c.2.2.2)) fun s=>(.alt s (fun t=> .done (t.1,t.2.1,t.2.2.1,t.2.2.2.1,t.2.2.2.2)) (fun t=> .done (-1,t.1,t.2.1,true,t.2.2.2))))))
def qWd (g:G_impl_reader_binary) (n:Nat) (deep:Int) (w:ByteArray) (c:ByteArray×Nat×Bool×List (List PV)):Tr (Int×ByteArray×Nat×Bool×List (List PV)):=
 (.opt (qe n w) fun r=>(.ask r.2.2.2
  (.ask (r.1==1) (.opt (qj n r.1 r.2.1 r.2.2.1 c.1 c.2.1 c.2.2.1 c.2.2.2) fun s=> .done (s.1,s.2.1,s.2.2.1,s.2.2.2.1,s.2.2.2.2))
   (.ask (r.1==3) (.opt (qj n r.1 r.2.1 r.2.2.1 c.1 c.2.1 c.2.2.1 c.2.2.2) fun s=> .done (s.1,s.2.1,s.2.2.1,s.2.2.2.1,s.2.2.2.2))
    (qUS g n deep w c)))
  (qUS g n deep w c)))
theorem qVD (f:Nat) (deep:Int) (r:List UInt8) (p2:PS) (hr:r.length≤1000) (hp:p2.2.2.length≤60) (hc:∀op,qGs (wd (tb r)) 1 10=some op→Ev (qCV · op deep (BR p2.1) p2.2.2.length p2.2.1 (p2.2.2.map qa)) (qHn (pP f (.call op deep) p2))):
  ∃n0,∀n,n0≤n→(qUS (qR n) n deep (BR (wd (tb r))) (qGJ p2)).run=some (qHn (if (qA9 (BR (wd (tb r)))).2.2.2.2=true then qDb (ndC (qA9 (BR (wd (tb r))))) p2 else match qGs (wd (tb r)) 1 10 with
   |some op=>pP f (.call op deep) p2
   |none=>(-1,qUO p2))):=by
 obtain ⟨n1,h1⟩:=qVd r hr
 obtain ⟨n2,h2⟩:=qO7 (ndC (qA9 (BR (wd (tb r))))) p2 hp
 obtain ⟨n3,h3⟩:=qWs
 obtain ⟨n4,h4⟩:∃n4,∀n,n4≤n→∀op,qGs (wd (tb r)) 1 10=some op→qCV n op deep (BR p2.1) p2.2.2.length p2.2.1 (p2.2.2.map qa)=some (qHn (pP f (.call op deep) p2)):=by
  cases hf:qGs (wd (tb r)) 1 10 with
  |none=>exact ⟨0,fun n _ op h=>by cases h⟩
  |some op=>obtain ⟨n4,h4⟩:=hc op hf;exact ⟨n4,fun n hn op' h=>by cases h;exact h4 n hn⟩
 refine ⟨n1+n2+n3+n4+12,fun n hn=>?_⟩
 have lp:=qUs (g:=qR n) deep (wd (tb r)) p2 (fun op=>pP f (.call op deep) p2) (h3 n (by omega)) 10 1 n (by omega) (by omega) (by omega) (h4 n (by omega))
 cases hb:(qA9 (BR (wd (tb r)))).2.2.2.2 with
 |true=>
  rw [if_pos rfl]
  exact qA (h1 n (by omega)) (qD hb (qA (h2 n (by omega)) rfl))
 |false=>
  rw [if_neg (by simp)]
  refine qA (h1 n (by omega)) (qO hb (qA lp ?_))
  cases qGs (wd (tb r)) 1 10<;>rfl
theorem qVf (f:Nat) (deep:Int) (r:List UInt8) (p2:PS) (hr:r.length≤1000) (hp:p2.2.2.length≤60) (hc:∀op,qGs (wd (tb r)) 1 10=some op→Ev (qCV · op deep (BR p2.1) p2.2.2.length p2.2.1 (p2.2.2.map qa)) (qHn (pP f (.call op deep) p2))):
  ∃n0,∀n,n0≤n→(qWd (qR n) n deep (BR (wd (tb r))) (qGJ p2)).run=some (qHn (qVe f deep (wd (tb r)) p2)):=by
 obtain ⟨n1,h1⟩:=qXE r hr
 obtain ⟨n2,h2⟩:=qLP ((qi (BR (wd (tb r)))).1,(qi (BR (wd (tb r)))).2.1,(qi (BR (wd (tb r)))).2.2.1) p2 hp
 obtain ⟨n3,h3⟩:=qVD f deep r p2 hr hp hc
 refine ⟨n1+n2+n3,fun n hn=>?_⟩
 have h2:=h2 n (by omega)
 have h3:=h3 n (by omega)
 unfold qVe
 refine qA (h1 n (by omega)) ?_
 by_cases ho:(qi (BR (wd (tb r)))).2.2.2=true
 ·refine qD ho ?_
  by_cases k1:(qi (BR (wd (tb r)))).1=1
  ·rw [if_pos ⟨ho,.inl k1⟩]
   exact qD (by rw [k1];rfl) (qA h2 rfl)
  ·refine qO (beq_eq_false_iff_ne.2 k1) ?_
   by_cases k3:(qi (BR (wd (tb r)))).1=3
   ·rw [if_pos ⟨ho,.inr k3⟩]
    exact qD (by rw [k3];rfl) (qA h2 rfl)
   ·rw [if_neg (fun h=>h.2.elim k1 k3)]
    exact qO (beq_eq_false_iff_ne.2 k3) h3
 ·rw [if_neg (fun h=>ho h.1)]
  exact qO (by rw [Bool.eq_false_iff];exact ho) h3
theorem qXG (w:List UInt8) (p:PS):qX w (tb p.1,p.2)=qX w p:=by unfold qX;simp only [qCd]
theorem qLb {c:UInt8} {r:List UInt8} (h:r.head?=some c):∃t,r=c::t:=by
 cases r with
 |nil=>cases h
 |cons d t=>simp at h;subst h;exact ⟨t,rfl⟩
theorem qFs:∀(f:Nat) (j:PJ) (p:PS),Ad f j p→Jd j→Gd p→Kj j p→Wk j p (pP f j p)
 |0,j,p,ha,_,_,_=>by cases j<;>simp [Ad] at ha
 |f+1,.bin least deep,p,ha,hj,hg,_=>by
  replace ha:20*(tb p.1).length+6≤f+1:=ha
  obtain ⟨n1,h1⟩:=qFs f (.un deep) p (by show 20*_+4≤f;omega) hj hg trivial
  have hl:=qD1 f (.un deep) p
  obtain ⟨n2,h2⟩:=qFs f (.loop least deep (pP f (.un deep) p).1) (pP f (.un deep) p).2 (by show 20*_+5≤f;omega) hj (qFd f (.un deep) p hg trivial).1 trivial
  refine ⟨n1+n2+1,fun n hn=>?_⟩
  obtain ⟨k,rfl,hm⟩:=up1 hn
  exact qA (h1 k (by omega)) (qA (h2 k (by omega) k (by omega)) rfl)
 |f+1,.loop least deep a,(r,b,l),ha,hj,hg,_=>by
  replace ha:20*(tb r).length+5≤f+1:=ha
  have hn60:l.length≤60:=hg.n
  have hr1:r.length≤1000:=hg.r
  have ht:=qAD r
  unfold pP
  cases b with
  |true=>
   rw [if_pos rfl]
   refine ⟨1,fun n hn M hM=>?_⟩
   obtain ⟨M,rfl,hM⟩:=up1 hM
   exact qP (qO rfl rfl)
  |false=>
   rw [if_neg (by simp)]
   simp only
   obtain ⟨n1,h1⟩:=qWO least deep a r l.length false (l.map qa)
   by_cases h0:qA3 (tb r)=0
   ·rw [if_pos (.inl h0)]
    refine ⟨n1+1,fun n hn M hM=>?_⟩
    obtain ⟨M,rfl,hM⟩:=up1 hM
    exact qP (qD rfl (qA (h1 n (by omega) n (by omega)) (qD (by simp only;rw [h0];rfl) rfl)))
   ·obtain ⟨o1,o2,o3,o4⟩:=qXF h0
    obtain ⟨n2,h2⟩:=qML (qA3 (tb r)) ⟨o1,o2⟩
    by_cases hl:lvl (qA3 (tb r))<least
    ·rw [if_pos (.inr hl)]
     refine ⟨n1+n2+1,fun n hn M hM=>?_⟩
     obtain ⟨M,rfl,hM⟩:=up1 hM
     exact qP (qD rfl (qA (h1 n (by omega) n (by omega)) (qO (beq_eq_false_iff_ne.2 h0) (qA (h2 n (by omega)) (qD (decide_eq_true hl) rfl)))))
    ·rw [if_neg (fun h=>h.elim h0 hl)]
     have lv:=qUP (op:=qA3 (tb r))
     have hlt:=qTQ o4 (qUq (tb r))
     have hp1:Gd ((tb r).drop (sgn (tb r)).length,false,l):=⟨by simp;omega,hn60,hg.s⟩
     obtain ⟨n3,h3⟩:=qHg (qA3 (tb r)) ⟨o1,o2⟩
     obtain ⟨n4,h4⟩:=qSf (qAV (qA3 (tb r))).toList (tb r) l.length false (l.map qa)
     obtain ⟨n5,h5⟩:=qFs f (.bin (lvl (qA3 (tb r))+1) deep) ((tb r).drop (sgn (tb r)).length,false,l) (by show 20*_+6≤f;simp only;omega) hj hp1 trivial
     have g5:=qFd f (.bin (lvl (qA3 (tb r))+1) deep) ((tb r).drop (sgn (tb r)).length,false,l) hp1 trivial
     have l5:=qD1 f (.bin (lvl (qA3 (tb r))+1) deep) ((tb r).drop (sgn (tb r)).length,false,l)
     simp only at l5
     generalize pP f (.bin (lvl (qA3 (tb r))+1) deep) ((tb r).drop (sgn (tb r)).length,false,l)=q at h5 g5 l5⊢
     obtain ⟨n6,h6⟩:=qO7 (ndK 5 (qA3 (tb r)) [a,q.1]) q.2 g5.1.n
     have g6:=qHi (x:=ndK 5 (qA3 (tb r)) [a,q.1]) g5.1 ⟨by simp [kd,ndK],by simp [ndK,em];decide⟩
     have e6:=qA8 (ndK 5 (qA3 (tb r)) [a,q.1]) q.2
     generalize qDb (ndK 5 (qA3 (tb r)) [a,q.1]) q.2=c at h6 g6 e6⊢
     obtain ⟨n7,h7⟩:=qFs f (.loop least deep c.1) c.2 (by show 20*(tb c.2.1).length+5≤f;rw [e6];omega) hj g6 trivial
     refine ⟨n1+n2+n3+n4+n5+n6+n7+1,fun n hn M hM=>?_⟩
     obtain ⟨M,rfl,hM⟩:=up1 hM
     have w1:IntKind.i64.wrap (lvl (qA3 (tb r))+1)=lvl (qA3 (tb r))+1:=qT (by omega)
     have h3:=h3 n (by omega)
     have h4:=h4 n (by omega)
     have h5:=h5 n (by omega)
     rw [qKJ,qCd,←o3,if_pos rfl] at h4
     rw [←w1] at h5
     rw [qU (v':=(least,deep,c.1,qGJ c.2)) (by
      exact qD rfl (qA (h1 n (by omega) n (by omega)) (qO (beq_eq_false_iff_ne.2 h0) (qA (h2 n (by omega)) (qO (decide_eq_false hl) (qA h3 (qA h4 (qA (h2 n (by omega)) (qA h5 (qD rfl (qA (h6 n (by omega)) rfl)))))))))))]
     exact h7 n (by omega) M (by omega)
 |f+1,.un deep,p,ha,hj,hg,_=>by
  replace ha:20*(tb p.1).length+4≤f+1:=ha
  replace hj:0≤deep∧deep≤401:=hj
  unfold pP
  by_cases hd:deep>400
  ·rw [if_pos (.inl hd)]
   refine ⟨1,fun n hn=>?_⟩
   obtain ⟨k,rfl,hm⟩:=up1 hn
   exact qD (decide_eq_true hd) (qD rfl rfl)
  ·cases hb:p.2.1 with
   |true=>
    rw [if_pos (.inr rfl)]
    refine ⟨1,fun n hn=>?_⟩
    obtain ⟨k,rfl,hm⟩:=up1 hn
    refine qO (decide_eq_false hd) (qD hb ?_)
    rw [qC,hb];rfl
   |false=>
    rw [if_neg (fun h=>h.elim hd (by simp))]
    obtain ⟨n1,h1⟩:=qGt [45] p
    have t1:=qEF [45] p
    cases hc:(qX [45] p).1 with
    |true=>
     rw [if_pos rfl]
     simp only
     have t2:=qD0 (by simp) hc
     have t3:=qAD (qX [45] p).2.1
     obtain ⟨n2,h2⟩:=qFs f (.un (deep+1)) (qX [45] p).2 (by show 20*_+4≤f;omega) (by show 0≤deep+1∧deep+1≤401;omega) (qCy hg) trivial
     have g2:=qFd f (.un (deep+1)) (qX [45] p).2 (qCy hg) trivial
     generalize pP f (.un (deep+1)) (qX [45] p).2=q at h2 g2⊢
     obtain ⟨n3,h3⟩:=qO7 (ndK 4 0 [q.1]) q.2 g2.1.n
     refine ⟨n1+n2+n3+1,fun n hn=>?_⟩
     obtain ⟨k,rfl,hm⟩:=up1 hn
     have w1:IntKind.i64.wrap (deep+1)=deep+1:=qT (by omega)
     have h2:=h2 k (by omega)
     rw [←w1] at h2
     exact qO (decide_eq_false hd) (qO hb (qA (h1 k (by omega)) (qD hc (qA h2 (qD rfl (qA (h3 k (by omega)) rfl))))))
    |false=>
     rw [if_neg (by simp)]
     have e:(qX [45] p).2.2=p.2:=by unfold qX;split<;>rfl
     obtain ⟨n2,h2⟩:=qFs f (.at deep) (qX [45] p).2 ⟨by omega,by rw [e];exact hb⟩ (by show 0≤deep∧deep≤400;omega) (qCy hg) trivial
     refine ⟨n1+n2+1,fun n hn=>?_⟩
     obtain ⟨k,rfl,hm⟩:=up1 hn
     exact qO (decide_eq_false hd) (qO hb (qA (h1 k (by omega)) (qO hc (qA (h2 k (by omega)) rfl))))
 |f+1,.at deep,(r0,b,l),ha,hj,hg,_=>by
  obtain ⟨ha,hb⟩:=ha
  replace ha:20*(tb r0).length+3≤f+1:=ha
  replace hb:b=false:=hb
  subst hb
  replace hj:0≤deep∧deep≤400:=hj
  have hn60:l.length≤60:=hg.n
  have hr1:r0.length≤1000:=hg.r
  have ht:=qAD r0
  have ett:=qCd r0
  have eit:=qXG [40] (r0,false,l)
  obtain ⟨n1,h1⟩:=qIA r0 l.length false (l.map qa)
  have wdec:∀op,qGs (wd (tb r0)) 1 10=some op→(wr (tb r0)).length<(tb r0).length:=fun op h=>by
   have e:=congrArg List.length (wdr (tb r0))
   simp only [List.length_append] at e
   have:wd (tb r0)≠ []:=fun e=>by
    rw [e,show qGs [] 1 10=none by decide+kernel] at h
    cases h
   have:=List.length_pos_iff.2 this
   omega
  unfold pP
  simp only at eit⊢
  rw [←eit]
  generalize tb r0=r at*
  have hw:=qHh r
  have wordEv:∃n0,∀n,n0≤n→(qWd (qR n) n deep (BR (wd r)) (qGJ (wr r,false,l))).run=some (qHn (qVe f deep (wd r) (wr r,false,l))):=by
   have:=qVf f deep r (wr r,false,l) (by omega) hn60 (by
    rw [ett]
    intro op h
    exact qFs f (.call op deep) (wr r,false,l) (by have:=wdec op h;have:=qAD (wr r);show 20*(tb (wr r)).length+9≤f;omega) hj ⟨by simp only;omega,hn60,hg.s⟩ trivial)
   rwa [ett] at this
  obtain ⟨n9,h9⟩:=wordEv
  obtain ⟨n8,h8⟩:=qTO (r,false,l) (by simp only;omega)
  simp only [ett] at h8
  by_cases hq:r.head?=some 34
  ·rw [if_pos hq]
   obtain ⟨t,rfl⟩:=qLb hq
   simp only [List.length_cons] at ht
   obtain ⟨n2,h2⟩:=qVC t false l (by omega) hn60
   refine ⟨n1+n2+3,fun n hn=>?_⟩
   obtain ⟨k,rfl,hm⟩:=up3 hn
   refine qA (h1 (k+2) (by omega)) (qA (qBj k (34::t) [34]) (qD rfl (qA (h2 (k+2) (by omega)) ?_)))
   rw [qC]
   simp only [List.tail_cons]
   all_goals (cases qCJ [] t<;>rfl)
  ·rw [if_neg hq]
   have p34:List.isPrefixOf [34] r=false:=by rw [Bool.eq_false_iff];exact fun e=>hq ((qFV 34 r).1 e)
   by_cases hh:r.head?=some 35
   ·have p35:List.isPrefixOf [35] r=true:=(qFV 35 r).2 hh
    simp only [if_pos hh]
    obtain ⟨n2,h2⟩:=qWr deep r false l hn60
    cases he:qKI r 1 5 with
    |some e=>
     simp only
     refine ⟨n1+n2+3,fun n hn=>?_⟩
     obtain ⟨k,rfl,hm⟩:=up3 hn
     have h2:=h2 (k+2) (by omega) (k+2) (by omega)
     rw [he] at h2
     exact qA (h1 (k+2) (by omega)) (qA (qBj k r [34]) (qO p34 (qA (qBj k r [35]) (qD p35 (qA h2 rfl)))))
    |none=>
     simp only
     rw [if_neg (fun h=>h.1 hh)]
     refine ⟨n1+n2+n8+n9+3,fun n hn=>?_⟩
     obtain ⟨k,rfl,hm⟩:=up3 hn
     have h2:=h2 (k+2) (by omega) (k+2) (by omega)
     rw [he] at h2
     exact qA (h1 (k+2) (by omega)) (qA (qBj k r [34]) (qO p34 (qA (qBj k r [35]) (qD p35 (qA h2 (qA (h8 (k+2) (by omega)) (h9 (k+2) (by omega))))))))
   ·have p35:List.isPrefixOf [35] r=false:=by rw [Bool.eq_false_iff];exact fun e=>hh ((qFV 35 r).1 e)
    simp only [if_neg hh]
    obtain ⟨n2,h2⟩:=qGt [40] (r,false,l)
    cases hc:(qX [40] (r,false,l)).1 with
    |true=>
     rw [if_pos ⟨hh,rfl⟩]
     have t2:=qD0 (by simp) hc
     have t3:=qAD (qX [40] (r,false,l)).2.1
     simp only [ett] at t2
     have g1:Gd (r,false,l):=⟨by simp only;omega,hn60,hg.s⟩
     obtain ⟨n3,h3⟩:=qFs f (.bin 1 (deep+1)) (qX [40] (r,false,l)).2 (by show 20*_+6≤f;omega) (by show 0≤deep+1∧deep+1≤401;omega) (qCy g1) trivial
     generalize pP f (.bin 1 (deep+1)) (qX [40] (r,false,l)).2=q at h3⊢
     obtain ⟨n4,h4⟩:=qGt [41] q.2
     refine ⟨n1+n2+n3+n4+3,fun n hn=>?_⟩
     obtain ⟨k,rfl,hm⟩:=up3 hn
     have w1:IntKind.i64.wrap (deep+1)=deep+1:=qT (by omega)
     have h3:=h3 (k+2) (by omega)
     rw [←w1] at h3
     cases hbb:q.2.2.1 with
     |true=>
      refine qA (h1 (k+2) (by omega)) (qA (qBj k r [34]) (qO p34 (qA (qBj k r [35]) (qO p35 (qA (h2 (k+2) (by omega)) (qD hc (qA h3 (qD hbb ?_))))))))
      rw [qC]
      unfold qCX
      rw [if_pos hbb]
      simp only [qHn,hbb]
     |false=>
      refine qA (h1 (k+2) (by omega)) (qA (qBj k r [34]) (qO p34 (qA (qBj k r [35]) (qO p35 (qA (h2 (k+2) (by omega)) (qD hc (qA h3 (qO hbb (qA (h4 (k+2) (by omega)) ?_)))))))))
      rw [qC]
      exact congrArg (fun x=>some (q.1,x)) (qNx [41] hbb)
    |false=>
     rw [if_neg (fun h=>by simp at h)]
     have e:(qX [40] (r,false,l)).2=(r,false,l):=by
      unfold qX at hc⊢
      split at hc
      ·cases hc
      ·rename_i hne
       rw [if_neg hne];simp only [ett]
     rw [hc,e] at h2
     refine ⟨n1+n2+n8+n9+3,fun n hn=>?_⟩
     obtain ⟨k,rfl,hm⟩:=up3 hn
     exact qA (h1 (k+2) (by omega)) (qA (qBj k r [34]) (qO p34 (qA (qBj k r [35]) (qO p35 (qA (h2 (k+2) (by omega)) (qO rfl (qA (h8 (k+2) (by omega)) (h9 (k+2) (by omega)))))))))
 |f+1,.call op deep,p,ha,hj,hg,_=>by
  replace ha:20*(tb p.1).length+9≤f+1:=ha
  unfold pP
  have gm:=qLa (w:= [40]) hg
  have rm:=qLX [40] p
  obtain ⟨ks,p',e1,e2,e3,n2,h2⟩:=qFs f (.args op deep []) (qCX [40] p) (by show 20*_+8≤f;omega) hj gm.1 (by have:=gm.1.r;show 0+_≤_;omega)
  obtain ⟨n1,h1⟩:=qGt [40] p
  obtain ⟨n3,h3⟩:=qO7 (ndK 6 op ks) p' e2.n
  rw [e1]
  refine ⟨n1+n2+n3+1,fun n hn=>?_⟩
  obtain ⟨k,rfl,hm⟩:=up1 hn
  have h2:=h2 k (by omega) k (by omega)
  by_cases hb:p.2.1=true
  ·have em:qGJ (qCX [40] p)=(BR p.1,p.2.2.length,true,p.2.2.map qa):=by
    unfold qCX;rw [if_pos hb];simp only [qGJ,hb]
   rw [em] at h2
   exact qD hb (qA h2 (qD (decide_eq_true (by simp)) (qA (h3 k (by omega)) rfl)))
  ·have hb:p.2.1=false:=by rw [Bool.eq_false_iff];exact hb
   have em:=qNx [40] hb
   rw [←em] at h2
   exact qO hb (qA (h1 k (by omega)) (qA h2 (qD (decide_eq_true (by simp)) (qA (h3 k (by omega)) rfl))))
 |f+1,.args op deep kids,p,ha,hj,hg,hk=>by
  replace ha:20*(tb p.1).length+8≤f+1:=ha
  replace hk:kids.length+p.1.length≤1500:=hk
  replace hj:0≤deep∧deep≤400:=hj
  unfold pP
  cases hb:p.2.1 with
  |true=>
   rw [if_pos rfl]
   refine ⟨kids,p,rfl,hg,by omega,1,fun n hn M hM=>?_⟩
   obtain ⟨M,rfl,hM⟩:=up1 hM
   exact qP (qO (by show (!p.2.1)=false;rw [hb];rfl) rfl)
  |false=>
   rw [if_neg (by simp)]
   simp only
   obtain ⟨x,hx,n1,h1⟩:=qWP p hg.r
   have ga:=qUt hg
   have ra:=qI8 p
   have tl0:=qAD p.1
   have nb:∀k:Nat,(!(qGJ p).2.2.1)=true:=fun _=>by show (!p.2.1)=true;rw [hb];rfl
   cases hi:(qBN p).1 with
   |some y=>
    have hxy:=hx y hi
    subst hxy
    obtain ⟨n3,h3⟩:=qO7 x (qBN p).2 ga.1.n
    have eo:qEy (qBN p) (fun p=>pP f (.bin 1 (deep+1)) p)=qDb x (qBN p).2:=by unfold qEy;rw [hi]
    rw [eo]
    have gq:Gd (qDb x (qBN p).2).2∧(qDb x (qBN p).2).2.1.length≤p.1.length∧(tb (qDb x (qBN p).2).2.1).length≤(tb p.1).length:=⟨qHi ga.1 (ga.2.2 x hi),by rw [qA8];exact ga.2.1,by rw [qA8];exact ra⟩
    have n2:=0
    generalize qDb x (qBN p).2=Q at h3 gq⊢
    obtain ⟨n4,h4⟩:=qGt [44] Q.2
    cases hc:(qX [44] Q.2).1 with
    |true=>
     obtain ⟨ks,p',e1,e2,e3,n6,h6⟩:=qFs f (.args op deep (kids++ [Q.1])) (qX [44] Q.2).2 (by have:=qD0 (by simp) hc;show 20*(tb (qX [44] Q.2).2.1).length+8≤f;have:=qAD (qX [44] Q.2).2.1;omega) ⟨hj.1,hj.2⟩ (qCy gq.1) (by have:=qD0 (by simp) hc;have:=qAD Q.2.1;show (kids++ [Q.1]).length+_≤_;simp;omega)
     refine ⟨ks,p',by rw [if_pos rfl];exact e1,e2,e3,n1+n2+n3+n4+n6+1,fun k hn M hM=>?_⟩
     obtain ⟨M,rfl,hM⟩:=up1 hM
     rw [qU (v':=(op,deep,(kids++ [Q.1]).length,(kids++ [Q.1]).map qq,qGJ (qX [44] Q.2).2)) (by
      have h1:=h1 k (by omega)
      rw [hi] at h1
      refine qD (nb 0) (qA h1 (qD rfl (qA (h3 k (by omega)) (qD rfl (qD (decide_eq_true ⟨by simp,by decide,by decide,by simp;omega,rfl⟩) (qA (h4 k (by omega)) ?_))))))
      refine qO (by simp only;rw [hc];rfl) ?_
      rw [qC]
      simp only [List.length_append,List.map_append]
      rfl)]
     exact h6 k (by omega) M (by omega)
    |false=>
     obtain ⟨n5,h5⟩:=qGt [41] (qX [44] Q.2).2
     refine ⟨kids++ [Q.1],qCX [41] (qX [44] Q.2).2,by rw [if_neg (by simp)],(qLa (qCy gq.1)).1,by simp;omega,n1+n2+n3+n4+n5+1,fun k hn M hM=>?_⟩
     obtain ⟨M,rfl,hM⟩:=up1 hM
     cases hbb:(qX [44] Q.2).2.2.1 with
     |true=>
      rw [qP (r:=(op,(kids++ [Q.1]).length,(kids++ [Q.1]).map qq,qGJ (qCX [41] (qX [44] Q.2).2))) (by
       have h1:=h1 k (by omega)
       rw [hi] at h1
       refine qD (nb 0) (qA h1 (qD rfl (qA (h3 k (by omega)) (qD rfl (qD (decide_eq_true ⟨by simp,by decide,by decide,by simp;omega,rfl⟩) (qA (h4 k (by omega)) ?_))))))
       refine qD (by simp only;rw [hc];rfl) (qD hbb ?_)
       rw [qC]
       unfold qCX
       rw [if_pos hbb]
       simp only [List.length_append,List.map_append,qGJ,hbb]
       rfl)]
     |false=>
      rw [qP (r:=(op,(kids++ [Q.1]).length,(kids++ [Q.1]).map qq,qGJ (qCX [41] (qX [44] Q.2).2))) (by
       have h1:=h1 k (by omega)
       rw [hi] at h1
       refine qD (nb 0) (qA h1 (qD rfl (qA (h3 k (by omega)) (qD rfl (qD (decide_eq_true ⟨by simp,by decide,by decide,by simp;omega,rfl⟩) (qA (h4 k (by omega)) ?_))))))
       refine qD (by simp only;rw [hc];rfl) (qO hbb (qA (h5 k (by omega)) ?_))
       rw [qC]
       simp only [List.length_append,List.map_append]
       exact congrArg (fun x=>some (Sum.inr (op,kids.length+1,kids.map qq++ [[PV.i IntKind.i64 Q.1]],x))) (qNx [41] hbb))]
   |none=>
    have eo:qEy (qBN p) (fun p=>pP f (.bin 1 (deep+1)) p)=pP f (.bin 1 (deep+1)) (qBN p).2:=by unfold qEy;rw [hi]
    rw [eo]
    obtain ⟨n3,h3⟩:=qFs f (.bin 1 (deep+1)) (qBN p).2 (by show 20*_+6≤f;omega) (by show 0≤deep+1∧deep+1≤401;omega) ga.1 trivial
    have g3:=qFd f (.bin 1 (deep+1)) (qBN p).2 ga.1 trivial
    have l3:=qD1 f (.bin 1 (deep+1)) (qBN p).2
    have w1:IntKind.i64.wrap (deep+1)=deep+1:=qT (by omega)
    have gq:Gd (pP f (.bin 1 (deep+1)) (qBN p).2).2∧(pP f (.bin 1 (deep+1)) (qBN p).2).2.1.length≤p.1.length∧(tb (pP f (.bin 1 (deep+1)) (qBN p).2).2.1).length≤(tb p.1).length:=⟨g3.1,Nat.le_trans g3.2 ga.2.1,Nat.le_trans l3 ra⟩
    rw [←w1] at h3
    have n2:=0
    rw [w1] at h3
    generalize pP f (.bin 1 (deep+1)) (qBN p).2=Q at h3 gq⊢
    obtain ⟨n4,h4⟩:=qGt [44] Q.2
    cases hc:(qX [44] Q.2).1 with
    |true=>
     obtain ⟨ks,p',e1,e2,e3,n6,h6⟩:=qFs f (.args op deep (kids++ [Q.1])) (qX [44] Q.2).2 (by have:=qD0 (by simp) hc;show 20*(tb (qX [44] Q.2).2.1).length+8≤f;have:=qAD (qX [44] Q.2).2.1;omega) ⟨hj.1,hj.2⟩ (qCy gq.1) (by have:=qD0 (by simp) hc;have:=qAD Q.2.1;show (kids++ [Q.1]).length+_≤_;simp;omega)
     refine ⟨ks,p',by rw [if_pos rfl];exact e1,e2,e3,n1+n2+n3+n4+n6+1,fun k hn M hM=>?_⟩
     obtain ⟨M,rfl,hM⟩:=up1 hM
     rw [qU (v':=(op,deep,(kids++ [Q.1]).length,(kids++ [Q.1]).map qq,qGJ (qX [44] Q.2).2)) (by
      have h1:=h1 k (by omega)
      rw [hi] at h1
      have h3:=h3 k (by omega)
      rw [←w1] at h3
      refine qD (nb 0) (qA h1 (qO rfl (qA h3 (qD rfl (qD (decide_eq_true ⟨by simp,by decide,by decide,by simp;omega,rfl⟩) (qA (h4 k (by omega)) ?_))))))
      refine qO (by simp only;rw [hc];rfl) ?_
      rw [qC]
      simp only [List.length_append,List.map_append]
      rfl)]
     exact h6 k (by omega) M (by omega)
    |false=>
     obtain ⟨n5,h5⟩:=qGt [41] (qX [44] Q.2).2
     refine ⟨kids++ [Q.1],qCX [41] (qX [44] Q.2).2,by rw [if_neg (by simp)],(qLa (qCy gq.1)).1,by simp;omega,n1+n2+n3+n4+n5+1,fun k hn M hM=>?_⟩
     obtain ⟨M,rfl,hM⟩:=up1 hM
     cases hbb:(qX [44] Q.2).2.2.1 with
     |true=>
      rw [qP (r:=(op,(kids++ [Q.1]).length,(kids++ [Q.1]).map qq,qGJ (qCX [41] (qX [44] Q.2).2))) (by
       have h1:=h1 k (by omega)
       rw [hi] at h1
       have h3:=h3 k (by omega)
       rw [←w1] at h3
       refine qD (nb 0) (qA h1 (qO rfl (qA h3 (qD rfl (qD (decide_eq_true ⟨by simp,by decide,by decide,by simp;omega,rfl⟩) (qA (h4 k (by omega)) ?_))))))
       refine qD (by simp only;rw [hc];rfl) (qD hbb ?_)
       rw [qC]
       unfold qCX
       rw [if_pos hbb]
       simp only [List.length_append,List.map_append,qGJ,hbb]
       rfl)]
     |false=>
      rw [qP (r:=(op,(kids++ [Q.1]).length,(kids++ [Q.1]).map qq,qGJ (qCX [41] (qX [44] Q.2).2))) (by
       have h1:=h1 k (by omega)
       rw [hi] at h1
       have h3:=h3 k (by omega)
       rw [←w1] at h3
       refine qD (nb 0) (qA h1 (qO rfl (qA h3 (qD rfl (qD (decide_eq_true ⟨by simp,by decide,by decide,by simp;omega,rfl⟩) (qA (h4 k (by omega)) ?_))))))
       refine qD (by simp only;rw [hc];rfl) (qO hbb (qA (h5 k (by omega)) ?_))
       rw [qC]
       simp only [List.length_append,List.map_append]
       exact congrArg (fun x=>some (Sum.inr (op,kids.length+1,kids.map qq++ [[PV.i IntKind.i64 Q.1]],x))) (qNx [41] hbb))]
def pos (s r:List UInt8):Int:=((s.length-r.length:Nat):Int)
def qC5 (s:List UInt8) (q:PS):ByteArray×Int×Bool×Nat×List (List PV):=(BR s,pos s q.1,q.2.1,q.2.2.length,q.2.2.map qa)
def qCe (s:List UInt8) (r:Int×PS):Int×ByteArray×Int×Bool×Nat×List (List PV):=(r.1,qC5 s r.2)
theorem qT4 {s r:List UInt8} (h:r<:+s):s.drop (s.length-r.length)=r:=by
 obtain ⟨t,rfl⟩:=h
 simp
theorem qUu (s r:List UInt8):(pos s r).toNat=s.length-r.length:=by unfold pos;simp
theorem qMN (s r:List UInt8):0≤pos s r:=by unfold pos;omega
theorem qDX {s r:List UInt8} (h:r<:+s):r.length≤s.length:=h.length_le
theorem qLc {s r t:List UInt8} {k:Nat} (h:r<:+s) (e:t=r.drop k) (hk:k≤r.length):pos s r+(k:Int)=pos s t:=by
 subst e
 have:=qDX h
 unfold pos
 simp only [List.length_drop]
 omega
theorem qNy {s r:List UInt8} (h:r<:+s):(BR s).toList[(pos s r).toNat]?=r.head?:=by
 rw [qAR,qUu,←List.head?_drop,qT4 h]
theorem qUT {s r:List UInt8} (h:r<:+s):tb r<:+s:=(List.dropWhile_suffix _).trans h
theorem qRR {s t:List UInt8} {c:UInt8} (h:(c::t)<:+s):t<:+s:=(List.suffix_cons c t).trans h
theorem qQO {s r:List UInt8} {k:Nat} (h:r<:+s):(BR s).extract (pos s r).toNat (pos s r+(k:Int)).toNat=BR (r.take k):=by
 rw [qGb,qUu,show (pos s r+(k:Int)).toNat=(s.length-r.length)+k by unfold pos;omega,←List.take_drop,qT4 h]
theorem qA2 {b:Bool} (h:b=true):(!b)=false:=by rw [h];rfl
theorem qCz {b:Bool} (h:b=false):(!b)=true:=by rw [h];rfl
theorem qSh {s:List UInt8} (hs:s.length≤1000) (n:Nat) (b:Bool) (m:Nat) (rows:List (List PV)):∀(r:List UInt8) (M:Nat),r<:+s→r.length+1≤M→zC (qDn n) M (BR s,pos s r,b,m,rows)=some (BR s,pos s (tb r),b,m,rows)
 |r,0,_,h=>by omega
 | [],M+1,h,_=>by
  exact qP (qO (decide_eq_false (show ¬pos s []<((BR s).size:Int) by rw [qb];unfold pos;simp)) rfl)
 |c::t,M+1,h,hM=>by
  have hl:=qDX h
  simp only [List.length_cons] at hl hM
  have g:=qNy h
  have p1:pos s (c::t)<((BR s).size:Int):=by rw [qb];unfold pos;simp only [List.length_cons];omega
  by_cases hc:c=32
  ·subst hc
   have w1:IntKind.i64.wrap (pos s (32::t)+1)=pos s t:=by
    have:=qLc (k:=1) h (t:=t) rfl (by simp)
    rw [qT (by unfold pos;omega)];exact this
   rw [qU (v':=(BR s,pos s t,b,m,rows)) (by
    refine qD (decide_eq_true p1) (qD (decide_eq_true (qMN _ _)) (qA g (qD rfl ?_)))
    rw [qC,w1])]
   have e:tb (32::t)=tb t:=by simp [tb]
   rw [e]
   exact qSh hs n b m rows t M (qRR h) (by omega)
  ·have e:tb (c::t)=c::t:=by simp [tb,hc]
   rw [e]
   refine qP (qD (decide_eq_true p1) (qD (decide_eq_true (qMN _ _)) (qA g (qO ?_ rfl))))
   rw [beq_eq_false_iff_ne]
   intro e
   exact hc (UInt8.toNat_inj.1 (show c.toNat=32 by omega))
theorem qTR {s:List UInt8} (hs:s.length≤1000) (q:PS) (h:q.1<:+s):Ev (qBp · (BR s) (pos s q.1) q.2.1 q.2.2.length (q.2.2.map qa)) (qC5 s (tb q.1,q.2)):=by
 have hl:=qDX h
 refine ⟨q.1.length+2,fun n hn=>?_⟩
 obtain ⟨k,rfl,hm⟩:=up1 hn
 exact qA (qSh hs k q.2.1 q.2.2.length (q.2.2.map qa) q.1 k h (by omega)) rfl
theorem qHk {s:List UInt8} (hs:s.length≤1000) (w:List UInt8) (hw:w.length≤1000) (q:PS) (h:q.1<:+s):Ev (qAK · (BR w) (BR s) (pos s q.1) q.2.1 q.2.2.length (q.2.2.map qa)) ((sIs w q).1,qC5 s (sIs w q).2):=by
 obtain ⟨n1,h1⟩:=qTR hs q h
 have ht:=qUT h
 have hl:=qDX ht
 refine ⟨n1+1,fun n hn=>?_⟩
 obtain ⟨k,rfl,hm⟩:=up1 hn
 have w1:IntKind.i64.wrap (pos s (tb q.1)+((BR w).size:Int))=pos s (tb q.1)+(w.length:Int):=by rw [qb];exact qT (by unfold pos;omega)
 unfold sIs
 cases hb:q.2.1 with
 |true=>
  rw [if_pos rfl]
  have h1:=h1 k (by omega)
  rw [hb] at h1
  refine qA h1 (qD hb ?_)
  rw [qC]
 |false=>
  have h1:=h1 k (by omega)
  rw [hb] at h1
  rw [if_neg (by simp)]
  by_cases hf:pos s (tb q.1)+(w.length:Int)>(s.length:Int)
  ·have hn:¬w.isPrefixOf (tb q.1)=true:=by
    intro e
    have:=(List.isPrefixOf_iff_prefix.1 e).length_le
    unfold pos at hf
    omega
   rw [if_neg hn]
   refine qA h1 (qO hb (qD (decide_eq_true (show IntKind.i64.wrap (pos s (tb q.1)+((BR w).size:Int))>((BR s).size:Int) by rw [w1,qb];exact hf)) ?_))
   rw [qC]
  ·have hx:=qQO (k:=w.length) ht
   have hwl:w.length≤(tb q.1).length:=by unfold pos at hf;omega
   have cmp:((BR s).extract (pos s (tb q.1)).toNat (IntKind.i64.wrap (pos s (tb q.1)+((BR w).size:Int))).toNat).toList==(BR w).toList↔w.isPrefixOf (tb q.1)=true:=by
    rw [w1,hx,qAR,qAR,beq_iff_eq,List.isPrefixOf_iff_prefix,List.prefix_iff_eq_take]
    exact ⟨fun e=>e.symm,fun e=>e.symm⟩
   refine qA h1 (qO hb (qO (decide_eq_false (show ¬IntKind.i64.wrap (pos s (tb q.1)+((BR w).size:Int))>((BR s).size:Int) by rw [w1,qb];exact hf)) (qD (decide_eq_true (show 0≤pos s (tb q.1)∧pos s (tb q.1)≤IntKind.i64.wrap (pos s (tb q.1)+((BR w).size:Int))∧IntKind.i64.wrap (pos s (tb q.1)+((BR w).size:Int))≤((BR s).size:Int) by rw [w1,qb];exact ⟨qMN _ _,by omega,by omega⟩)) ?_)))
   by_cases hp:w.isPrefixOf (tb q.1)=true
   ·rw [if_pos hp]
    refine qO (qA2 (cmp.2 hp)) ?_
    rw [qC]
    show some (true,BR s,IntKind.i64.wrap (pos s (tb q.1)+((BR w).size:Int)),q.2.1,q.2.2.length,q.2.2.map qa)=_
    rw [w1,qLc ht rfl hwl]
    rfl
   ·rw [if_neg hp]
    refine qD (qCz (by rw [Bool.eq_false_iff];exact fun e=>hp (cmp.1 e))) ?_
    rw [qC]
theorem qLR {s:List UInt8} (x:Nd) (q:PS) (h:q.2.2.length≤5000) (hx:qSA x):Ev (qx · x.1 x.2.1 x.2.2.1 x.2.2.2.1 x.2.2.2.2.1 x.2.2.2.2.2.1 x.2.2.2.2.2.2.1 x.2.2.2.2.2.2.2.1 x.2.2.2.2.2.2.2.2.1 x.2.2.2.2.2.2.2.2.2.1 x.2.2.2.2.2.2.2.2.2.2.1 x.2.2.2.2.2.2.2.2.2.2.2.1 x.2.2.2.2.2.2.2.2.2.2.2.2.1 ((kd x).map qq) (BR s) (pos s q.1) q.2.1 q.2.2.length (q.2.2.map qa)) (qCe s (qEV x q)):=by
 obtain ⟨n1,h1⟩:=qI5 x (by have:=hx.2;omega)
 refine ⟨n1+1,fun n hn=>?_⟩
 obtain ⟨k,rfl,hm⟩:=up1 hn
 have w2:IntKind.i64.wrap ((((q.2.2.length+1):Nat):Int)-1)=(q.2.2.length:Int):=by rw [qT (by omega)];omega
 refine qD rfl (qD (decide_eq_true ⟨by simp,by decide,by decide,by simp;omega,rfl⟩) ?_)
 unfold qEV
 by_cases h6:60<q.2.2.length+1
 ·rw [if_pos (.inl h6)]
  refine qD (decide_eq_true (by omega)) ?_
  rw [qC,w2]
  simp only [qCe,qC5,List.map_append,List.length_append]
  rfl
 ·refine qO (decide_eq_false (by omega)) (qA (h1 k (by omega)) ?_)
  cases ho:qFc x with
  |true=>
   rw [if_neg (fun e=>e.elim h6 (by simp))]
   refine qO rfl ?_
   rw [qC,w2]
   simp only [qCe,qC5,List.map_append,List.length_append]
   rfl
  |false=>
   rw [if_pos (.inr rfl)]
   refine qD rfl ?_
   rw [qC,w2]
   simp only [qCe,qC5,List.map_append,List.length_append]
   rfl
theorem qPL {s:List UInt8} (hs:s.length≤1000) (n:Nat) (at0:Int) (b:Bool) (m:Nat) (rows:List (List PV)):∀(r:List UInt8) (M:Nat),r<:+s→r.length+1≤M→zC (qCD n) M (at0,BR s,pos s r,b,m,rows)=some (at0,BR s,pos s (wr r),b,m,rows)
 |r,0,_,h=>by omega
 | [],M+1,h,_=>by
  exact qP (qO (decide_eq_false (show ¬pos s []<((BR s).size:Int) by rw [qb];unfold pos;simp)) rfl)
 |c::t,M+1,h,hM=>by
  have hl:=qDX h
  simp only [List.length_cons] at hl hM
  have g:=qNy h
  have p1:pos s (c::t)<((BR s).size:Int):=by rw [qb];unfold pos;simp only [List.length_cons];omega
  have p0:decide (0≤pos s (c::t))=true:=decide_eq_true (qMN _ _)
  have w1:IntKind.i64.wrap (pos s (c::t)+1)=pos s t:=by
   have:=qLc (k:=1) h (t:=t) rfl (by simp)
   rw [qT (by unfold pos;omega)];exact this
  have yes:(wch c=true)→(qCD n (at0,BR s,pos s (c::t),b,m,rows)).run=some (.inl (at0,BR s,pos s t,b,m,rows)):=fun hc=>by
   have fin:some (Sum.inl (at0,BR s,IntKind.i64.wrap (pos s (c::t)+1),b,m,rows))=(some (Sum.inl (at0,BR s,pos s t,b,m,rows)):Option (_⊕(Int×ByteArray×Int×Bool×Nat×List (List PV)))):=by rw [w1]
   refine qD (decide_eq_true p1) (qD p0 (qA g ?_))
   by_cases a1:(c.toNat:Int)≥65
   ·refine qD (decide_eq_true a1) (qD p0 (qA g ?_))
    by_cases a2:(c.toNat:Int)≤90
    ·exact qD (decide_eq_true a2) fin
    ·refine qO (decide_eq_false a2) (qD p0 (qA g ?_))
     by_cases a3:(c.toNat:Int)≥48
     ·refine qD (decide_eq_true a3) (qD p0 (qA g ?_))
      by_cases a4:(c.toNat:Int)≤57
      ·exact qD (decide_eq_true a4) fin
      ·refine qO (decide_eq_false a4) (qD p0 (qA g ?_))
       have a5:c=36:=by
        unfold wch at hc
        simp only [Bool.or_eq_true,Bool.and_eq_true,decide_eq_true_eq,beq_iff_eq] at hc
        rcases hc with hc|hc|hc
        ·omega
        ·omega
        ·exact hc
       exact qD (by rw [a5];rfl) fin
     ·omega
   ·refine qO (decide_eq_false a1) (qD p0 (qA g ?_))
    by_cases a3:(c.toNat:Int)≥48
    ·refine qD (decide_eq_true a3) (qD p0 (qA g ?_))
     by_cases a4:(c.toNat:Int)≤57
     ·exact qD (decide_eq_true a4) fin
     ·refine qO (decide_eq_false a4) (qD p0 (qA g ?_))
      have a5:c=36:=by
       unfold wch at hc
       simp only [Bool.or_eq_true,Bool.and_eq_true,decide_eq_true_eq,beq_iff_eq] at hc
       rcases hc with hc|hc|hc
       ·omega
       ·omega
       ·exact hc
      exact qD (by rw [a5];rfl) fin
    ·refine qO (decide_eq_false a3) (qD p0 (qA g ?_))
     have a5:c=36:=by
      unfold wch at hc
      simp only [Bool.or_eq_true,Bool.and_eq_true,decide_eq_true_eq,beq_iff_eq] at hc
      rcases hc with hc|hc|hc
      ·omega
      ·omega
      ·exact hc
     exact qD (by rw [a5];rfl) fin
  have no:(wch c=false)→(qCD n (at0,BR s,pos s (c::t),b,m,rows)).run=some (.inr (at0,BR s,pos s (c::t),b,m,rows)):=fun hc=>by
   have hc':¬((65≤c.toNat∧c.toNat≤90)∨(48≤c.toNat∧c.toNat≤57)∨c=36):=fun e=>by
    have:wch c=true:=by
     unfold wch
     simp only [Bool.or_eq_true,Bool.and_eq_true,decide_eq_true_eq,beq_iff_eq]
     exact e
    rw [hc] at this;cases this
   have a5:((c.toNat:Int)==36)=false:=by
    rw [beq_eq_false_iff_ne];intro e
    exact hc' (.inr (.inr (UInt8.toNat_inj.1 (show c.toNat=36 by omega))))
   refine qD (decide_eq_true p1) (qD p0 (qA g ?_))
   by_cases a1:(c.toNat:Int)≥65
   ·have a2:¬(c.toNat:Int)≤90:=fun e=>hc' (.inl ⟨by omega,by omega⟩)
    refine qD (decide_eq_true a1) (qD p0 (qA g (qO (decide_eq_false a2) ?_)))
    refine qD p0 (qA g (qD (decide_eq_true (show (c.toNat:Int)≥48 by omega)) ?_))
    exact qD p0 (qA g (qO (decide_eq_false (show ¬(c.toNat:Int)≤57 by omega)) (qD p0 (qA g (qO a5 rfl)))))
   ·refine qO (decide_eq_false a1) (qD p0 (qA g ?_))
    by_cases a3:(c.toNat:Int)≥48
    ·have a4:¬(c.toNat:Int)≤57:=fun e=>hc' (.inr (.inl ⟨by omega,by omega⟩))
     exact qD (decide_eq_true a3) (qD p0 (qA g (qO (decide_eq_false a4) (qD p0 (qA g (qO a5 rfl))))))
    ·exact qO (decide_eq_false a3) (qD p0 (qA g (qO a5 rfl)))
  cases hc:wch c with
  |true=>
   rw [qU (yes hc),show wr (c::t)=wr t by simp [wr,hc]]
   exact qPL hs n at0 b m rows t M (qRR h) (by omega)
  |false=>
   rw [qP (no hc),show wr (c::t)=c::t by simp [wr,hc]]
theorem qRS {s:List UInt8} (hs:s.length≤1000) (q:PS) (h:q.1<:+s):Ev (qDC · (BR s) (pos s q.1) q.2.1 q.2.2.length (q.2.2.map qa)) (BR (wd q.1),qC5 s (wr q.1,q.2)):=by
 have hl:=qDX h
 have hw:=qHh q.1
 have hd:=congrArg List.length (wdr q.1)
 simp only [List.length_append] at hd
 refine ⟨q.1.length+2,fun n hn=>?_⟩
 obtain ⟨k,rfl,hm⟩:=up1 hn
 refine qA (qPL hs k (pos s q.1) q.2.1 q.2.2.length (q.2.2.map qa) q.1 k h (by omega)) (qD (decide_eq_true ⟨qMN _ _,by unfold pos;simp only;omega,by rw [qb];unfold pos;simp only;omega⟩) ?_)
 rw [qC]
 have e:(pos s (wr q.1))=pos s q.1+((wd q.1).length:Int):=by unfold pos;omega
 have x:=qQO (k:=(wd q.1).length) h
 rw [←e] at x
 have t:q.1.take (wd q.1).length=wd q.1:=by
  have:=List.take_left (l₁:=wd q.1) (l₂:=wr q.1)
  rwa [wdr] at this
 rw [t] at x
 show some ((BR s).extract (pos s q.1).toNat (pos s (wr q.1)).toNat,_)=_
 rw [x]
 rfl
theorem qIB {s:List UInt8} (hs:s.length≤1000) {n:Nat} (b:Bool) (l:List Nd) (res:Int×PS):∀(k:Nat) (r acc:List UInt8) (M:Nat),r.length≤k→r<:+s→acc.length+r.length≤1001→r.length+1≤M→
  (∀w t,qCJ acc r=some (w,t)→qx n 1 0 2 0 (BR w) 0 0 false false 0 0 false false [] (BR s) (pos s t) b l.length (l.map qa)=some (qCe s res))→
  zC (qEI n) M (BR acc,BR s,pos s r,b,l.length,l.map qa)=some (match qCJ acc r with
   |none=> .inr (BR s,pos s [],b,l.length,l.map qa)
   |some _=> .inl (qCe s res))
 |k,r,acc,0,_,_,_,h,_=>by omega
 |k,[],acc,M+1,_,h,_,_,_=>by
  exact qP (qO (decide_eq_false (show ¬pos s []<((BR s).size:Int) by rw [qb];unfold pos;simp)) rfl)
 |0,c::t,acc,M+1,hk,_,_,_,_=>by simp at hk
 |k+1,c::t,acc,M+1,hk,h,ha,hM,hr=>by
  have hl:=qDX h
  simp only [List.length_cons] at hl hM hk ha
  have g:=qNy h
  have p1:pos s (c::t)<((BR s).size:Int):=by rw [qb];unfold pos;simp only [List.length_cons];omega
  have p0:decide (0≤pos s (c::t))=true:=decide_eq_true (qMN _ _)
  have pa:=qLc (k:=1) h (t:=t) rfl (by simp)
  have w1:IntKind.i64.wrap (pos s (c::t)+1)=pos s t:=by rw [qT (by unfold pos;omega)];exact pa
  by_cases hc:c=34
  ·subst hc
   have ht:=qRR h
   by_cases hq:t.head?=some 34
   ·obtain ⟨u,rfl⟩:=qLb hq
    simp only [List.length_cons] at hl hM hk ha
    rw [qWn] at hr⊢
    have g2:=qNy ht
    have pb:=qLc (k:=1) ht (t:=u) rfl (by simp)
    have w2:IntKind.i64.wrap (pos s (34::u)+1)=pos s u:=by rw [qT (by unfold pos;omega)];exact pb
    rw [qU (v':=(BR (acc++ [34]),BR s,pos s u,b,l.length,l.map qa)) (by
     refine qD (decide_eq_true p1) (qD p0 (qA g (qO rfl (qO (decide_eq_false (show ¬IntKind.i64.wrap (pos s (34::34::u)+1)≥((BR s).size:Int) by rw [w1,qb];unfold pos;simp only [List.length_cons];omega)) (qD (decide_eq_true (show 0≤IntKind.i64.wrap (pos s (34::34::u)+1) by rw [w1];exact qMN _ _)) (qA (x:=34) (by show (BR s).toList[(IntKind.i64.wrap (pos s (34::34::u)+1)).toNat]?=_;rw [w1];exact g2) (qO rfl (qD (decide_eq_true (show (BR acc).size+1≤9223372036854775807 by rw [qb];omega)) ?_))))))))
     rw [qC]
     show some (Sum.inl (BR acc++BR [34],BR s,IntKind.i64.wrap (IntKind.i64.wrap (pos s (34::34::u)+1)+1),b,l.length,l.map qa))=_
     rw [w1,w2,qO5])]
    exact qIB hs b l res k u _ M (by omega) (qRR ht) (by simp;omega) (by omega) hr
   ·rw [qWo acc t hq] at hr⊢
    have hr:=hr acc t rfl
    refine qP (qD (decide_eq_true p1) (qD p0 (qA g (qO rfl ?_))))
    cases t with
    |nil=>
     refine qD (decide_eq_true (show IntKind.i64.wrap (pos s [34]+1)≥((BR s).size:Int) by rw [w1,qb];unfold pos;simp)) ?_
     rw [←w1] at hr
     exact qA hr rfl
    |cons d u=>
     have g2:=qNy ht
     have hd:¬d=34:=fun e=>hq (by rw [e];rfl)
     refine qO (decide_eq_false (show ¬IntKind.i64.wrap (pos s (34::d::u)+1)≥((BR s).size:Int) by rw [w1,qb];unfold pos;simp only [List.length_cons] at hl⊢;omega)) (qD (decide_eq_true (show 0≤IntKind.i64.wrap (pos s (34::d::u)+1) by rw [w1];exact qMN _ _)) (qA (x:=d) (by show (BR s).toList[(IntKind.i64.wrap (pos s (34::d::u)+1)).toNat]?=_;rw [w1];exact g2) (qD ?_ ?_)))
     ·rw [bne_iff_ne]
      intro e
      exact hd (UInt8.toNat_inj.1 (show d.toNat=34 by omega))
     ·rw [←w1] at hr
      exact qA hr rfl
  ·rw [qWp acc t hc] at hr⊢
   have hx:=qQO (k:=1) h
   rw [show ((1:Nat):Int)=1 from rfl] at hx pa
   have hx:(BR s).extract (pos s (c::t)).toNat (IntKind.i64.wrap (pos s (c::t)+1)).toNat=BR [c]:=by
    rw [w1,←pa];exact hx
   rw [qU (v':=(BR (acc++ [c]),BR s,pos s t,b,l.length,l.map qa)) (by
    refine qD (decide_eq_true p1) (qD p0 (qA g (qD ?_ (qD (decide_eq_true (show 0≤pos s (c::t)∧pos s (c::t)≤IntKind.i64.wrap (pos s (c::t)+1)∧IntKind.i64.wrap (pos s (c::t)+1)≤((BR s).size:Int) by rw [w1,qb];exact ⟨qMN _ _,by unfold pos;simp only [List.length_cons];omega,by unfold pos;omega⟩)) (qD (decide_eq_true (show (BR acc).size+((BR s).extract (pos s (c::t)).toNat (IntKind.i64.wrap (pos s (c::t)+1)).toNat).size≤9223372036854775807 by rw [hx,qb,qb];simp;omega)) ?_)))))
    ·rw [bne_iff_ne]
     intro e
     exact hc (UInt8.toNat_inj.1 (show c.toNat=34 by omega))
    ·rw [qC]
     show some (Sum.inl (BR acc++(BR s).extract (pos s (c::t)).toNat (IntKind.i64.wrap (pos s (c::t)+1)).toNat,BR s,IntKind.i64.wrap (pos s (c::t)+1),b,l.length,l.map qa))=_
     rw [hx,qO5,w1])]
   exact qIB hs b l res k t _ M (by omega) (qRR h) (by simp;omega) (by omega) hr
theorem qVg {s:List UInt8} (hs:s.length≤1000) (q:PS) (h:q.1<:+s) (hn:q.2.2.length≤5000):Ev (qFk · (BR s) (pos s q.1) q.2.1 q.2.2.length (q.2.2.map qa)) (qCe s (match qCJ [] q.1 with
  |none=>(0,[],true,q.2.2)
  |some (w,t)=>qEV (nd1 (2,0,BR w)) (t,q.2))):=by
 have hl:=qDX h
 cases hq:qCJ [] q.1 with
 |none=>
  refine ⟨q.1.length+2,fun n hn=>?_⟩
  obtain ⟨k,rfl,hm⟩:=up1 hn
  have lp:=qIB hs (n:=k) q.2.1 q.2.2 (0,q) q.1.length q.1 [] k (Nat.le_refl _) h (by simp;omega) (by omega) (fun w t e=>by rw [hq] at e;cases e)
  rw [hq] at lp
  exact qA lp rfl
 |some wt=>
  obtain ⟨w,t⟩:=wt
  have hw:=qHj _ _ _ (Nat.le_refl _) hq
  simp only [List.length_nil] at hw
  obtain ⟨n1,h1⟩:=qLR (s:=s) (nd1 (2,0,BR w)) (t,q.2) hn ⟨by simp [kd,nd1],by simp only [nd1,qb];omega⟩
  refine ⟨n1+q.1.length+2,fun n hn=>?_⟩
  obtain ⟨k,rfl,hm⟩:=up1 hn
  have lp:=qIB hs (n:=k) q.2.1 q.2.2 (qEV (nd1 (2,0,BR w)) (t,q.2)) q.1.length q.1 [] k (Nat.le_refl _) h (by simp;omega) (by omega) (fun w' t' e=>by rw [hq] at e;cases e;exact h1 k (by omega))
  rw [hq] at lp
  exact qA lp rfl
theorem qTS:∀o∈qCL,(qAV o).toList≠ []∧(qAV o).size≤2:=by decide+kernel
theorem qVh:∀o∈qCL,1≤o∧o≤11:=by decide
def opR:List (List PV):=qCL.map qq
def rsL (level:Int) (r:List UInt8):List Int→List UInt8
 | []=>r
 |o::l=>if lvl o=level then rsL level (tb r) l else rsL level r l
theorem qO8 {s:List UInt8} (hs:s.length≤1000) {n:Nat} (level:Int) (R:List UInt8) (hR:tb R=R) (m:Nat) (rows:List (List PV))
  (h1:∀o∈qCL,qCS n o=some (lvl o)) (h2:∀o∈qCL,qC0 n o=some (qAV o)):
  ∀(k i:Nat) (r:List UInt8) (M:Nat),i+k=11→k+1≤M→tb r=R→
  (∀r',tb r'=R→(r'=r∨r'=R)→∀o∈qCL,qAK n (qAV o) (BR s) (pos s r') false m rows=some (if (qAV o).toList.isPrefixOf R=true then (true,BR s,pos s (R.drop (qAV o).size),false,m,rows) else (false,BR s,pos s R,false,m,rows)))→
  zC (qE9 n) M (level,11,(i:Int),opR,BR s,pos s r,false,m,rows)=some (if qEE level R (qCL.drop i)=0 then .inr (BR s,pos s (rsL level r (qCL.drop i)),false,m,rows) else .inl (qEE level R (qCL.drop i),BR s,pos s (R.drop (qAV (qEE level R (qCL.drop i))).size),false,m,rows))
 |k,i,r,0,_,h,_,_=>by omega
 |0,i,r,M+1,hk,_,_,_=>by
  have hi:i=11:=by omega
  subst hi
  exact qP (qO rfl rfl)
 |k+1,i,r,M+1,hk,hM,hr,h3=>by
  have hi:i<qCL.length:=by simp [qCL];omega
  obtain ⟨o,ho⟩:∃o,qCL[i]?=some o:=⟨_,List.getElem?_eq_getElem hi⟩
  have hin:=List.mem_of_getElem? ho
  have hR2:opR[i]?=some [PV.i .i64 o]:=by simp [opR,List.getElem?_map,ho,qq]
  have hc:zD .i64 [PV.i .i64 o] 0=some o:=rfl
  have hd:qCL.drop i=o::qCL.drop (i+1):=qDc ho
  have w5:IntKind.i64.wrap ((i:Int)+1)=((i+1:Nat):Int):=by rw [qT (by omega)];omega
  have g1:decide ((i:Int)<((11:Nat):Int))=true:=decide_eq_true (by omega)
  have g2:decide (11=opR.length∧0≤(i:Int)∧(i:Int)<((11:Nat):Int))=true:=decide_eq_true ⟨rfl,by omega,by omega⟩
  have h0:o≠0:=by have:=qVh o hin;omega
  rw [hd]
  by_cases hl:lvl o=level
  ·have is:=h3 r hr (.inl rfl) o hin
   by_cases hp:(qAV o).toList.isPrefixOf R=true
   ·have e:qEE level R (o::qCL.drop (i+1))=o:=by unfold qEE;rw [if_pos ⟨hl,hp⟩]
    rw [e,if_neg h0]
    rw [if_pos hp] at is
    exact qP (qD g1 (qD g2 (qA hR2 (qA hc (qA (h1 o hin) (qD (beq_iff_eq.2 hl) (qD g2 (qA hR2 (qA hc (qA (h2 o hin) (qA is (qD rfl (qD g2 (qA hR2 (qA hc rfl)))))))))))))))
   ·have e:qEE level R (o::qCL.drop (i+1))=qEE level R (qCL.drop (i+1)):=by
     conv=>lhs;unfold qEE
     rw [if_neg (fun h=>hp h.2)]
    have e2:rsL level r (o::qCL.drop (i+1))=rsL level R (qCL.drop (i+1)):=by
     conv=>lhs;unfold rsL
     rw [if_pos hl,hr]
    rw [e,e2]
    rw [if_neg hp] at is
    rw [qU (v':=(level,11,((i+1:Nat):Int),opR,BR s,pos s R,false,m,rows)) (by
     refine qD g1 (qD g2 (qA hR2 (qA hc (qA (h1 o hin) (qD (beq_iff_eq.2 hl) (qD g2 (qA hR2 (qA hc (qA (h2 o hin) (qA is (qO rfl ?_)))))))))))
     rw [qC,w5])]
    exact qO8 hs level R hR m rows h1 h2 k (i+1) R M (by omega) (by omega) hR (fun r' a b=>h3 r' a (.inr (b.elim id id)))
  ·have e:qEE level R (o::qCL.drop (i+1))=qEE level R (qCL.drop (i+1)):=by
    conv=>lhs;unfold qEE
    rw [if_neg (fun h=>hl h.1)]
   have e2:rsL level r (o::qCL.drop (i+1))=rsL level r (qCL.drop (i+1)):=by
    conv=>lhs;unfold rsL
    rw [if_neg hl]
   rw [e,e2]
   rw [qU (v':=(level,11,((i+1:Nat):Int),opR,BR s,pos s r,false,m,rows)) (by
    refine qD g1 (qD g2 (qA hR2 (qA hc (qA (h1 o hin) (qO (beq_eq_false_iff_ne.2 hl) ?_)))))
    rw [qC,w5])]
   exact qO8 hs level R hR m rows h1 h2 k (i+1) r M (by omega) (by omega) hr h3
theorem qWv {level:Int} (h:1≤level∧level≤4) (r:List UInt8):rsL level r qCL=tb r:=by
 have c:level=1∨level=2∨level=3∨level=4:=by omega
 rcases c with rfl|rfl|rfl|rfl<;>simp [rsL,qCL,lvl,qCd]
theorem qWw {s:List UInt8} (hs:s.length≤1000) {level:Int} (hl:1≤level∧level≤4) (q:PS) (hb:q.2.1=false) (h:q.1<:+s):Ev (qFA · level (BR s) (pos s q.1) q.2.1 q.2.2.length (q.2.2.map qa)) (qCe s (sOp level q)):=by
 obtain ⟨n1,h1⟩:=qAa (F:=fun o n=>qCS n o) (f:=lvl) qCL (fun o _=>qKH o)
 obtain ⟨n2,h2⟩:=qAa (F:=fun o n=>qC0 n o) (f:=qAV) qCL (fun o ho=>qLL o (qVh o ho))
 obtain ⟨n3,h3⟩:=qAa (F:=fun o n=>qAK n (qAV o) (BR s) (pos s q.1) q.2.1 q.2.2.length (q.2.2.map qa)) (f:=fun o=>((sIs (qAV o).toList q).1,qC5 s (sIs (qAV o).toList q).2)) qCL (fun o ho=>by
  have:=qHk hs (qAV o).toList (by rw [qAZ];have:=(qTS o ho).2;omega) q h
  rwa [qKJ] at this)
 obtain ⟨n4,h4⟩:=qAa (F:=fun o n=>qAK n (qAV o) (BR s) (pos s (tb q.1)) q.2.1 q.2.2.length (q.2.2.map qa)) (f:=fun o=>((sIs (qAV o).toList (tb q.1,q.2)).1,qC5 s (sIs (qAV o).toList (tb q.1,q.2)).2)) qCL (fun o ho=>by
  have:=qHk hs (qAV o).toList (by rw [qAZ];have:=(qTS o ho).2;omega) (tb q.1,q.2) (qUT h)
  rwa [qKJ] at this)
 refine ⟨n1+n2+n3+n4+13,fun n hn=>?_⟩
 obtain ⟨k,rfl,hm⟩:=up1 hn
 have lp:=qO8 hs (n:=k) level (tb q.1) (qCd q.1) q.2.2.length (q.2.2.map qa) (h1 k (by omega)) (h2 k (by omega)) 11 0 q.1 k (by omega) (by omega) rfl (fun r' _ hr' o ho=>by
  rcases hr' with rfl|rfl
  ·have:=h3 k (by omega) o ho
   rw [hb] at this
   refine this.trans ?_
   unfold sIs
   rw [if_neg (by rw [hb];simp)]
   by_cases hp:(qAV o).toList.isPrefixOf (tb q.1)=true
   ·rw [if_pos hp,if_pos hp,qAZ];simp only [qC5,hb]
   ·rw [if_neg hp,if_neg hp];simp only [qC5,hb]
  ·have:=h4 k (by omega) o ho
   rw [hb] at this
   refine this.trans ?_
   unfold sIs
   rw [if_neg (by rw [hb];simp)]
   simp only [qCd]
   by_cases hp:(qAV o).toList.isPrefixOf (tb q.1)=true
   ·rw [if_pos hp,if_pos hp,qAZ];simp only [qC5,hb]
   ·rw [if_neg hp,if_neg hp];simp only [qC5,hb])
 rw [List.drop_zero,qWv hl] at lp
 unfold sOp
 rw [if_neg (by rw [hb];simp)]
 show qFA (k+1) level (BR s) (pos s q.1) q.2.1 q.2.2.length (q.2.2.map qa)=_
 rw [hb]
 by_cases h0:qEE level (tb q.1) qCL=0
 ·rw [if_pos h0] at lp
  rw [if_pos h0]
  refine qA lp ?_
  simp only [qCe,qC5,hb,h0]
  rfl
 ·rw [if_neg h0] at lp
  rw [if_neg h0]
  refine qA lp ?_
  simp only [qCe,qC5,hb]
  rfl
theorem qRT {s:List UInt8} (hs:s.length≤1000) {n:Nat} (r:List UInt8) (hr:r<:+s) (b:Bool) (l:List Nd)
  (h1:∀i,1≤i∧i≤5→qBa n i=some (qf i)) (h2:∀i,1≤i∧i≤5→qDB n i=some (4,i,em))
  (h4:∀i,1≤i∧i≤5→qx n 1 0 4 i em 0 0 false false 0 0 false false [] (BR s) (pos s (r.drop ((qf i).size-1))) b l.length (l.map qa)=some (qCe s (qEV (nd1 (4,i,em)) (r.drop ((qf i).size-1),b,l)))):
  ∀(k:Nat) (i:Int) (M:Nat),1≤i→i+k=6→k+1≤M→zC (qCk n) M (i,BR s,pos s r,b,l.length,l.map qa)=some (match qTt r i k with
   |some e=> .inl (qCe s (qEV (nd1 (4,e,em)) (r.drop ((qf e).size-1),b,l)))
   |none=> .inr (BR s,pos s r,b,l.length,l.map qa))
 |k,i,0,_,_,h=>by omega
 |0,i,M+1,hi,hk,h=>by
  exact qP (qO (decide_eq_false (show ¬i≤5 by omega)) rfl)
 |k+1,i,M+1,hi,hk,h=>by
  have hi5:1≤i∧i≤5:=⟨hi,by omega⟩
  have hsz:1≤(qf i).size∧(qf i).size≤7:=by
   have c:i=1∨i=2∨i=3∨i=4∨i=5:=by omega
   rcases c with rfl|rfl|rfl|rfl|rfl<;>decide+kernel
  have hx:(qf i).extract ((1:Int)).toNat (((qf i).size:Nat):Int).toNat=BR (qf i).toList.tail:=by
   conv=>lhs;rw [←qKJ (qf i)]
   rw [qGb,qb,qAZ]
   congr 1
   rw [Int.toNat_natCast,List.take_of_length_le (by rw [qAZ];omega)]
   exact List.drop_one
  have hxs:((qf i).extract ((1:Int)).toNat (((qf i).size:Nat):Int).toNat).size=(qf i).size-1:=by
   rw [hx,qb,List.length_tail,qAZ]
  have hl:=qDX hr
  have w1:IntKind.i64.wrap (pos s r+(((qf i).extract ((1:Int)).toNat (((qf i).size:Nat):Int).toNat).size:Int))=pos s r+(((qf i).size-1:Nat):Int):=by
   rw [hxs];exact qT (by unfold pos;omega)
  have w2:IntKind.i64.wrap (i+1)=i+1:=qT (by omega)
  have ih:=qRT hs r hr b l h1 h2 h4 k (i+1) M (by omega) (by omega) (by omega)
  unfold qTt
  by_cases hf:pos s r+(((qf i).size-1:Nat):Int)≤(s.length:Int)
  ·have hk2:(qf i).size-1≤r.length:=by unfold pos at hf;omega
   have cmp:(((BR s).extract (pos s r).toNat (IntKind.i64.wrap (pos s r+(((qf i).extract ((1:Int)).toNat (((qf i).size:Nat):Int).toNat).size:Int))).toNat).toList==((qf i).extract ((1:Int)).toNat (((qf i).size:Nat):Int).toNat).toList)=true↔(qf i).toList.tail.isPrefixOf r=true:=by
    rw [w1,qQO hr,hx,qAR,qAR,beq_iff_eq,List.isPrefixOf_iff_prefix,List.prefix_iff_eq_take,List.length_tail,qAZ]
    exact ⟨fun e=>e.symm,fun e=>e.symm⟩
   have g1:decide (IntKind.i64.wrap (pos s r+(((qf i).extract ((1:Int)).toNat (((qf i).size:Nat):Int).toNat).size:Int))≤((BR s).size:Int))=true:=decide_eq_true (by rw [w1,qb];exact hf)
   have g2:decide (0≤pos s r∧pos s r≤IntKind.i64.wrap (pos s r+(((qf i).extract ((1:Int)).toNat (((qf i).size:Nat):Int).toNat).size:Int))∧IntKind.i64.wrap (pos s r+(((qf i).extract ((1:Int)).toNat (((qf i).size:Nat):Int).toNat).size:Int))≤((BR s).size:Int))=true:=decide_eq_true (by rw [w1,qb];exact ⟨qMN _ _,by omega,hf⟩)
   by_cases hp:(qf i).toList.tail.isPrefixOf r=true
   ·rw [if_pos hp]
    have h4:=h4 i hi5
    rw [←qLc hr rfl hk2,←w1] at h4
    exact qP (qD (decide_eq_true (show i≤5 by omega)) (qA (h1 i hi5) (qD (decide_eq_true ⟨by decide,by omega,Int.le_refl _⟩) (qD g1 (qD g2 (qD (cmp.2 hp) (qA (h2 i hi5) (qA h4 rfl))))))))
   ·rw [if_neg hp]
    rw [qU (v':=(i+1,BR s,pos s r,b,l.length,l.map qa)) (by
     refine qD (decide_eq_true (show i≤5 by omega)) (qA (h1 i hi5) (qD (decide_eq_true ⟨by decide,by omega,Int.le_refl _⟩) (qD g1 (qD g2 (qO (by rw [Bool.eq_false_iff];exact fun e=>hp (cmp.1 e)) ?_)))))
     rw [qC,w2])]
    exact ih
  ·have hp:¬(qf i).toList.tail.isPrefixOf r=true:=by
    intro e
    have:=(List.isPrefixOf_iff_prefix.1 e).length_le
    rw [List.length_tail,qAZ] at this
    unfold pos at hf
    omega
   rw [if_neg hp]
   rw [qU (v':=(i+1,BR s,pos s r,b,l.length,l.map qa)) (by
    refine qD (decide_eq_true (show i≤5 by omega)) (qA (h1 i hi5) (qD (decide_eq_true ⟨by decide,by omega,Int.le_refl _⟩) (qO (decide_eq_false (by rw [w1,qb];exact hf)) ?_)))
    rw [qC,w2])]
   exact ih
theorem qWQ {s:List UInt8} (hs:s.length≤1000) (r:List UInt8) (hr:r<:+s) (b:Bool) (l:List Nd) (hl:l.length≤5000):∃n0,∀n,n0≤n→∀M,n0≤M→zC (qCk n) M (1,BR s,pos s r,b,l.length,l.map qa)=some (match qTt r 1 5 with
   |some e=> .inl (qCe s (qEV (nd1 (4,e,em)) (r.drop ((qf e).size-1),b,l)))
   |none=> .inr (BR s,pos s r,b,l.length,l.map qa)):=by
 obtain ⟨n1,h1⟩:=qGq (F:=qBa) (f:=qf) (lo:=1) (by decide) (fun i hi=>qHd i ⟨by omega,hi.2⟩)
 obtain ⟨n2,h2⟩:=qGq (F:=qDB) (f:=fun i=>(4,i,em)) (lo:=1) (by decide) (fun i _=>qP8 i)
 obtain ⟨n4,h4⟩:=qGq (F:=fun n i=>qx n 1 0 4 i em 0 0 false false 0 0 false false [] (BR s) (pos s (r.drop ((qf i).size-1))) b l.length (l.map qa)) (f:=fun i=>qCe s (qEV (nd1 (4,i,em)) (r.drop ((qf i).size-1),b,l))) (lo:=1) (by decide) (fun i _=>qLR (s:=s) (nd1 (4,i,em)) (r.drop ((qf i).size-1),b,l) hl ⟨by simp [kd,nd1],by simp [nd1,em];decide⟩)
 exact ⟨n1+n2+n4+7,fun n hn M hM=>qRT hs r hr b l (h1 n (by omega)) (h2 n (by omega)) (h4 n (by omega)) 5 1 M (by omega) (by omega) (by omega)⟩
theorem qWR:∃n0,∀n,n0≤n→∀i,1≤i∧i≤10→qCi n i=some (fnS i):=by
 obtain ⟨n1,h1⟩:=qAa (F:=fun (i:Nat) n=>qCi n ((i:Int)+1)) (f:=fun i=>fnS ((i:Int)+1)) (List.range 10) (fun i hi=>qNq _ (by have:=List.mem_range.1 hi;omega))
 refine ⟨n1,fun n hn i hi=>?_⟩
 have:=h1 n hn (i-1).toNat (List.mem_range.2 (by omega))
 rwa [show (((i-1).toNat:Nat):Int)+1=i by omega] at this
theorem qWx {i j:Int} (hi:1≤i∧i≤10) (hj:1≤j∧j≤10) (h:(fnS i).toList=(fnS j).toList):i=j:=by
 have t:∀a:Fin 10,∀b:Fin 10,(fnS (((a.val:Nat):Int)+1)).toList=(fnS (((b.val:Nat):Int)+1)).toList→a=b:=by decide+kernel
 have:=t ⟨(i-1).toNat,by omega⟩ ⟨(j-1).toNat,by omega⟩ (by
  simp only
  rw [show (((i-1).toNat:Nat):Int)+1=i by omega,show (((j-1).toNat:Nat):Int)+1=j by omega]
  exact h)
 have:=congrArg Fin.val this
 simp only at this
 omega
theorem qSi {g:G_spec_l3Rd_row} {n:Nat} {s:List UInt8} (w:List UInt8) (q:PS) (h1:∀i,1≤i∧i≤10→qCi n i=some (fnS i)):
  ∀(k:Nat) (i:Int) (M:Nat),1≤i→i+k=11→k+1≤M→(∀j,i≤j∧j≤10→(fnS j).toList≠w)→zC (qDP g n) M (BR w,i,qC5 s q)=some (.inr (BR w,qC5 s q))
 |k,i,0,_,_,h,_=>by omega
 |0,i,M+1,hi,hk,h,_=>qP (qO (decide_eq_false (show ¬i≤10 by omega)) rfl)
 |k+1,i,M+1,hi,hk,h,hn=>by
  have w1:IntKind.i64.wrap (i+1)=i+1:=qT (by omega)
  rw [qU (v':=(BR w,i+1,qC5 s q)) (by
   refine qD (decide_eq_true (show i≤10 by omega)) (qA (h1 i ⟨hi,by omega⟩) (qO (by rw [beq_eq_false_iff_ne];show (fnS i).toList≠(BR w).toList;rw [qAR];exact hn i ⟨Int.le_refl _,by omega⟩) ?_))
   rw [qC,w1])]
  exact qSi w q h1 k (i+1) M (by omega) (by omega) (by omega) (fun j hj=>hn j ⟨by omega,hj.2⟩)
theorem qLd {g:G_spec_l3Rd_row} {n:Nat} {s:List UInt8} (w:List UInt8) (q:PS) (res:Int→Int×PS) (h1:∀i,1≤i∧i≤10→qCi n i=some (fnS i))
  (h2:qAK n ⟨#[40]⟩ (BR s) (pos s q.1) q.2.1 q.2.2.length (q.2.2.map qa)=some ((sIs [40] q).1,qC5 s (sIs [40] q).2)):
  ∀(k:Nat) (i:Int) (M:Nat),1≤i→i+k=11→k+1≤M→(∀op,qGs w i k=some op→(sIs [40] q).1=true→g.spec_l3Rd_call op (BR s) (pos s (sIs [40] q).2.1) (sIs [40] q).2.2.1 (sIs [40] q).2.2.2.length ((sIs [40] q).2.2.2.map qa)=some (qCe s (res op)))→
   zC (qDP g n) M (BR w,i,qC5 s q)=some (match qGs w i k with
   |some op=>if (sIs [40] q).1=true then .inl (qCe s (res op)) else .inr (BR w,qC5 s (sIs [40] q).2)
   |none=> .inr (BR w,qC5 s q))
 |k,i,0,_,_,h,_=>by omega
 |0,i,M+1,hi,hk,h,_=>qP (qO (decide_eq_false (show ¬i≤10 by omega)) rfl)
 |k+1,i,M+1,hi,hk,h,hc=>by
  have w1:IntKind.i64.wrap (i+1)=i+1:=qT (by omega)
  unfold qGs at hc⊢
  by_cases hq:(fnS i).toList=w
  ·rw [if_pos hq] at hc⊢
   have hqb:((fnS i).toList==(BR w).toList)=true:=by rw [beq_iff_eq,qAR];exact hq
   simp only
   cases hi2:(sIs [40] q).1 with
   |true=>
    rw [if_pos rfl]
    exact qP (qD (decide_eq_true (show i≤10 by omega)) (qA (h1 i ⟨hi,by omega⟩) (qD hqb (qA h2 (qD hi2 (qA (hc i rfl hi2) rfl))))))
   |false=>
    rw [if_neg (by simp)]
    rw [qU (v':=(BR w,i+1,qC5 s (sIs [40] q).2)) (by
     refine qD (decide_eq_true (show i≤10 by omega)) (qA (h1 i ⟨hi,by omega⟩) (qD hqb (qA h2 (qO hi2 ?_))))
     rw [qC,w1])]
    exact qSi w _ h1 k (i+1) M (by omega) (by omega) (by omega) (fun j hj e=>by
     have:=qWx (i:=i) (j:=j) ⟨hi,by omega⟩ ⟨by omega,hj.2⟩ (hq.trans e.symm)
     omega)
  ·rw [if_neg hq] at hc⊢
   rw [qU (v':=(BR w,i+1,qC5 s q)) (by
    refine qD (decide_eq_true (show i≤10 by omega)) (qA (h1 i ⟨hi,by omega⟩) (qO (by rw [beq_eq_false_iff_ne];show (fnS i).toList≠(BR w).toList;rw [qAR];exact hq) ?_))
    rw [qC,w1])]
   exact qLd w q res h1 h2 k (i+1) M (by omega) (by omega) (by omega) hc
structure Go (k:Nat) (q q':PS):Prop where
 suf:q'.1<:+q.1
 sum:q'.2.2.length+q'.1.length+k≤q.2.2.length+q.1.length
 sm:(∀x∈q.2.2,qSA x)→∀x∈q'.2.2,qSA x
theorem Go.refl (q:PS):Go 0 q q:=⟨List.suffix_rfl,Nat.le_refl _,id⟩
theorem Go.trans {a b:Nat} {p q r:PS} (h:Go a p q) (h':Go b q r):Go (a+b) p r:=⟨h'.suf.trans h.suf,by have:=h.sum;have:=h'.sum;omega,fun e=>h'.sm (h.sm e)⟩
theorem Go.tr0 {p q r:PS} (h:Go 0 p q) (h':Go 0 q r):Go 0 p r:=h.trans h'
theorem Go.add {p q:PS} {x:Nd} (h:Go 1 p q) (hx:qSA x):Go 0 p (qEV x q).2:=by
 refine ⟨h.suf,?_,fun e y hy=>?_⟩
 ·have:=h.sum
  simp only [qEV,List.length_append,List.length_singleton]
  omega
 ·simp only [qEV,List.mem_append,List.mem_singleton] at hy
  rcases hy with hy|rfl
  ·exact h.sm e y hy
  ·exact hx
theorem Go.weak {k:Nat} {p q:PS} (h:Go k p q):Go 0 p q:=⟨h.suf,by have:=h.sum;omega,h.sm⟩
theorem Go.of (q:PS) {r:List UInt8} (b:Bool) {k:Nat} (h:r<:+q.1) (hk:r.length+k≤q.1.length):Go k q (r,b,q.2.2):=⟨h,by simp only;omega,id⟩
theorem qNz (q:PS):Go 0 q (tb q.1,q.2):=⟨List.dropWhile_suffix _,by have:=qAD q.1;simp only;omega,id⟩
theorem qSj (q:PS):Go 0 q (wr (tb q.1),q.2):=⟨(List.dropWhile_suffix _).trans (List.dropWhile_suffix _),by have:=qAD q.1;have:=qHh (tb q.1);simp only;omega,id⟩
theorem qVi (q:PS) (h:wd (tb q.1)≠ []):Go 1 q (wr (tb q.1),q.2):=⟨(List.dropWhile_suffix _).trans (List.dropWhile_suffix _),by
 have:=qAD q.1
 have e:=congrArg List.length (wdr (tb q.1))
 have:=List.length_pos_iff.2 h
 simp only [List.length_append] at e
 simp only;omega,id⟩
theorem qMO {w:List UInt8} {q:PS} (h:(sIs w q).1=true):w<+:tb q.1∧(sIs w q).2=((tb q.1).drop w.length,q.2)∧q.2.1=false:=by
 unfold sIs at h⊢
 split at h
 ·cases h
 ·rename_i hb
  rw [if_neg hb]
  split at h
  ·rename_i hp
   rw [if_pos hp]
   exact ⟨List.isPrefixOf_iff_prefix.1 hp,rfl,by rw [Bool.eq_false_iff];exact hb⟩
  ·cases h
theorem qSk {w:List UInt8} {q:PS} (h:(sIs w q).1=false):(sIs w q).2=(tb q.1,q.2):=by
 unfold sIs at h⊢
 split at h
 ·rename_i hb;rw [if_pos hb]
 ·rename_i hb
  rw [if_neg hb]
  split at h
  ·cases h
  ·rename_i hp;rw [if_neg hp]
theorem qLS (w:List UInt8) (q:PS):Go 0 q (sIs w q).2:=by
 cases h:(sIs w q).1 with
 |true=>
  obtain ⟨_,h2,_⟩:=qMO h
  rw [h2]
  exact Go.tr0 (qNz q) ⟨List.drop_suffix _ _,by simp,id⟩
 |false=>rw [qSk h];exact qNz q
theorem qFW {w:List UInt8} (hw:w≠ []) {q:PS} (h:(sIs w q).1=true):Go 1 q (sIs w q).2:=by
 obtain ⟨h1,h2,_⟩:=qMO h
 rw [h2]
 have l1:=h1.length_le
 have l2:=List.length_pos_iff.2 hw
 have:=qAD q.1
 exact ⟨(List.drop_suffix _ _).trans (List.dropWhile_suffix _),by simp;omega,id⟩
theorem qRU {k:Nat} {p q:PS} (h:Go k p q):Go k p (qM5 q):=⟨h.suf,h.sum,h.sm⟩
theorem qVj:∀(t r:List UInt8),(tb r).length≤(tb (t++r)).length
 | [],r=>Nat.le_refl _
 |c::t,r=>by
  have ih:=qVj t r
  have:=qAD (t++r)
  by_cases hc:c=32
  ·rw [show tb (c::t++r)=tb (t++r) by simp [tb,hc]];exact ih
  ·rw [show tb (c::t++r)=c::(t++r) by simp [tb,hc]]
   simp only [List.length_cons];omega
theorem Go.tb {k:Nat} {p q:PS} (h:Go k p q):(tb q.1).length≤(tb p.1).length:=by
 obtain ⟨t,ht⟩:=h.suf
 rw [←ht];exact qVj t q.1
theorem qUv {w:List UInt8} (hw:w≠ []) {q:PS} (h:(sIs w q).1=true):(tb (sIs w q).2.1).length<(tb q.1).length:=by
 obtain ⟨h1,h2,_⟩:=qMO h
 rw [h2]
 exact qTQ hw h1
theorem qUw (level:Int) (r:List UInt8):∀l:List Int,qEE level r l≠0→qEE level r l∈l∧(qAV (qEE level r l)).toList<+:r
 | [],h=>absurd rfl h
 |o::l,h=>by
  unfold qEE at h⊢
  split at h
  ·rename_i hc
   rw [if_pos hc]
   exact ⟨List.mem_cons_self ..,List.isPrefixOf_iff_prefix.1 hc.2⟩
  ·rename_i hc
   rw [if_neg hc]
   have:=qUw level r l h
   exact ⟨List.mem_cons_of_mem _ this.1,this.2⟩
theorem qWe (level:Int) (q:PS):Go 0 q (sOp level q).2∧((sOp level q).1≠0→Go 1 q (sOp level q).2∧(tb (sOp level q).2.1).length<(tb q.1).length):=by
 unfold sOp
 split
 ·exact ⟨qNz q,fun h=>absurd rfl h⟩
 ·simp only
  by_cases h:qEE level (tb q.1) qCL=0
  ·rw [if_pos h]
   exact ⟨qNz q,fun e=>absurd h e⟩
  ·rw [if_neg h]
   obtain ⟨h1,h2⟩:=qUw level (tb q.1) qCL h
   have ne:=(qTS _ h1).1
   have l1:=h2.length_le
   have l2:=List.length_pos_iff.2 ne
   rw [qAZ] at l1 l2
   have l3:=qAD q.1
   have g:Go 1 q ((tb q.1).drop (qAV (qEE level (tb q.1) qCL)).size,q.2):=⟨(List.drop_suffix _ _).trans (List.dropWhile_suffix _),by simp;omega,id⟩
   have t:=qTQ ne h2
   rw [qAZ] at t
   exact ⟨g.weak,fun _=>⟨g,t⟩⟩
theorem qO9:∀(k:Nat) (acc r:List UInt8) {w t:List UInt8},r.length≤k→qCJ acc r=some (w,t)→t<:+r
 |k,acc,[],w,t,hk,h=>by simp [qCJ] at h
 |0,acc,c::r,w,t,hk,h=>by simp at hk
 |k+1,acc,c::r,w,t,hk,h=>by
  simp only [List.length_cons] at hk
  by_cases hc:c=34
  ·subst hc
   by_cases hq:r.head?=some 34
   ·obtain ⟨u,rfl⟩:=qLb hq
    rw [qWn] at h
    simp only [List.length_cons] at hk
    have:=qO9 k _ u (by omega) h
    exact this.trans ((List.suffix_cons 34 u).trans (List.suffix_cons 34 _))
   ·rw [qWo acc r hq] at h
    cases h
    exact List.suffix_cons 34 _
  ·rw [qWp acc r hc] at h
   exact (qO9 k _ r (by omega) h).trans (List.suffix_cons c _)
def Ks:SJ→PS→Prop
 | .call _ kids,q=>q.2.1=true∨kids.length+q.1.length≤1500
 |_,_=>True
theorem qJp {k op:Int} {kids:List Int} (h:kids.length≤2000):qSA (ndK k op kids):=⟨h,by simp [ndK,em];decide⟩
theorem qB4 {k:Nat} {p q:PS} (h:Go k p q):q.1.length≤p.1.length:=h.suf.length_le
theorem qFe (H:RdOK):∀(f:Nat) (j:SJ) (q:PS),q.1.length≤1000→Ks j q→Go 0 q (sP f j q).2
 |0,j,q,_,_=>Go.refl q
 |f+1,.row level,q,hr,_=>by
  unfold sP
  split
  ·exact Go.refl q
  ·split
   ·exact qFe H f .one q hr trivial
   ·have a:=qFe H f (.row (level+1)) q hr trivial
    exact a.tr0 (qFe H f (.rl level _) _ (Nat.le_trans (qB4 a) hr) trivial)
 |f+1,.rl level a,q,hr,_=>by
  unfold sP
  split
  ·exact Go.refl q
  ·simp only
   have o:=qWe level q
   split
   ·exact o.1
   ·rename_i h0
    have o1:=(o.2 h0).1
    have b:=qFe H f (.row (level+1)) (sOp level q).2 (Nat.le_trans (qB4 o1) hr) trivial
    have c:=Go.add (x:=ndK 5 (sOp level q).1 [a,(sP f (.row (level+1)) (sOp level q).2).1]) (o1.trans b) (qJp (by simp))
    exact c.tr0 (qFe H f (.rl level _) _ (Nat.le_trans (qB4 c) hr) trivial)
 |f+1,.one,q,hr,_=>by
  unfold sP
  split
  ·rename_i h
   have a:=qFW (by simp) h
   have b:=qFe H f (.row 5) (sIs [45] q).2 (Nat.le_trans (qB4 a) hr) trivial
   exact Go.add (a.trans b) (qJp (by simp))
  ·have a:=qLS [45] q
   split
   ·rename_i h
    have c:=a.tr0 (qFW (by simp) h).weak
    have b:=qFe H f (.row 1) (sIs [40] (sIs [45] q).2).2 (Nat.le_trans (qB4 c) hr) trivial
    have d:=(c.tr0 b).tr0 (qLS [41] _)
    simp only
    split
    ·exact d
    ·exact qRU d
   ·simp only
    have t:=qNz q
    split
    ·rename_i h
     have c:=qFW (by simp) h
     obtain ⟨_,e,_⟩:=qMO h
     split
     ·exact ⟨List.nil_suffix,by simp,id⟩
     ·rename_i w u hq
      have d:=qO9 _ _ _ (Nat.le_refl _) hq
      have d2:=d.length_le
      have dz:=qHj _ _ _ (Nat.le_refl _) hq
      have g:=t.trans c
      have l:=qB4 g
      have sg:=g.sum
      have eq:(sIs [34] (tb q.1,q.2)).2.2=q.2:=by rw [e]
      rw [eq] at sg
      simp only [List.length_nil] at dz
      exact Go.add (q:=(u,q.2)) ⟨d.trans g.suf,by simp only;omega,id⟩ ⟨by simp [kd,nd1],by simp only [nd1,qb];omega⟩
    ·split
     ·rename_i h
      have c:=qFW (by simp) h
      obtain ⟨_,e,_⟩:=qMO h
      have g:=t.trans c
      have l:=qB4 g
      have sg:=g.sum
      have eq:(sIs [35] (tb q.1,q.2)).2.2=q.2:=by rw [e]
      rw [eq] at sg
      split
      ·exact Go.add (q:=(_,q.2)) ⟨(List.drop_suffix _ _).trans g.suf,by simp;omega,id⟩ ⟨by simp [kd,nd1],by simp [nd1,em];decide⟩
      ·exact ⟨g.suf,by simp only;omega,id⟩
     ·have w:=qSj q
      split
      ·split
       ·have c:=w.tr0 (qLS [40] _)
        exact c.tr0 (qFe H f (.call _ []) _ (Nat.le_trans (qB4 c) hr) (.inr (by have:=qB4 c;simp only [List.length_nil];omega)))
       ·exact qRU (w.tr0 (qLS [40] _))
      ·split
       ·rename_i hv
        exact Go.add (qVi q hv.2) ⟨by simp [kd,nd1],qLQ hv.1 (H.v _ (qUQ _) hv.2 hv.1)⟩
       ·split
        ·rename_i hp
         exact Go.add (qVi q (fun e=>by rw [e,H.p0] at hp;cases hp)) ⟨by simp [kd,ndC],by simp [ndC,em];decide⟩
        ·exact qRU w
 |f+1,.call op kids,q,hr,hk=>by
  unfold sP
  split
  ·exact Go.refl q
  ·rename_i hb
   have hk:kids.length+q.1.length≤1500:=hk.elim (fun h=>absurd h hb) id
   have a:=qFe H f .arg q hr trivial
   simp only
   split
   ·rename_i h
    exact Go.add (a.trans (qFW (by simp) h)) (qJp (by simp;omega))
   ·have c:=a.tr0 (qLS [41] _)
    split
    ·rename_i h
     have d:=c.trans (qFW (by simp) h)
     obtain ⟨e1,e2,_⟩:=qMO h
     have l:=e1.length_le
     have l2:=qB4 c
     have l3:=qAD (sIs [41] (sP f .arg q).2).2.1
     simp only [List.length_cons,List.length_nil] at l
     exact d.weak.tr0 (qFe H f (.call op _) _ (Nat.le_trans (qB4 d) hr) (.inr (by rw [e2];simp;omega)))
    ·have d:=qRU (c.tr0 (qLS [44] _))
     exact d.tr0 (qFe H f (.call op _) _ (Nat.le_trans (qB4 d) hr) (.inl rfl))
 |f+1,.arg,q,hr,_=>by
  unfold sP
  simp only
  have w:=qSj q
  split
  ·rename_i h
   have c:=w.trans (qFW (by simp) h.2)
   have d:=c.trans (qSj _)
   split
   ·exact Go.add d ⟨by simp [kd,ndA],by simp [ndA,em];decide⟩
   ·exact ⟨d.suf,by have:=d.sum;simp only at this⊢;omega,d.sm⟩
  ·have t:=qNz q
   exact t.tr0 (qFe H f (.row 1) _ (Nat.le_trans (qB4 t) hr) trivial)
def As (f:Nat):SJ→PS→Prop
 | .row level,q=>((20*(tb q.1).length+10:Nat):Int)-level≤f∧1≤level∧level≤5
 | .rl level _,q=>20*(tb q.1).length+5≤f∧1≤level∧level≤4
 | .one,q=>20*(tb q.1).length+4≤f∧q.2.1=false
 | .call _ _,q=>(q.2.1=true∧1≤f)∨20*(tb q.1).length+12≤f
 | .arg,q=>20*(tb q.1).length+10≤f
def Iv (s:List UInt8) (q:PS):Prop:=q.1<:+s∧q.2.2.length+q.1.length≤2000
theorem Iv.go {s:List UInt8} {k:Nat} {q q':PS} (h:Iv s q) (g:Go k q q'):Iv s q':=⟨g.suf.trans h.1,by have:=g.sum;have:=h.2;omega⟩
def Ws (s:List UInt8):SJ→PS→Int×PS→Prop
 | .row level,q,r=>Ev (qEb · level (BR s) (pos s q.1) q.2.1 q.2.2.length (q.2.2.map qa)) (qCe s r)
 | .rl level a,q,r=>∃x,(x= .inl (qCe s r)∨x= .inr (qCe s r))∧∃n0,∀n,n0≤n→∀M,n0≤M→zC (qEl (qd n) n) M (level,a,qC5 s q)=some x
 | .one,q,r=>Ev (qJ2 · (BR s) (pos s q.1) q.2.1 q.2.2.length (q.2.2.map qa)) (qCe s r)
 | .call op kids,q,r=>∃x,(x= .inl (qCe s r)∨(x= .inr (qC5 s r.2)∧r.1=0))∧∃n0,∀n,n0≤n→∀M,n0≤M→zC (qEJ (qd n) n) M (op,kids.length,kids.map qq,qC5 s q)=some x
 | .arg,q,r=>Ev (qJ3 · (BR s) (pos s q.1) q.2.1 q.2.2.length (q.2.2.map qa)) (qCe s r)
theorem srp (r:List UInt8) (h:r.length≤1000):Ev (qAw · (BR (wd r))) (qA9 (BR (wd r))):=qNn _ (by rw [qb];have:=qTP r;omega)
theorem srv (r:List UInt8) (h:r.length≤1000):Ev (qAM · (BR (wd r))) (qi (BR (wd r))):=qH7 _ (by rw [qb];have:=qTP r;omega)
theorem qXH {r:List UInt8} (h:wd r≠ []):(tb (wr r)).length<r.length:=by
 have e:=congrArg List.length (wdr r)
 have:=List.length_pos_iff.2 h
 have:=qAD (wr r)
 simp only [List.length_append] at e
 omega
def qTT (n:Nat) (w:ByteArray) (c:ByteArray×Int×Bool×Nat×List (List PV)):Tr (Int×ByteArray×Int×Bool×Nat×List (List PV)):=
 (.opt (qAw n w) fun r=>(.ask (!r.2.2.2.2) (.done (0,c.1,c.2.1,true,c.2.2.2.1,c.2.2.2.2))
  (.opt (qx n 2 0 0 0 ⟨#[]⟩ r.1 r.2.1 r.2.2.1 r.2.2.2.1 0 0 false false [] c.1 c.2.1 c.2.2.1 c.2.2.2.1 c.2.2.2.2) fun t=> .done (t.1,t.2.1,t.2.2.1,t.2.2.2.1,t.2.2.2.2.1,t.2.2.2.2.2))))
def qWy (n:Nat) (w:ByteArray) (c:ByteArray×Int×Bool×Nat×List (List PV)):Tr (Int×ByteArray×Int×Bool×Nat×List (List PV)):=
 (.opt (qAM n w) fun r=>(.ask r.2.2.2
  (.ask (!(w.toList==(⟨#[]⟩:ByteArray).toList))
   (.opt (qx n 1 0 r.1 r.2.1 r.2.2.1 0 0 false false 0 0 false false [] c.1 c.2.1 c.2.2.1 c.2.2.2.1 c.2.2.2.2) fun t=> .done (t.1,t.2.1,t.2.2.1,t.2.2.2.1,t.2.2.2.2.1,t.2.2.2.2.2))
   (qTT n w c))
  (qTT n w c)))
def qRV (w:List UInt8) (q3:PS):Int×PS:=
 if (qi (BR w)).2.2.2=true∧w≠ [] then qEV (nd1 ((qi (BR w)).1,(qi (BR w)).2.1,(qi (BR w)).2.2.1)) q3
 else if (qA9 (BR w)).2.2.2.2=true then qEV (ndC (qA9 (BR w))) q3
 else (0,qM5 q3)
theorem qSl (H:RdOK) {s:List UInt8} (r:List UInt8) (q:PS) (hr:r.length≤1000) (hn:q.2.2.length≤5000):∃n0,∀n,n0≤n→(qWy n (BR (wd r)) (qC5 s q)).run=some (qCe s (qRV (wd r) q)):=by
 obtain ⟨n1,h1⟩:=srv r hr
 obtain ⟨n2,h2⟩:=srp r hr
 obtain ⟨n4,h4⟩:=qLR (s:=s) (ndC (qA9 (BR (wd r)))) q hn ⟨by simp [kd,ndC],by simp [ndC,em];decide⟩
 have place:∃n0,∀n,n0≤n→(qTT n (BR (wd r)) (qC5 s q)).run=some (qCe s (if (qA9 (BR (wd r))).2.2.2.2=true then qEV (ndC (qA9 (BR (wd r)))) q else (0,qM5 q))):=by
  refine ⟨n2+n4,fun n hn=>?_⟩
  cases hp:(qA9 (BR (wd r))).2.2.2.2 with
  |true=>rw [if_pos rfl];exact qA (h2 n (by omega)) (qO (qA2 hp) (qA (h4 n (by omega)) rfl))
  |false=>rw [if_neg (by simp)];exact qA (h2 n (by omega)) (qD (qCz hp) rfl)
 obtain ⟨n5,h5⟩:=place
 by_cases hv:(qi (BR (wd r))).2.2.2=true∧wd r≠ []
 ·obtain ⟨n3,h3⟩:=qLR (s:=s) (nd1 ((qi (BR (wd r))).1,(qi (BR (wd r))).2.1,(qi (BR (wd r))).2.2.1)) q hn ⟨by simp [kd,nd1],qLQ hv.1 (H.v _ (qUQ _) hv.2 hv.1)⟩
  refine ⟨n1+n3,fun n hn=>?_⟩
  unfold qRV
  rw [if_pos hv]
  exact qA (h1 n (by omega)) (qD hv.1 (qD (qCz (by rw [beq_eq_false_iff_ne,qAR,qAH];exact hv.2)) (qA (h3 n (by omega)) rfl)))
 ·refine ⟨n1+n5,fun n hn=>?_⟩
  unfold qRV
  rw [if_neg hv]
  refine qA (h1 n (by omega)) ?_
  by_cases ho:(qi (BR (wd r))).2.2.2=true
  ·have e:wd r= []:=Classical.byContradiction fun e=>hv ⟨ho,e⟩
   exact qD ho (qO (qA2 (by rw [beq_iff_eq,qAR,qAH];exact e)) (h5 n (by omega)))
  ·exact qO (by rw [Bool.eq_false_iff];exact ho) (h5 n (by omega))
theorem qFt (H:RdOK) {s:List UInt8} (hs:s.length≤1000):∀(f:Nat) (j:SJ) (q:PS),As f j q→Iv s q→Ks j q→Ws s j q (sP f j q)
 |0,j,q,ha,_,_=>by cases j<;>simp [As] at ha<;>omega
 |f+1,.row level,q,ha,hi,_=>by
  obtain ⟨ha,hl1,hl5⟩:=ha
  have hr:q.1.length≤1000:=Nat.le_trans (qDX hi.1) hs
  unfold sP
  by_cases hb:q.2.1=true
  ·rw [if_pos hb]
   refine ⟨1,fun n hn=>?_⟩
   obtain ⟨k,rfl,hm⟩:=up1 hn
   exact qD hb rfl
  ·have hb:q.2.1=false:=by rw [Bool.eq_false_iff];exact hb
   rw [if_neg (by rw [hb];simp)]
   by_cases h5:level=5
   ·rw [if_pos h5]
    obtain ⟨n1,h1⟩:=qFt H hs f .one q ⟨by omega,hb⟩ hi trivial
    refine ⟨n1+1,fun n hn=>?_⟩
    obtain ⟨k,rfl,hm⟩:=up1 hn
    exact qO hb (qD (beq_iff_eq.2 h5) (qA (h1 k (by omega)) rfl))
   ·rw [if_neg h5]
    have g:=qFe H f (.row (level+1)) q hr trivial
    have gl:=g.tb
    obtain ⟨n1,h1⟩:=qFt H hs f (.row (level+1)) q ⟨by omega,by omega,by omega⟩ hi trivial
    generalize sP f (.row (level+1)) q=Q at g gl h1⊢
    obtain ⟨x,hx,n2,h2⟩:=qFt H hs f (.rl level Q.1) Q.2 ⟨by omega,by omega,by omega⟩ (hi.go g) trivial
    refine ⟨n1+n2+1,fun n hn=>?_⟩
    obtain ⟨k,rfl,hm⟩:=up1 hn
    have w1:IntKind.i64.wrap (level+1)=level+1:=qT (by omega)
    have h1:=h1 k (by omega)
    rw [←w1] at h1
    have h2:=h2 k (by omega) k (by omega)
    rcases hx with rfl|rfl
    ·exact qO hb (qO (beq_eq_false_iff_ne.2 h5) (qA h1 (qA h2 rfl)))
    ·exact qO hb (qO (beq_eq_false_iff_ne.2 h5) (qA h1 (qA h2 rfl)))
 |f+1,.rl level a,q,ha,hi,_=>by
  obtain ⟨ha,hl1,hl4⟩:=ha
  have hr:q.1.length≤1000:=Nat.le_trans (qDX hi.1) hs
  unfold sP
  by_cases hb:q.2.1=true
  ·rw [if_pos hb]
   refine ⟨.inr (qCe s (a,q)),.inr rfl,1,fun n hn M hM=>?_⟩
   obtain ⟨M,rfl,hM⟩:=up1 hM
   exact qP (qO (qA2 hb) rfl)
  ·have hb:q.2.1=false:=by rw [Bool.eq_false_iff];exact hb
   rw [if_neg (by rw [hb];simp)]
   simp only
   obtain ⟨n1,h1⟩:=qWw hs (level:=level) ⟨hl1,hl4⟩ q hb hi.1
   have o:=qWe level q
   generalize sOp level q=O at h1 o⊢
   by_cases h0:O.1=0
   ·rw [if_pos h0]
    refine ⟨.inl (qCe s (a,O.2)),.inl rfl,n1+1,fun n hn M hM=>?_⟩
    obtain ⟨M,rfl,hM⟩:=up1 hM
    exact qP (qD (qCz hb) (qA (h1 n (by omega)) (qD (beq_iff_eq.2 h0) rfl)))
   ·rw [if_neg h0]
    obtain ⟨o1,o2⟩:=o.2 h0
    have b:=qFe H f (.row (level+1)) O.2 (Nat.le_trans (qB4 o1) hr) trivial
    obtain ⟨n2,h2⟩:=qFt H hs f (.row (level+1)) O.2 ⟨by omega,by omega,by omega⟩ (hi.go o1) trivial
    have ib:=(hi.go o1).go b
    have tbb:=b.tb
    have c:=Go.add (x:=ndK 5 O.1 [a,(sP f (.row (level+1)) O.2).1]) (o1.trans b) (qJp (by simp))
    generalize sP f (.row (level+1)) O.2=Q at h2 b ib tbb c⊢
    obtain ⟨n3,h3⟩:=qLR (s:=s) (ndK 5 O.1 [a,Q.1]) Q.2 (by have:=ib.2;omega) (qJp (by simp))
    have rest:(qEV (ndK 5 O.1 [a,Q.1]) Q.2).2.1=Q.2.1:=rfl
    generalize qEV (ndK 5 O.1 [a,Q.1]) Q.2=C at h3 c rest⊢
    obtain ⟨x,hx,n4,h4⟩:=qFt H hs f (.rl level C.1) C.2 ⟨by rw [rest];omega,hl1,hl4⟩ (hi.go c) trivial
    refine ⟨x,hx,n1+n2+n3+n4+1,fun n hn M hM=>?_⟩
    obtain ⟨M,rfl,hM⟩:=up1 hM
    have w1:IntKind.i64.wrap (level+1)=level+1:=qT (by omega)
    have h2:=h2 n (by omega)
    rw [←w1] at h2
    rw [qU (v':=(level,C.1,qC5 s C.2)) (by
     exact qD (qCz hb) (qA (h1 n (by omega)) (qO (beq_eq_false_iff_ne.2 h0) (qA h2 (qD rfl (qA (h3 n (by omega)) rfl))))))]
    exact h4 n (by omega) M (by omega)
 |f+1,.one,q,ha,hi,_=>by
  obtain ⟨ha,hb⟩:=ha
  have hr:q.1.length≤1000:=Nat.le_trans (qDX hi.1) hs
  unfold sP
  obtain ⟨n1,h1⟩:=qHk hs [45] (by simp) q hi.1
  cases c1:(sIs [45] q).1 with
  |true=>
   rw [if_pos rfl]
   have a:=qFW (by simp) c1
   have al:=qUv (by simp) c1
   have b:=qFe H f (.row 5) (sIs [45] q).2 (Nat.le_trans (qB4 a) hr) trivial
   obtain ⟨n2,h2⟩:=qFt H hs f (.row 5) (sIs [45] q).2 ⟨by omega,by omega,by omega⟩ (hi.go a) trivial
   have ib:=(hi.go a).go b
   simp only
   generalize sP f (.row 5) (sIs [45] q).2=Q at h2 ib⊢
   obtain ⟨n3,h3⟩:=qLR (s:=s) (ndK 4 0 [Q.1]) Q.2 (by have:=ib.2;omega) (qJp (by simp))
   refine ⟨n1+n2+n3+1,fun n hn=>?_⟩
   obtain ⟨k,rfl,hm⟩:=up1 hn
   exact qA (h1 k (by omega)) (qD c1 (qA (h2 k (by omega)) (qD rfl (qA (h3 k (by omega)) rfl))))
  |false=>
   rw [if_neg (by simp)]
   have a:=qLS [45] q
   obtain ⟨n2,h2⟩:=qHk hs [40] (by simp) (sIs [45] q).2 (hi.go a).1
   cases c2:(sIs [40] (sIs [45] q).2).1 with
   |true=>
    rw [if_pos rfl]
    have b:=qFW (by simp) c2
    have al:=qUv (by simp) c2
    have atb:=a.tb
    have g1:=a.trans b
    have b2:=qFe H f (.row 1) (sIs [40] (sIs [45] q).2).2 (Nat.le_trans (qB4 g1) hr) trivial
    obtain ⟨n3,h3⟩:=qFt H hs f (.row 1) (sIs [40] (sIs [45] q).2).2 ⟨by omega,by omega,by omega⟩ (hi.go g1) trivial
    have ib:=(hi.go g1).go b2
    simp only
    generalize sP f (.row 1) (sIs [40] (sIs [45] q).2).2=Q at h3 ib⊢
    obtain ⟨n4,h4⟩:=qHk hs [41] (by simp) Q.2 ib.1
    refine ⟨n1+n2+n3+n4+1,fun n hn=>?_⟩
    obtain ⟨k,rfl,hm⟩:=up1 hn
    refine qA (h1 k (by omega)) (qO c1 (qA (h2 k (by omega)) (qD c2 (qA (h3 k (by omega)) (qA (h4 k (by omega)) ?_)))))
    cases c3:(sIs [41] Q.2).1 with
    |true=>rw [if_pos rfl];exact qO rfl rfl
    |false=>rw [if_neg (by simp)];exact qD rfl rfl
   |false=>
    rw [if_neg (by simp)]
    have e2:(sIs [40] (sIs [45] q).2).2=(tb q.1,q.2):=by
     rw [qSk c2,qSk c1];simp only [qCd]
    rw [e2] at h2
    have t:=qNz q
    have it:=hi.go t
    obtain ⟨n3,h3⟩:=qHk hs [34] (by simp) (tb q.1,q.2) it.1
    simp only
    cases c3:(sIs [34] (tb q.1,q.2)).1 with
    |true=>
     rw [if_pos rfl]
     have b:=qFW (by simp) c3
     have ib:=it.go b
     have eq2:(sIs [34] (tb q.1,q.2)).2.2=q.2:=by obtain ⟨_,e,_⟩:=qMO c3;rw [e]
     obtain ⟨n4,h4⟩:=qVg hs (sIs [34] (tb q.1,q.2)).2 ib.1 (by have:=ib.2;omega)
     refine ⟨n1+n2+n3+n4+1,fun n hn=>?_⟩
     obtain ⟨k,rfl,hm⟩:=up1 hn
     refine qA (h1 k (by omega)) (qO c1 (qA (h2 k (by omega)) (qO c2 (qA (h3 k (by omega)) (qD c3 (qA (h4 k (by omega)) ?_))))))
     rw [qC,eq2]
     all_goals (cases qCJ [] (sIs [34] (tb q.1,q.2)).2.1<;>rfl)
    |false=>
     rw [if_neg (by simp)]
     have e3:(sIs [34] (tb q.1,q.2)).2=(tb q.1,q.2):=by rw [qSk c3];simp only [qCd]
     rw [e3] at h3
     obtain ⟨n4,h4⟩:=qHk hs [35] (by simp) (tb q.1,q.2) it.1
     cases c4:(sIs [35] (tb q.1,q.2)).1 with
     |true=>
      rw [if_pos rfl]
      have b:=qFW (by simp) c4
      have ib:=it.go b
      have eq2:(sIs [35] (tb q.1,q.2)).2.2=q.2:=by obtain ⟨_,e,_⟩:=qMO c4;rw [e]
      obtain ⟨n5,h5⟩:=qWQ hs (sIs [35] (tb q.1,q.2)).2.1 ib.1 q.2.1 q.2.2 (by have:=hi.2;omega)
      have h4:=fun k hk=>h4 k hk
      refine ⟨n1+n2+n3+n4+n5+1,fun n hn=>?_⟩
      obtain ⟨k,rfl,hm⟩:=up1 hn
      have h4:=h4 k (by omega)
      have h5:=h5 k (by omega) k (by omega)
      have e4:qC5 s (sIs [35] (tb q.1,q.2)).2=(BR s,pos s (sIs [35] (tb q.1,q.2)).2.1,q.2.1,q.2.2.length,q.2.2.map qa):=by unfold qC5;rw [eq2]
      rw [e4] at h4
      refine qA (h1 k (by omega)) (qO c1 (qA (h2 k (by omega)) (qO c2 (qA (h3 k (by omega)) (qO c3 (qA h4 (qD c4 (qA h5 ?_))))))))
      cases qTt (sIs [35] (tb q.1,q.2)).2.1 1 5<;>rfl
     |false=>
      rw [if_neg (by simp)]
      have e4:(sIs [35] (tb q.1,q.2)).2=(tb q.1,q.2):=by rw [qSk c4];simp only [qCd]
      rw [e4] at h4
      obtain ⟨n5,h5⟩:=qRS hs (tb q.1,q.2) it.1
      have w:=qSj q
      have iw:=hi.go w
      have htl:=qAD q.1
      obtain ⟨n6,h6⟩:=qHk hs [40] (by simp) (wr (tb q.1),q.2) iw.1
      obtain ⟨n7,h7⟩:=qWR
      obtain ⟨n9,h9⟩:=qSl H (s:=s) (tb q.1) (wr (tb q.1),q.2) (by omega) (by have:=hi.2;simp only;omega)
      have gi:=qLS [40] (wr (tb q.1),q.2)
      cases hf:qGs (wd (tb q.1)) 1 10 with
      |none=>
       simp only
       refine ⟨n1+n2+n3+n4+n5+n6+n7+n9+12+1,fun n hn=>?_⟩
       obtain ⟨k,rfl,hm⟩:=up1 hn
       have lp:=qLd (g:=qd k) (s:=s) (wd (tb q.1)) (wr (tb q.1),q.2) (fun _=>(0,q)) (h7 k (by omega)) (h6 k (by omega)) 10 1 k (by omega) (by omega) (by omega) (fun op h=>by rw [hf] at h;cases h)
       rw [hf] at lp
       exact qA (h1 k (by omega)) (qO c1 (qA (h2 k (by omega)) (qO c2 (qA (h3 k (by omega)) (qO c3 (qA (h4 k (by omega)) (qO c4 (qA (h5 k (by omega)) (qA lp (h9 k (by omega)))))))))))
      |some op=>
       have wne:wd (tb q.1)≠ []:=fun e=>by rw [e,H.f0] at hf;cases hf
       have wlt:=qXH wne
       simp only
       cases c5:(sIs [40] (wr (tb q.1),q.2)).1 with
       |true=>
        rw [if_pos rfl]
        have il:=qUv (by simp) c5
        simp only at il
        obtain ⟨x,hx,n8,h8⟩:=qFt H hs f (.call op []) (sIs [40] (wr (tb q.1),q.2)).2 (.inr (by omega)) (iw.go gi) (.inr (by have:=qB4 (w.tr0 gi);simp only [List.length_nil];omega))
        have hcall:Ev (qIr · op (BR s) (pos s (sIs [40] (wr (tb q.1),q.2)).2.1) (sIs [40] (wr (tb q.1),q.2)).2.2.1 (sIs [40] (wr (tb q.1),q.2)).2.2.2.length ((sIs [40] (wr (tb q.1),q.2)).2.2.2.map qa)) (qCe s (sP f (.call op []) (sIs [40] (wr (tb q.1),q.2)).2)):=by
         refine ⟨n8+1,fun n hn=>?_⟩
         obtain ⟨k,rfl,hm⟩:=up1 hn
         have h8:=h8 k (by omega) k (by omega)
         rcases hx with rfl|⟨rfl,hz⟩
         ·exact qA h8 rfl
         ·refine qA h8 ?_
          show some ((0:Int),qC5 s _)=some (_,qC5 s _)
          rw [hz]
        obtain ⟨n10,h10⟩:=hcall
        refine ⟨n1+n2+n3+n4+n5+n6+n7+n10+12+1,fun n hn=>?_⟩
        obtain ⟨k,rfl,hm⟩:=up1 hn
        have lp:=qLd (g:=qd k) (s:=s) (wd (tb q.1)) (wr (tb q.1),q.2) (fun op=>sP f (.call op []) (sIs [40] (wr (tb q.1),q.2)).2) (h7 k (by omega)) (h6 k (by omega)) 10 1 k (by omega) (by omega) (by omega) (fun op' h _=>by rw [hf] at h;cases h;exact h10 k (by omega))
        rw [hf] at lp
        simp only at lp
        rw [if_pos c5] at lp
        exact qA (h1 k (by omega)) (qO c1 (qA (h2 k (by omega)) (qO c2 (qA (h3 k (by omega)) (qO c3 (qA (h4 k (by omega)) (qO c4 (qA (h5 k (by omega)) (qA lp rfl)))))))))
       |false=>
        rw [if_neg (by simp)]
        obtain ⟨v1,v2⟩:=H.f _ _ hf
        obtain ⟨n9,h9⟩:=qSl H (s:=s) (tb q.1) (sIs [40] (wr (tb q.1),q.2)).2 (by omega) (by have:=(iw.go gi).2;omega)
        have er:qRV (wd (tb q.1)) (sIs [40] (wr (tb q.1),q.2)).2=(0,qM5 (sIs [40] (wr (tb q.1),q.2)).2):=by
         unfold qRV
         rw [if_neg (fun h=>by rw [v1] at h;cases h.1),if_neg (by rw [v2];simp)]
        rw [er] at h9
        refine ⟨n1+n2+n3+n4+n5+n6+n7+n9+12+1,fun n hn=>?_⟩
        obtain ⟨k,rfl,hm⟩:=up1 hn
        have lp:=qLd (g:=qd k) (s:=s) (wd (tb q.1)) (wr (tb q.1),q.2) (fun _=>(0,q)) (h7 k (by omega)) (h6 k (by omega)) 10 1 k (by omega) (by omega) (by omega) (fun op' h h'=>by rw [c5] at h';cases h')
        rw [hf] at lp
        simp only at lp
        rw [if_neg (by rw [c5];simp)] at lp
        exact qA (h1 k (by omega)) (qO c1 (qA (h2 k (by omega)) (qO c2 (qA (h3 k (by omega)) (qO c3 (qA (h4 k (by omega)) (qO c4 (qA (h5 k (by omega)) (qA lp (h9 k (by omega)))))))))))
 |f+1,.call op kids,q,ha,hi,hk=>by
  have hr:q.1.length≤1000:=Nat.le_trans (qDX hi.1) hs
  unfold sP
  by_cases hb:q.2.1=true
  ·rw [if_pos hb]
   refine ⟨.inr (qC5 s q),.inr ⟨rfl,rfl⟩,1,fun n hn M hM=>?_⟩
   obtain ⟨M,rfl,hM⟩:=up1 hM
   exact qP (qO (qA2 hb) rfl)
  ·have hk:kids.length+q.1.length≤1500:=hk.elim (fun h=>absurd h hb) id
   have ha:20*(tb q.1).length+12≤f+1:=ha.elim (fun h=>absurd h.1 hb) id
   have hb:q.2.1=false:=by rw [Bool.eq_false_iff];exact hb
   rw [if_neg (by rw [hb];simp)]
   simp only
   have a:=qFe H f .arg q hr trivial
   obtain ⟨n1,h1⟩:=qFt H hs f .arg q (by show 20*_+10≤f;omega) hi trivial
   generalize sP f .arg q=A at a h1⊢
   have ia:=hi.go a
   have ta:=a.tb
   have ra:=qB4 a
   obtain ⟨n2,h2⟩:=qHk hs [41] (by simp) A.2 ia.1
   have kl:decide (kids.length=(kids.map qq).length∧0<1∧0<8∧(kids.length+([[(PV.i .i64 A.1)]]:List (List PV)).length)*8≤140737488355328∧([[(PV.i .i64 A.1)]]:List (List PV)).all (fun e=>e.length==1)=true)=true:=decide_eq_true ⟨by simp,by decide,by decide,by simp;omega,rfl⟩
   have k1:(kids++ [A.1]).length=kids.length+1:=by simp
   have k2:(kids++ [A.1]).map qq=kids.map qq++ [[PV.i .i64 A.1]]:=by simp [qq]
   cases c1:(sIs [41] A.2).1 with
   |true=>
    rw [if_pos rfl]
    have g:=a.trans (qFW (by simp) c1)
    obtain ⟨n3,h3⟩:=qLR (s:=s) (ndK 6 op (kids++ [A.1])) (sIs [41] A.2).2 (by have:=(hi.go g).2;omega) (qJp (by simp;omega))
    refine ⟨.inl (qCe s (qEV (ndK 6 op (kids++ [A.1])) (sIs [41] A.2).2)),.inl rfl,n1+n2+n3+1,fun n hn M hM=>?_⟩
    obtain ⟨M,rfl,hM⟩:=up1 hM
    have h3:_=some _:=h3 n (by omega)
    simp only [ndK,kd] at h3
    rw [k2] at h3
    exact qP (qD (qCz hb) (qA (h1 n (by omega)) (qD rfl (qD kl (qA (h2 n (by omega)) (qD c1 (qD (decide_eq_true (by simp)) (qA h3 rfl))))))))
   |false=>
    rw [if_neg (by simp)]
    have g:=a.tr0 (qLS [41] A.2)
    have gt:=(qLS [41] A.2).tb
    have i2:=hi.go g
    obtain ⟨n3,h3⟩:=qHk hs [44] (by simp) (sIs [41] A.2).2 i2.1
    cases c2:(sIs [44] (sIs [41] A.2).2).1 with
    |true=>
     rw [if_pos rfl]
     have b:=qFW (by simp) c2
     have bl:=qUv (by simp) c2
     have bs:=qB4 (g.trans b)
     have b1:=b.sum
     have eq3:(sIs [44] (sIs [41] A.2).2).2.2=(sIs [41] A.2).2.2:=by obtain ⟨_,e,_⟩:=qMO c2;rw [e]
     rw [eq3] at b1
     have g0:=qB4 g
     obtain ⟨x,hx,n4,h4⟩:=qFt H hs f (.call op (kids++ [A.1])) (sIs [44] (sIs [41] A.2).2).2 (.inr (by omega)) (i2.go b) (.inr (by rw [k1];omega))
     refine ⟨x,hx,n1+n2+n3+n4+1,fun n hn M hM=>?_⟩
     obtain ⟨M,rfl,hM⟩:=up1 hM
     have h4:=h4 n (by omega) M (by omega)
     rw [k1,k2] at h4
     rw [qU (v':=(op,kids.length+1,kids.map qq++ [[PV.i .i64 A.1]],qC5 s (sIs [44] (sIs [41] A.2).2).2)) (by
      exact qD (qCz hb) (qA (h1 n (by omega)) (qD rfl (qD kl (qA (h2 n (by omega)) (qO c1 (qA (h3 n (by omega)) (qO (qA2 c2) rfl))))))))]
     exact h4
    |false=>
     rw [if_neg (by simp)]
     have b:=qLS [44] (sIs [41] A.2).2
     obtain ⟨x,hx,n4,h4⟩:=qFt H hs f (.call op (kids++ [A.1])) (qM5 (sIs [44] (sIs [41] A.2).2).2) (.inl ⟨rfl,by omega⟩) (i2.go (qRU b)) (.inl rfl)
     refine ⟨x,hx,n1+n2+n3+n4+1,fun n hn M hM=>?_⟩
     obtain ⟨M,rfl,hM⟩:=up1 hM
     have h4:=h4 n (by omega) M (by omega)
     rw [k1,k2] at h4
     rw [qU (v':=(op,kids.length+1,kids.map qq++ [[PV.i .i64 A.1]],qC5 s (qM5 (sIs [44] (sIs [41] A.2).2).2))) (by
      exact qD (qCz hb) (qA (h1 n (by omega)) (qD rfl (qD kl (qA (h2 n (by omega)) (qO c1 (qA (h3 n (by omega)) (qD (qCz c2) rfl))))))))]
     exact h4
 |f+1,.arg,q,ha,hi,_=>by
  replace ha:20*(tb q.1).length+10≤f+1:=ha
  have hr:q.1.length≤1000:=Nat.le_trans (qDX hi.1) hs
  have htl:=qAD q.1
  unfold sP
  simp only
  have t:=qNz q
  have it:=hi.go t
  have w:=qSj q
  have iw:=hi.go w
  obtain ⟨n1,h1⟩:=qTR hs q hi.1
  obtain ⟨n2,h2⟩:=qRS hs (tb q.1,q.2) it.1
  obtain ⟨n3,h3⟩:=srp (tb q.1) (by omega)
  obtain ⟨n4,h4⟩:=qHk hs [58] (by simp) (wr (tb q.1),q.2) iw.1
  have eq2:(sIs [58] (wr (tb q.1),q.2)).2.2=q.2:=by
   cases c:(sIs [58] (wr (tb q.1),q.2)).1 with
   |true=>obtain ⟨_,e,_⟩:=qMO c;rw [e]
   |false=>rw [qSk c]
  by_cases hc:(qA9 (BR (wd (tb q.1)))).2.2.2.2=true∧(sIs [58] (wr (tb q.1),q.2)).1=true
  ·rw [if_pos hc]
   have g:=w.trans (qFW (by simp) hc.2)
   have ig:=hi.go g
   have rg:=qB4 g
   generalize sIs [58] (wr (tb q.1),q.2)=I at*
   have gt:=qNz I.2
   have gw:=qSj I.2
   have il:=qAD I.2.1
   obtain ⟨n5,h5⟩:=qTR hs I.2 ig.1
   obtain ⟨n6,h6⟩:=qRS hs (tb I.2.1,I.2.2) (ig.go gt).1
   obtain ⟨n7,h7⟩:=srp (tb I.2.1) (by omega)
   cases hp:(qA9 (BR (wd (tb I.2.1)))).2.2.2.2 with
   |true=>
    rw [if_pos rfl]
    obtain ⟨n8,h8⟩:=qLR (s:=s) (ndA (qA9 (BR (wd (tb q.1)))) (qA9 (BR (wd (tb I.2.1))))) (wr (tb I.2.1),I.2.2) (by have:=(ig.go gw).2;simp only at this⊢;omega) ⟨by simp [kd,ndA],by simp [ndA,em];decide⟩
    refine ⟨n1+n2+n3+n4+n5+n6+n7+n8+1,fun n hn=>?_⟩
    obtain ⟨k,rfl,hm⟩:=up1 hn
    exact qA (h1 k (by omega)) (qA (h2 k (by omega)) (qA (h3 k (by omega)) (qD hc.1 (qA (h4 k (by omega)) (qD hc.2 (qA (h5 k (by omega)) (qA (h6 k (by omega)) (qA (h7 k (by omega)) (qO (qA2 hp) (qA (h8 k (by omega)) rfl))))))))))
   |false=>
    rw [if_neg (by simp)]
    refine ⟨n1+n2+n3+n4+n5+n6+n7+1,fun n hn=>?_⟩
    obtain ⟨k,rfl,hm⟩:=up1 hn
    exact qA (h1 k (by omega)) (qA (h2 k (by omega)) (qA (h3 k (by omega)) (qD hc.1 (qA (h4 k (by omega)) (qD hc.2 (qA (h5 k (by omega)) (qA (h6 k (by omega)) (qA (h7 k (by omega)) (qD (qCz hp) rfl)))))))))
  ·rw [if_neg hc]
   obtain ⟨n5,h5⟩:=qFt H hs f (.row 1) (tb q.1,q.2) ⟨by simp only [qCd];omega,by omega,by omega⟩ it trivial
   refine ⟨n1+n2+n3+n4+n5+1,fun n hn=>?_⟩
   obtain ⟨k,rfl,hm⟩:=up1 hn
   cases hp:(qA9 (BR (wd (tb q.1)))).2.2.2.2 with
   |true=>
    have ht:(sIs [58] (wr (tb q.1),q.2)).1=false:=by rw [Bool.eq_false_iff];exact fun e=>hc ⟨hp,e⟩
    have h4:=h4 k (by omega)
    have e4:qC5 s (sIs [58] (wr (tb q.1),q.2)).2=(BR s,pos s (sIs [58] (wr (tb q.1),q.2)).2.1,q.2.1,q.2.2.length,q.2.2.map qa):=by unfold qC5;rw [eq2]
    rw [e4] at h4
    exact qA (h1 k (by omega)) (qA (h2 k (by omega)) (qA (h3 k (by omega)) (qD hp (qA h4 (qO ht (qA (h5 k (by omega)) rfl))))))
   |false=>exact qA (h1 k (by omega)) (qA (h2 k (by omega)) (qA (h3 k (by omega)) (qO hp (qA (h5 k (by omega)) rfl))))
theorem qVE {w:List UInt8} (h:w.all wch=true) (hn:w≠ []):(qBQ (BR w)).1=1∨(qBQ (BR w)).1=3:=by
 cases w with
 |nil=>exact absurd rfl hn
 |cons c t=>
  simp only [List.all_cons,Bool.and_eq_true] at h
  have h39:¬(c::t).head?=some 39:=by
   intro e;simp at e;rw [e] at h;exact absurd h.1 (by decide)
  have h35:¬(c::t).head?=some 35:=by
   intro e;simp at e;rw [e] at h;exact absurd h.1 (by decide)
  unfold qBQ
  rw [qAR,if_neg h39]
  split
  ·exact .inr rfl
  ·split
   ·exact .inr rfl
   ·exact .inl rfl
theorem qWz:RdOK where
 v:=fun w h hn ho=>by
  have c:=qVE h hn
  unfold qi at ho⊢
  split at ho
  ·rename_i hc;rw [if_pos hc];exact c
  ·cases ho
 v0:=by
  have:(qi (BR [])).1=0:=by
   have:(qi ⟨#[]⟩).1=0:=by decide+kernel
   exact this
  rw [this];decide
 p0:=by
  have:(qA9 ⟨#[]⟩).2.2.2.2=false:=by decide+kernel
  exact this
 f:=fun w op h=>by
  have t:∀a:Fin 10,(qi (fnS (((a.val:Nat):Int)+1))).2.2.2=false∧(qA9 (fnS (((a.val:Nat):Int)+1))).2.2.2.2=false:=by decide+kernel
  have e:∀(k:Nat) (i:Int),1≤i→i+k≤11→qGs w i k=some op→∃j:Int,1≤j∧j≤10∧(fnS j).toList=w:=by
   intro k
   induction k with
   |zero=>intro i _ _ h;cases h
   |succ k ih=>
    intro i h1 h2 h
    unfold qGs at h
    split at h
    ·rename_i hq;exact ⟨i,h1,by omega,hq⟩
    ·exact ih (i+1) (by omega) (by omega) h
  obtain ⟨j,j1,j2,rfl⟩:=e 10 1 (by omega) (by omega) h
  rw [qKJ]
  have:=t ⟨(j-1).toNat,by omega⟩
  simp only at this
  rwa [show (((j-1).toNat:Nat):Int)+1=j by omega] at this
 f0:=by decide+kernel
 n:=fun n hn=>by
  have c:n=1∨n=2∨n=3∨n=4∨n=5:=by omega
  rcases c with rfl|rfl|rfl|rfl|rfl
  ·exact ⟨[68,73,86,33],by decide+kernel⟩
  ·exact ⟨[84,89,80,69,33],by decide+kernel⟩
  ·exact ⟨[82,69,70,33],by decide+kernel⟩
  ·exact ⟨[79,86,69,82,33],by decide+kernel⟩
  ·exact ⟨[67,89,67,76,69,33],by decide+kernel⟩
def qSm (s:ByteArray):PS:=(pP 4050 (.bin 1 0) (s.toList,false,[])).2
def qBk (s:ByteArray):List Nd×Bool:=
 if qCf s 200=true∧(qSm s).2.1=false∧tb (qSm s).1= []∧qGH (qSm s).2.2=true then ((qSm s).2.2,true) else ([],false)
theorem qLe {s:ByteArray} (h:qCf s 200=true):s.toList.length≤200:=by
 unfold qCf at h
 simp only [Bool.and_eq_true,decide_eq_true_eq] at h
 rw [qAZ];omega
theorem qUU {s:ByteArray} (h:qCf s 200=true):Gd (s.toList,false,[]):=⟨by have:=qLe h;simp only;omega,by simp,fun x hx=>by cases hx⟩
theorem qLf {l:List Nd} (h:∀x∈l,qSA x):∀c∈l,(kd c).length≤140737488351232∧c.2.2.2.2.1.size≤140737488351232:=fun c hc=>by
 have:=h c hc
 exact ⟨by have:=this.1;omega,by have:=this.2;omega⟩
theorem qL8 (s:ByteArray) (hb:s.size≤140737488351232):Ev (qEr · s) ((qBk s).1.map qa,(qBk s).2):=by
 obtain ⟨n1,h1⟩:=qLF s 200 hb
 by_cases hp:qCf s 200=true
 ·have hl:=qLe hp
  have htb:=qAD s.toList
  have hg:=qUU hp
  obtain ⟨n2,h2⟩:=qFs 4050 (.bin 1 0) (s.toList,false,[]) (by show 20*(tb s.toList).length+6≤4050;omega) ⟨by decide,by decide⟩ hg trivial
  have g:=(qFd 4050 (.bin 1 0) (s.toList,false,[]) hg trivial).1
  have e0:(pP 4050 (.bin 1 0) (s.toList,false,[])).2=qSm s:=rfl
  rw [e0] at g
  generalize pP 4050 (.bin 1 0) (s.toList,false,[])=P at h2 e0
  rw [qKJ] at h2
  unfold qBk
  rw [←e0] at g⊢
  obtain ⟨n3,h3⟩:=qIA P.2.1 P.2.2.2.length P.2.2.1 (P.2.2.2.map qa)
  obtain ⟨n4,h4⟩:=qH9 P.2.2.2 (by have:=g.n;omega) (qLf g.s)
  refine ⟨n1+n2+n3+n4+1,fun n hn=>?_⟩
  obtain ⟨k,rfl,hm⟩:=up1 hn
  have h1:=h1 k (by omega)
  rw [hp] at h1
  refine qA h1 (qO rfl (qA (h2 k (by omega)) (qA (h3 k (by omega)) ?_)))
  by_cases hbad:P.2.2.1=true
  ·rw [if_neg (fun h=>by rw [hbad] at h;cases h.2.1)]
   exact qD hbad (qD rfl rfl)
  ·have hbad:P.2.2.1=false:=by rw [Bool.eq_false_iff];exact hbad
   refine qO hbad ?_
   by_cases hr:tb P.2.1= []
   ·refine qO (qA2 (by rw [beq_iff_eq,qAH];show (BR (tb P.2.1)).toList= [];rw [qAR];exact hr)) (qD (decide_eq_true (by simp)) (qA (h4 k (by omega)) (qD (qF _) ?_)))
    cases ho:qGH P.2.2.2 with
    |true=>
     rw [if_pos ⟨hp,hbad,hr,rfl⟩]
     exact qO rfl (qD (decide_eq_true (by simp)) rfl)
    |false=>
     rw [if_neg (fun h=>by cases h.2.2.2)]
     exact qD rfl (qD rfl rfl)
   ·rw [if_neg (fun h=>hr h.2.2.1)]
    exact qD (qCz (by rw [beq_eq_false_iff_ne,qAH];show (BR (tb P.2.1)).toList≠ [];rw [qAR];exact hr)) (qD rfl rfl)
 ·refine ⟨n1+1,fun n hn=>?_⟩
  obtain ⟨k,rfl,hm⟩:=up1 hn
  unfold qBk
  rw [if_neg (fun h=>hp h.1)]
  exact qA (h1 k (by omega)) (qD (qCz (by rw [Bool.eq_false_iff];exact hp)) (qD rfl rfl))
theorem qVF {l:List Nd} (h:∃x∈l,qFc x=false):qGH l=false:=by
 obtain ⟨x,hx,hb⟩:=h
 rw [Bool.eq_false_iff]
 intro ho
 unfold qGH at ho
 simp only [Bool.and_eq_true] at ho
 obtain ⟨i,hi⟩:=List.mem_iff_getElem?.1 hx
 have hil:=(List.getElem?_eq_some_iff.1 hi).1
 have:=(qGG.1 ho.2.1 (i:Int) (by omega) (by omega)).1
 unfold qGr at this
 have e:ndi l (i:Int)=x:=by unfold ndi;simp [hi]
 rw [e,hb] at this
 cases this
theorem qL9 (s:ByteArray) (hb:s.size≤140737488351232):Ev (qEm · s) ((qBk s).1.map qa,(qBk s).2):=by
 obtain ⟨n1,h1⟩:=qKC s hb
 by_cases hp:qCf s 200=true
 ·have hl:=qLe hp
  have hs:s.toList.length≤1000:=by omega
  have htb:=qAD s.toList
  have hg:=qUU hp
  have gi:=(qFd 4050 (.bin 1 0) (s.toList,false,[]) hg trivial).1
  have sim:=(qWM qWz (tb s.toList).length).2.2.1 (s.toList,false,[]) (s.toList,false,[]) 0 4 4050 4050 (by omega) ⟨rfl,rfl,rfl,rfl⟩ rfl (by omega) (by omega) (by omega) (by omega)
  rw [show (5:Int)-((4:Nat):Int)=1 from rfl] at sim
  have iv:Iv s.toList (s.toList,false,[]):=⟨List.suffix_rfl,by simp;omega⟩
  obtain ⟨n2,h2⟩:=qFt qWz hs 4050 (.row 1) (s.toList,false,[]) ⟨by simp only;omega,by omega,by omega⟩ iv trivial
  have g:=qFe qWz 4050 (.row 1) (s.toList,false,[]) hs trivial
  have e0:(pP 4050 (.bin 1 0) (s.toList,false,[])).2=qSm s:=rfl
  generalize pP 4050 (.bin 1 0) (s.toList,false,[])=P at sim e0 gi
  generalize sP 4050 (.row 1) (s.toList,false,[])=Q at sim h2 g
  unfold qBk
  rw [←e0]
  obtain ⟨n3,h3⟩:=qTR hs Q.2 (iv.go g).1
  obtain ⟨n4,h4⟩:=qH8 Q.2.2.2 (qLf (g.sm (fun x hx=>by cases hx)))
  have p0:pos s.toList s.toList=0:=by unfold pos;simp
  simp only [qKJ,p0] at h2 h3
  have g2:=(qUT (iv.go g).1)
  refine ⟨n1+n2+n3+n4+1,fun n hn=>?_⟩
  obtain ⟨k,rfl,hm⟩:=up1 hn
  have h1:=h1 k (by omega)
  rw [hp] at h1
  have h2:=h2 k (by omega)
  have h3:=h3 k (by omega)
  have e1:qCe s.toList Q=(Q.1,s,pos s.toList Q.2.1,Q.2.2.1,Q.2.2.2.length,Q.2.2.2.map qa):=by unfold qCe qC5;rw [qKJ]
  have e2:qC5 s.toList (tb Q.2.1,Q.2.2)=(s,pos s.toList (tb Q.2.1),Q.2.2.1,Q.2.2.2.length,Q.2.2.2.map qa):=by unfold qC5;rw [qKJ]
  rw [e1] at h2
  rw [e2] at h3
  refine qA h1 (qO rfl (qA h2 (qA h3 ?_)))
  rcases sim with ⟨_,hk,_⟩|⟨hbad,hd⟩
  ·obtain ⟨k1,k2,k3,k4⟩:=hk
   rw [k1,k3,k4]
   refine qO k2 ?_
   by_cases hr:tb Q.2.1= []
   ·refine qO (decide_eq_false (show ¬pos s.toList (tb Q.2.1)<(s.size:Int) by rw [hr];unfold pos;simp [qAZ])) (qD (decide_eq_true (by simp)) (qA (h4 k (by omega)) (qD (qF _) ?_)))
    cases ho:qGH Q.2.2.2 with
    |true=>
     rw [if_pos ⟨hp,rfl,hr,rfl⟩]
     exact qO rfl (qD (decide_eq_true (by simp)) rfl)
    |false=>
     rw [if_neg (fun h=>by cases h.2.2.2)]
     exact qD rfl (qD rfl rfl)
   ·rw [if_neg (fun h=>hr h.2.2.1)]
    have hlp:=List.length_pos_iff.2 hr
    have hsl:=qDX g2
    exact qD (decide_eq_true (show pos s.toList (tb Q.2.1)<(s.size:Int) by rw [qAZ] at hsl;unfold pos;rw [qAZ];omega)) (qD rfl rfl)
  ·rw [if_neg (fun h=>by
    rcases hd with hd|hd
    ·rw [hd] at h;cases h.2.1
    ·rw [qVF hd] at h;cases h.2.2.2)]
   exact qD hbad (qD rfl rfl)
 ·refine ⟨n1+1,fun n hn=>?_⟩
  obtain ⟨k,rfl,hm⟩:=up1 hn
  unfold qBk
  rw [if_neg (fun h=>hp h.1)]
  exact qA (h1 k (by omega)) (qD (qCz (by rw [Bool.eq_false_iff];exact hp)) (qD rfl rfl))
theorem qN0 (s:ByteArray):(qBk s).1.length≤60∧∀x∈(qBk s).1,qSA x:=by
 unfold qBk
 split
 ·rename_i h
  have g:=(qFd 4050 (.bin 1 0) (s.toList,false,[]) (qUU h.1) trivial).1
  exact ⟨g.n,g.s⟩
 ·exact ⟨by simp,fun x hx=>by cases hx⟩
theorem qRW:∀(l:List UInt8) (acc:Nat) {u:Nat},l.all qBE=true→Lib.parseUintM (2^64-1) acc l= .ok u→u=qAl acc l
 | [],acc,u,_,h=>by simp only [Lib.parseUintM] at h;cases h;rfl
 |c::r,acc,u,hd,h=>by
  simp only [List.all_cons,Bool.and_eq_true] at hd
  have hc:=hd.1
  simp only [qBE,Bool.and_eq_true,decide_eq_true_eq] at hc
  unfold Lib.parseUintM at h
  rw [qED]
  rw [if_pos hc] at h
  by_cases h1:1844674407370955162≤acc
  ·rw [if_pos h1] at h;cases h
  ·rw [if_neg h1] at h
   by_cases h2:2^64-1<acc*10+(c.toNat-48)
   ·rw [if_pos h2] at h;cases h
   ·rw [if_neg h2] at h
    exact qRW r _ hd.2 h
theorem qUV {p:UInt8→Bool}:∀l:List UInt8,(l.dropWhile p= [])↔l.all p=true
 | []=>by simp
 |c::r=>by
  rw [List.dropWhile_cons,List.all_cons]
  by_cases h:p c=true
  ·rw [if_pos h,h,Bool.true_and];exact qUV r
  ·rw [if_neg h];simp [h]
theorem qUx {p:UInt8→Bool}:∀(l:List UInt8) {a:UInt8} {r:List UInt8},l.dropWhile p=a::r→p a=false
 | [],a,r,h=>by simp at h
 |c::l,a,r,h=>by
  rw [List.dropWhile_cons] at h
  by_cases hc:p c=true
  ·rw [if_pos hc] at h;exact qUx l h
  ·rw [if_neg hc] at h
   cases h
   rw [Bool.eq_false_iff];exact hc
theorem qVk:∀i:Fin 256,((⟨#[48,49,50,51,52,53,54,55,56,57]⟩:ByteArray).data.toList.contains (UInt8.ofNat i.val))=qBE (UInt8.ofNat i.val):=by decide+kernel
theorem qN1 {p:UInt8→Bool} {t:List UInt8}:((t.reverse.dropWhile p).reverse.dropWhile p= [])↔t.all p=true:=by
 rw [qUV]
 constructor
 ·intro h
  cases hx:t.reverse.dropWhile p with
  |nil=>
   rw [qUV] at hx
   rw [List.all_eq_true] at hx⊢
   exact fun x hx'=>hx x (by simpa using hx')
  |cons a r=>
   rw [List.all_eq_true] at h
   have h1:=h a (by rw [hx];simp)
   rw [qUx _ hx] at h1
   cases h1
 ·intro h
  rw [List.all_eq_true] at h⊢
  intro x hx
  rw [List.mem_reverse] at hx
  exact h x (by simpa using (List.dropWhile_suffix p).subset hx)
def qHo (s:List UInt8):List UInt8:=if s.head?=some 45 then s.tail else s
def qLT (s:List UInt8):Int:=if s.head?=some 45 then-((qAl 0 (qHo s):Nat):Int) else ((qAl 0 (qHo s):Nat):Int)
def qSB (s:List UInt8):Bool:=decide (qHo s≠ [])&&(qHo s).all qBE
def qFX (s:List UInt8):Bool:=qSB s&&okV 1 (qLT s) em
theorem qVl (s:List UInt8):(qHo s).length≤s.length:=by unfold qHo;split<;>simp
theorem qT5 (s:List UInt8) (h:s.length≤1000):Ev (qEf · (BR s)) (qSB s):=by
 refine ⟨10,fun n hn=>?_⟩
 obtain ⟨k,rfl⟩:∃k,n=k+5:=⟨n-5,by omega⟩
 have tp:qDw (k+4) (BR s) ⟨#[45]⟩=some (BR (qHo s)):=by
  have hp:qAE (k+2) (BR s) ⟨#[45]⟩=some (List.isPrefixOf [45] s):=by
   have:=qBj (k+1) s [45]
   simp only [qn,qCF,qC,qE,qG,qH,qJ,qK,Option.bind_some,qF,qM,qN] at this
   have e:∀o:Option Bool,(o.bind fun x=>some x)=o:=fun o=>by cases o<;>rfl
   rw [e] at this
   exact this
  have inner:qBZ (k+3) (BR s) ⟨#[45]⟩=some (BR (qHo s)):=by
   by_cases hh:s.head?=some 45
   ·rw [(qFV 45 s).2 hh] at hp
    obtain ⟨t,rfl⟩:=qLb hh
    unfold qHo
    rw [if_pos hh]
    refine qA hp (qD rfl (qD (decide_eq_true ⟨by decide,by rw [qb];show (1:Int)≤_;simp;omega,Int.le_refl _⟩) ?_))
    rw [qC]
    show some ((BR (45::t)).extract 1 ((((BR (45::t)).size:Nat):Int)).toNat)=_
    rw [qGb,qb]
    simp
   ·have e:List.isPrefixOf [45] s=false:=by rw [Bool.eq_false_iff];exact fun e=>hh ((qFV 45 s).1 e)
    rw [e] at hp
    unfold qHo
    rw [if_neg hh]
    exact qA hp (qO rfl rfl)
  exact qA inner rfl
 have tl:=qVl s
 unfold qSB
 generalize qHo s=t at tp tl⊢
 refine qA tp ?_
 by_cases ht:t= []
 ·subst ht
  refine qO (qA2 (by rw [qAR,qAH];rfl)) ?_
  rfl
 ·refine qD (qCz (by rw [beq_eq_false_iff_ne,qAR,qAH];exact ht)) ?_
  have tr:qDx (k+4) (BR t) ⟨#[48,49,50,51,52,53,54,55,56,57]⟩=some (BR (((t.reverse.dropWhile qBE).reverse).dropWhile qBE)):=by
   show zAA (BR t) ⟨#[48,49,50,51,52,53,54,55,56,57]⟩=_
   unfold zAA
   rw [if_pos ⟨by rw [qb];omega,by decide,by decide+kernel⟩]
   unfold Lib.trimS Lib.trimLeftS Lib.trimRightS
   have:(fun c=>(⟨#[48,49,50,51,52,53,54,55,56,57]⟩:ByteArray).data.toList.contains c)=qBE:=funext (qTN qVk)
   rw [this,←Go.Lib.toList_data (BR t),qAR]
   rfl
  refine qA tr ?_
  rw [qC]
  congr 1
  have dt:decide (t≠ [])=true:=decide_eq_true ht
  rw [dt,Bool.true_and,qAR,qAH]
  by_cases ha:t.all qBE=true
  ·rw [qN1.2 ha,ha];rfl
  ·have hx:¬(t.reverse.dropWhile qBE).reverse.dropWhile qBE= []:=fun e=>ha (qN1.1 e)
   rw [beq_eq_false_iff_ne.2 hx,Bool.eq_false_iff.2 ha]
theorem qW0 {n:Int}:okV 1 n em=true↔-1000000000000000≤n∧n≤1000000000000000:=by
 simp [okV,em,qAH]
theorem qPA {s:List UInt8} (h:qSB s=true):(∀n,Lib.parseIntB 64 s= .ok n→n=qLT s)∧(qFX s=true→Lib.parseIntB 64 s= .ok (qLT s)):=by
 have hd:=h
 unfold qSB at hd
 simp only [Bool.and_eq_true,decide_eq_true_eq] at hd
 obtain ⟨h1,h2⟩:=hd
 have p:(2:Nat)^(64-1)=9223372036854775808:=by decide
 have hne:s≠ []:=fun e=>h1 (by rw [e];rfl)
 obtain ⟨c,r,rfl⟩:∃c r,s=c::r:=by
  cases s with
  |nil=>exact absurd rfl hne
  |cons c r=>exact ⟨c,r,rfl⟩
 have c45:(c.toNat=45)↔c=45:=⟨fun e=>UInt8.toNat_inj.1 (show c.toNat=(45:UInt8).toNat from e),fun e=>by rw [e];rfl⟩
 have nt:qHo (c::r)=if c.toNat=43∨c.toNat=45 then r else c::r:=by
  unfold qHo
  by_cases hc:c=45
  ·subst hc;simp
  ·have hc2:¬c.toNat=45:=fun e=>hc (c45.1 e)
   have ht:qHo (c::r)=c::r:=by unfold qHo;rw [if_neg (by simpa using hc)]
   rw [ht] at h2
   simp only [List.all_cons,Bool.and_eq_true,qBE,decide_eq_true_eq] at h2
   rw [if_neg (by simpa using hc),if_neg (by omega)]
 have nv:qLT (c::r)=if c.toNat=45 then-((qAl 0 (qHo (c::r)):Nat):Int) else ((qAl 0 (qHo (c::r)):Nat):Int):=by
  unfold qLT
  by_cases hc:c=45
  ·subst hc;rfl
  ·rw [if_neg (by simpa using hc),if_neg (fun e=>hc (c45.1 e))]
 unfold Lib.parseIntB
 simp only
 rw [←nt]
 unfold Lib.parseUintB
 rw [if_neg h1]
 constructor
 ·intro n hn
  rcases hq:Lib.parseUintM (2^64-1) 0 (qHo (c::r)) with u|_|_
  rotate_left
  ·rw [hq] at hn;cases hn
  ·rw [hq] at hn;cases hn
  ·have hu:=qRW _ 0 h2 hq
   rw [hq] at hn
   simp only at hn
   split at hn
   ·cases hn
   ·split at hn
    ·cases hn
    ·injection hn with hn
     rw [nv,←hu,←hn]
 ·intro ho
  unfold qFX at ho
  simp only [Bool.and_eq_true] at ho
  have hb:=qW0.1 ho.2
  have hv:qAl 0 (qHo (c::r))≤1000000000000000:=by
   rw [nv] at hb
   split at hb<;>omega
  rw [qOt _ 0 h2 (by omega)]
  simp only
  rw [if_neg (by rw [p];omega),if_neg (by rw [p];omega),nv]
def szL:List UInt8→List UInt8
 | []=> []
 |c::t=>if t≠ []∧c=48 then szL t else c::t
theorem qQP:∀l:List UInt8,qAl 0 (szL l)=qAl 0 l
 | []=>rfl
 |c::t=>by
  unfold szL
  split
  ·rename_i h
   rw [qQP t,qED,h.2]
   rfl
  ·rfl
theorem qTU:∀l:List UInt8,(szL l).all qBE=l.all qBE
 | []=>rfl
 |c::t=>by
  unfold szL
  split
  ·rename_i h
   rw [qTU t,List.all_cons,h.2]
   simp [qBE]
  ·rfl
theorem qWf:∀l:List UInt8,l≠ []→szL l≠ []
 | [],h=>absurd rfl h
 |c::t,_=>by
  unfold szL
  split
  ·rename_i h;exact qWf t h.1
  ·simp
theorem qTV:∀l:List UInt8,(szL l).head?=some 48→(szL l).length=1
 | [],h=>by cases h
 |c::t,h=>by
  unfold szL at h⊢
  split at h
  ·rename_i hc;rw [if_pos hc];exact qTV t h
  ·rename_i hc
   rw [if_neg hc]
   have h48:c=48:=by simpa using h
   have:t= []:=Classical.byContradiction fun e=>hc ⟨e,h48⟩
   rw [this];rfl
theorem qVm {l:List UInt8} (h:l≠ []):qGj (szL l)=l.all qBE:=by
 unfold qGj
 rw [qTU]
 have h1:(szL l== [])=false:=beq_eq_false_iff_ne.2 (qWf l h)
 rw [h1]
 by_cases e:(szL l).head?=some 48
 ·rw [qTV l e];simp
 ·rw [beq_eq_false_iff_ne.2 e];simp
theorem qT6:∀(l:List UInt8) (acc:Nat),acc*10^l.length≤qAl acc l
 | [],acc=>by rw [qHc];simp
 |c::r,acc=>by
  have:=qT6 r (acc*10+(c.toNat-48))
  rw [qED,List.length_cons,Nat.pow_succ]
  refine Nat.le_trans ?_ this
  rw [show acc*(10^r.length*10)=acc*10*10^r.length by rw [Nat.mul_comm (10^r.length) 10,Nat.mul_assoc]]
  exact Nat.mul_le_mul_right _ (by omega)
theorem qW1 {l:List UInt8} (hd:l.all qBE=true) (h:16<(szL l).length):10000000000000000≤qAl 0 l:=by
 rw [←qQP]
 rw [←qTU] at hd
 have hh:=qTV l
 cases hz:szL l with
 |nil=>rw [hz] at h;simp at h
 |cons c r=>
  rw [hz] at h hd hh
  simp only [List.length_cons] at h
  have hc:¬c=48:=fun e=>by
   have:=hh (by rw [e];rfl)
   simp only [List.length_cons] at this
   omega
  simp only [List.all_cons,Bool.and_eq_true,qBE,decide_eq_true_eq] at hd
  have hc2:¬c.toNat=48:=fun e=>hc (UInt8.toNat_inj.1 (show c.toNat=(48:UInt8).toNat from e))
  rw [qED]
  have a:=qT6 r (0*10+(c.toNat-48))
  have p:10^16≤10^r.length:=Nat.pow_le_pow_right (by decide) (by omega)
  have p16:(10:Nat)^16=10000000000000000:=by decide
  have:1*10^r.length≤(0*10+(c.toNat-48))*10^r.length:=Nat.mul_le_mul_right _ (by omega)
  omega
theorem qN2 (n:Nat) (neg:Bool) (a b:Int) (e:ByteArray):∀(l:List UInt8) (M:Nat),l.length≤1000→l.length+1≤M→zC (qBs n) M (BR l,neg,a,b,e)=some (BR (szL l),neg,a,b,e)
 |l,0,_,h=>by omega
 | [],M+1,_,_=>qP (qO (decide_eq_false (show ¬((BR []).size:Int)>1 by rw [qb];decide)) rfl)
 |c::t,M+1,hl,h=>by
  simp only [List.length_cons] at h hl
  unfold szL
  by_cases ht:t= []
  ·rw [if_neg (fun h=>h.1 ht)]
   subst ht
   exact qP (qO (decide_eq_false (show ¬((BR [c]).size:Int)>1 by rw [qb];simp)) rfl)
  ·have hpos:=List.length_pos_iff.2 ht
   have g0:decide (((BR (c::t)).size:Int)>1)=true:=decide_eq_true (by rw [qb];simp only [List.length_cons];omega)
   have g1:(BR (c::t)).toList[((0:Int)).toNat]?=some c:=by rw [qAR];rfl
   by_cases hc:c=48
   ·rw [if_pos ⟨ht,hc⟩]
    subst hc
    rw [qU (v':=(BR t,neg,a,b,e)) (by
     refine qD g0 (qD rfl (qA g1 (qD rfl (qD (decide_eq_true ⟨by decide,by rw [qb];simp only [List.length_cons];omega,Int.le_refl _⟩) ?_))))
     rw [qC]
     show some (Sum.inl ((BR (48::t)).extract 1 ((((BR (48::t)).size:Nat):Int)).toNat,neg,a,b,e))=_
     rw [qGb,qb]
     simp)]
    exact qN2 n neg a b e t M (by omega) (by omega)
   ·rw [if_neg (fun h=>hc h.2)]
    refine qP (qD g0 (qD rfl (qA g1 (qO ?_ rfl))))
    rw [beq_eq_false_iff_ne]
    intro e
    exact hc (UInt8.toNat_inj.1 (show c.toNat=48 by omega))
theorem qW2 {l:List UInt8} (h:l≠ []):l1I (szL l) 16=if (szL l).length≤16∧l.all qBE=true then (((qAl 0 l:Nat):Int),true) else (0,false):=by
 unfold l1I
 rw [qVm h,qQP]
 by_cases hh:(szL l).length≤16∧l.all qBE=true
 ·rw [if_pos hh,if_pos ⟨by have:=hh.1;omega,hh.2⟩]
 ·rw [if_neg hh,if_neg (fun e=>hh ⟨by have:=e.1;omega,e.2⟩)]
theorem qT7 (neg:Bool) (t:List UInt8) (ht:t≠ []) (hl:t.length≤1000):∃r:Int×Int×ByteArray×Bool,(r.2.2.2=(t.all qBE&&okV 1 (if neg=true then-((qAl 0 t:Nat):Int) else ((qAl 0 t:Nat):Int)) em))∧(r.2.2.2=true→r=(1,(if neg=true then-((qAl 0 t:Nat):Int) else ((qAl 0 t:Nat):Int)),em,true))∧
  ∃n0,∀n,n0≤n→∃v:ByteArray×Bool×Int×Int×ByteArray,zC (qBs n) n (BR t,neg,0,0,⟨#[]⟩)=some v∧
   (Tr.opt (qz n v.1 16) fun r221=>(.ask (v.2.1)
    (.ask (r221.2) (.opt (qY n 1 (IntKind.i64.wrap (0-r221.1)) ⟨#[]⟩) fun r222=>(.done ((1:Int),(IntKind.i64.wrap (0-r221.1)),(⟨#[]⟩:ByteArray),r222))) (.done ((1:Int),(IntKind.i64.wrap (0-r221.1)),(⟨#[]⟩:ByteArray),false)))
    (.ask (r221.2) (.opt (qY n 1 r221.1 ⟨#[]⟩) fun r223=>(.done ((1:Int),r221.1,(⟨#[]⟩:ByteArray),r223))) (.done ((1:Int),r221.1,(⟨#[]⟩:ByteArray),false))))).run=some r:=by
 have hi:=qEU (BR (szL t)) 16 (by decide)
 rw [qAR,qW2 ht] at hi
 obtain ⟨n1,h1⟩:=hi
 by_cases hh:(szL t).length≤16∧t.all qBE=true
 ·have hv:qAl 0 t<10^(0+(szL t).length):=by
   have:=qTE (szL t) 0 0 (by rw [qTU];exact hh.2) (by decide)
   rwa [qQP] at this
  have hp:10^(0+(szL t).length)≤10^16:=Nat.pow_le_pow_right (by decide) (by omega)
  have p16:(10:Nat)^16=10000000000000000:=by decide
  have w1:IntKind.i64.wrap (0-((qAl 0 t:Nat):Int))= -((qAl 0 t:Nat):Int):=by rw [qT (by omega)];omega
  cases neg with
  |true=>
   obtain ⟨n2,h2⟩:=qAI 1 (-((qAl 0 t:Nat):Int)) em (by decide)
   refine ⟨(1,-((qAl 0 t:Nat):Int),em,okV 1 (-((qAl 0 t:Nat):Int)) em),by rw [hh.2];simp,fun e=>?_,n1+n2+t.length+1,fun n hn=>⟨_,qN2 n true 0 0 _ t n hl (by omega),?_⟩⟩
   ·simp only at e;rw [e];rfl
   ·have h1:=h1 n (by omega)
    rw [if_pos hh] at h1
    have h2:=h2 n (by omega)
    rw [←w1] at h2
    refine qA h1 (qD rfl (qD rfl (qA h2 ?_)))
    rw [qC,w1];rfl
  |false=>
   obtain ⟨n2,h2⟩:=qAI 1 ((qAl 0 t:Nat):Int) em (by decide)
   refine ⟨(1,((qAl 0 t:Nat):Int),em,okV 1 ((qAl 0 t:Nat):Int) em),by rw [hh.2];simp,fun e=>?_,n1+n2+t.length+1,fun n hn=>⟨_,qN2 n false 0 0 _ t n hl (by omega),?_⟩⟩
   ·simp only at e;rw [e];rfl
   ·have h1:=h1 n (by omega)
    rw [if_pos hh] at h1
    exact qA h1 (qO rfl (qD rfl (qA (h2 n (by omega)) rfl)))
 ·have hno:(t.all qBE&&okV 1 (if neg=true then-((qAl 0 t:Nat):Int) else ((qAl 0 t:Nat):Int)) em)=false:=by
   rw [Bool.eq_false_iff]
   intro e
   simp only [Bool.and_eq_true] at e
   have hb:=qW0.1 e.2
   have:16<(szL t).length:=by
    have:¬(szL t).length≤16:=fun h=>hh ⟨h,e.1⟩
    omega
   have:=qW1 e.1 this
   split at hb<;>omega
  cases neg with
  |true=>
   refine ⟨(1,IntKind.i64.wrap (0-0),em,false),hno.symm,(fun e=>by cases e),n1+t.length+1,fun n hn=>⟨_,qN2 n true 0 0 _ t n hl (by omega),?_⟩⟩
   have h1:=h1 n (by omega)
   rw [if_neg hh] at h1
   exact qA h1 (qD rfl (qO rfl rfl))
  |false=>
   refine ⟨(1,0,em,false),hno.symm,(fun e=>by cases e),n1+t.length+1,fun n hn=>⟨_,qN2 n false 0 0 _ t n hl (by omega),?_⟩⟩
   have h1:=h1 n (by omega)
   rw [if_neg hh] at h1
   exact qA h1 (qO rfl (qO rfl rfl))
theorem qT8 (s:List UInt8) (hs:s≠ []) (hl:s.length≤1000):∃r:Int×Int×ByteArray×Bool,r.2.2.2=qFX s∧(qFX s=true→r=(1,qLT s,em,true))∧Ev (qGU · (BR s)) r:=by
 obtain ⟨c,t,rfl⟩:∃c t,s=c::t:=by
  cases s with
  |nil=>exact absurd rfl hs
  |cons c t=>exact ⟨c,t,rfl⟩
 simp only [List.length_cons] at hl
 have g0:decide (((BR (c::t)).size:Int)>0)=true:=decide_eq_true (by rw [qb];simp only [List.length_cons];omega)
 have g1:(BR (c::t)).toList[((0:Int)).toNat]?=some c:=by rw [qAR];rfl
 by_cases hc:c=45
 ·subst hc
  have ext:(BR (45::t)).extract ((1:Int)).toNat ((((BR (45::t)).size:Nat):Int)).toNat=BR t:=by rw [qGb,qb];simp
  have g2:decide (0≤(1:Int)∧(1:Int)≤((BR (45::t)).size:Int)∧((BR (45::t)).size:Int)≤((BR (45::t)).size:Int))=true:=decide_eq_true ⟨by decide,by rw [qb];simp only [List.length_cons];omega,Int.le_refl _⟩
  have nt:qHo (45::t)=t:=rfl
  have nv:qLT (45::t)= -((qAl 0 t:Nat):Int):=rfl
  by_cases ht:t= []
  ·subst ht
   refine ⟨(0,0,⟨#[]⟩,false),by decide+kernel,(fun e=>by revert e;decide+kernel),1,fun n hn=>?_⟩
   obtain ⟨k,rfl,hm⟩:=up1 hn
   exact qD g0 (qD rfl (qA g1 (qD rfl (qD g2 (qD (by rw [ext,qAR,qAH];rfl) rfl)))))
  ·obtain ⟨r,r1,r2,n0,h0⟩:=qT7 true t ht (by omega)
   have e:qFX (45::t)=(t.all qBE&&okV 1 (-((qAl 0 t:Nat):Int)) em):=by
    unfold qFX qSB
    rw [nt,nv,decide_eq_true ht,Bool.true_and]
   rw [if_pos rfl] at r1 r2
   refine ⟨r,by rw [e];exact r1,fun h=>by rw [nv];exact r2 (by rw [r1,←e];exact h),n0+1,fun n hn=>?_⟩
   obtain ⟨k,rfl,hm⟩:=up1 hn
   obtain ⟨v,lp,fin⟩:=h0 k (by omega)
   rw [←ext] at lp
   exact qD g0 (qD rfl (qA g1 (qD rfl (qD g2 (qO (by rw [ext,beq_eq_false_iff_ne,qAR,qAH];exact ht) (qA lp fin))))))
 ·have c45:((c.toNat:Int)==45)=false:=by
   rw [beq_eq_false_iff_ne];intro e
   exact hc (UInt8.toNat_inj.1 (show c.toNat=45 by omega))
  have hh:¬(c::t).head?=some 45:=by simpa using hc
  have nt:qHo (c::t)=c::t:=by unfold qHo;rw [if_neg hh]
  have nv:qLT (c::t)=((qAl 0 (c::t):Nat):Int):=by unfold qLT;rw [if_neg hh,nt]
  obtain ⟨r,r1,r2,n0,h0⟩:=qT7 false (c::t) (by simp) (by simp only [List.length_cons];omega)
  have e:qFX (c::t)=((c::t).all qBE&&okV 1 (((qAl 0 (c::t):Nat):Int)) em):=by
   unfold qFX qSB
   rw [nt,nv,decide_eq_true (by simp),Bool.true_and]
  rw [if_neg (by simp)] at r1 r2
  refine ⟨r,by rw [e];exact r1,fun h=>by rw [nv];exact r2 (by rw [r1,←e];exact h),n0+1,fun n hn=>?_⟩
  obtain ⟨k,rfl,hm⟩:=up1 hn
  obtain ⟨v,lp,fin⟩:=h0 k (by omega)
  rw [←c45] at lp
  exact qD g0 (qD rfl (qA g1 (qO c45 (qO (by rw [beq_eq_false_iff_ne,qAR,qAH];simp) (qA lp fin)))))
def qFu (s:ByteArray):ByteArray×Bool:=
 if qCf s 200=false then (⟨#[]⟩,false) else if s.toList= [] then (⟨#[]⟩,true) else
 if s.toList.head?=some 61 then (if (qBk (BR s.toList.tail)).2=true∧(qDO (qBk (BR s.toList.tail)).1).toList≠ []∧(qDO (qBk (BR s.toList.tail)).1).size<200 then (⟨#[61]⟩++qDO (qBk (BR s.toList.tail)).1,true) else (⟨#[]⟩,false)) else
 if qFX s.toList=true then (qBK (qLT s.toList),true) else
 if (qi s).2.2.2=true then (s,true) else
 if s.size=200 then (⟨#[]⟩,false) else (⟨#[39]⟩++s,true)
theorem qUW (t:ByteArray):Ev (qBr · ((qBk t).1.map qa)) (qDO (qBk t).1):=qL6 _ (by have:=(qN0 t).1;omega) (qLf (qN0 t).2)
theorem qUX (t:ByteArray):Ev (qBy · ((qBk t).1.map qa)) (qDO (qBk t).1):=qL7 _ (by have:=(qN0 t).1;omega) (qLf (qN0 t).2)
theorem qRX (l:List Nd):(qDO l).size≤200:=by
 unfold qDO
 split
 ·split
  ·decide
  ·omega
 ·decide
theorem qFf {s:ByteArray} (h:s.toList≠ []):(s.toList==(⟨#[]⟩:ByteArray).toList)=false:=by rw [qAH];exact beq_eq_false_iff_ne.2 h
theorem qRY {s:ByteArray} (h:s.toList= []):(s.toList==(⟨#[]⟩:ByteArray).toList)=true:=by rw [qAH];exact beq_iff_eq.2 h
theorem qT9 {s:ByteArray} (h:(qi s).2.2.2=true):okV (qi s).1 (qi s).2.1 (qi s).2.2.1=true∧(qCI (qi s).1 (qi s).2.1 (qi s).2.2.1)=s:=by
 unfold qi at h⊢
 split at h
 ·rename_i hc
  rw [if_pos hc]
  exact ⟨hc.1,qFT hc.2⟩
 ·cases h
theorem qXM {s:ByteArray} (h:qCf s 200=true):okV 2 0 s=true:=by
 unfold okV
 rw [if_pos rfl,h]
 rfl
theorem qJq {s:ByteArray} (h:qCf s 200=true):s.size≤200:=by have:=qLe h;rw [qAZ] at this;exact this
theorem qVn (s:ByteArray):(qCI 2 0 s).size=s.size+1:=by
 have e:qCI 2 0 s=⟨#[39]⟩++s:=rfl
 rw [e,ByteArray.size_append]
 show 1+s.size=_
 omega
theorem qVG {s:ByteArray} (h:(qi s).2.2.2=true):(qi s).2.2.1.size≤1000:=by
 obtain ⟨h1,h2⟩:=qT9 h
 unfold okV at h1
 split at h1
 ·simp only [Bool.and_eq_true] at h1
  have:=qJq h1.2;omega
 ·simp only [Bool.and_eq_true,beq_iff_eq] at h1
  have:=congrArg List.length h1.1
  rw [qAZ] at this
  simp only [List.length_nil] at this
  omega
theorem qQC (s:ByteArray) (hb:s.size≤140737488355328):Ev (qFC · s) (qFu s):=by
 obtain ⟨n1,h1⟩:=qI0 s hb
 unfold qFu
 cases hp:qCf s 200 with
 |false=>
  rw [if_pos rfl]
  refine ⟨n1+1,fun n hn=>?_⟩
  obtain ⟨k,rfl,hm⟩:=up1 hn
  exact qA (h1 k (by omega)) (qD (qCz hp) rfl)
 |true=>
  rw [if_neg (by simp)]
  have hsz:=qJq hp
  by_cases h0:s.toList= []
  ·rw [if_pos h0]
   refine ⟨n1+1,fun n hn=>?_⟩
   obtain ⟨k,rfl,hm⟩:=up1 hn
   exact qA (h1 k (by omega)) (qO (qA2 hp) (qD (qRY h0) rfl))
  ·rw [if_neg h0]
   obtain ⟨c,t,hct⟩:∃c t,s.toList=c::t:=by
    cases h:s.toList with
    |nil=>exact absurd h h0
    |cons c t=>exact ⟨c,t,rfl⟩
   have g1:s.toList[((0:Int)).toNat]?=some c:=by rw [hct];rfl
   have hl:s.size=t.length+1:=by rw [←qAZ,hct];rfl
   by_cases h61:s.toList.head?=some 61
   ·rw [if_pos h61]
    have hc:c=61:=by rw [hct] at h61;simpa using h61
    subst hc
    have ext:s.extract ((1:Int)).toNat (((s.size:Nat):Int)).toNat=BR s.toList.tail:=by
     conv=>lhs;rw [←qKJ s]
     rw [qGb,qb,hct]
     simp
    obtain ⟨n2,h2⟩:=qL9 (BR s.toList.tail) (by rw [qb,hct];simp;omega)
    obtain ⟨n3,h3⟩:=qUW (BR s.toList.tail)
    rw [←ext] at h2 h3⊢
    have fz:=qRX (qBk (s.extract ((1:Int)).toNat (((s.size:Nat):Int)).toNat)).1
    have w1:IntKind.i64.wrap (((qDO (qBk (s.extract ((1:Int)).toNat (((s.size:Nat):Int)).toNat)).1).size:Int)+1)=((qDO (qBk (s.extract ((1:Int)).toNat (((s.size:Nat):Int)).toNat)).1).size:Int)+1:=qT (by omega)
    refine ⟨n1+n2+n3+1,fun n hn=>?_⟩
    obtain ⟨k,rfl,hm⟩:=up1 hn
    refine qA (h1 k (by omega)) (qO (qA2 hp) (qO (qFf h0) (qD rfl (qA g1 (qD rfl (qD (decide_eq_true ⟨by decide,by omega,Int.le_refl _⟩) (qA (h2 k (by omega)) (qA (h3 k (by omega)) ?_))))))))
    by_cases hr:(qBk (s.extract ((1:Int)).toNat (((s.size:Nat):Int)).toNat)).2=true
    ·refine qO (qA2 hr) ?_
     by_cases he:(qDO (qBk (s.extract ((1:Int)).toNat (((s.size:Nat):Int)).toNat)).1).toList= []
     ·rw [if_neg (fun h=>h.2.1 he)]
      exact qD (qRY he) rfl
     ·refine qO (qFf he) ?_
      by_cases hz:(qDO (qBk (s.extract ((1:Int)).toNat (((s.size:Nat):Int)).toNat)).1).size<200
      ·rw [if_pos ⟨hr,he,hz⟩]
       exact qO (decide_eq_false (by rw [w1];omega)) (qD (decide_eq_true (by show 1+(qDO (qBk (s.extract ((1:Int)).toNat (((s.size:Nat):Int)).toNat)).1).size≤9223372036854775807;omega)) rfl)
      ·rw [if_neg (fun h=>hz h.2.2)]
       exact qD (decide_eq_true (by rw [w1];omega)) rfl
    ·rw [if_neg (fun h=>hr h.1)]
     exact qD (qCz (by rw [Bool.eq_false_iff];exact hr)) rfl
   ·rw [if_neg h61]
    have hc:((c.toNat:Int)==61)=false:=by
     rw [beq_eq_false_iff_ne];intro e
     refine h61 ?_
     rw [hct,show c=61 from UInt8.toNat_inj.1 (show c.toNat=61 by omega)];rfl
    obtain ⟨r,r1,r2,n2,h2⟩:=qT8 s.toList h0 (by rw [qAZ];omega)
    rw [qKJ] at h2
    obtain ⟨n3,h3⟩:=qH7 s (by omega)
    cases hn:qFX s.toList with
    |true=>
     rw [if_pos rfl]
     have er:=r2 hn
     subst er
     have hok:okV 1 (qLT s.toList) em=true:=by unfold qFX at hn;simp only [Bool.and_eq_true] at hn;exact hn.2
     obtain ⟨n4,h4⟩:=qDl 1 (qLT s.toList) em (by decide)
     rw [if_pos hok] at h4
     refine ⟨n1+n2+n4+1,fun n hn=>?_⟩
     obtain ⟨k,rfl,hm⟩:=up1 hn
     exact qA (h1 k (by omega)) (qO (qA2 hp) (qO (qFf h0) (qD rfl (qA g1 (qO hc (qA (h2 k (by omega)) (qD rfl (qA (h4 k (by omega)) rfl))))))))
    |false=>
     rw [if_neg (by simp)]
     have rf:r.2.2.2=false:=by rw [r1];exact hn
     by_cases hv:(qi s).2.2.2=true
     ·rw [if_pos hv]
      obtain ⟨v1,v2⟩:=qT9 hv
      obtain ⟨n4,h4⟩:=qDl (qi s).1 (qi s).2.1 (qi s).2.2.1 (by have:=qVG hv;omega)
      rw [if_pos v1,v2] at h4
      refine ⟨n1+n2+n3+n4+1,fun n hn=>?_⟩
      obtain ⟨k,rfl,hm⟩:=up1 hn
      exact qA (h1 k (by omega)) (qO (qA2 hp) (qO (qFf h0) (qD rfl (qA g1 (qO hc (qA (h2 k (by omega)) (qO rf (qA (h3 k (by omega)) (qO (qA2 hv) (qA (h4 k (by omega)) (qO (decide_eq_false (by omega)) rfl)))))))))))
     ·rw [if_neg hv]
      obtain ⟨n4,h4⟩:=qDl 2 0 s (by omega)
      rw [if_pos (qXM hp)] at h4
      have vz:=qVn s
      refine ⟨n1+n2+n3+n4+1,fun n hn=>?_⟩
      obtain ⟨k,rfl,hm⟩:=up1 hn
      refine qA (h1 k (by omega)) (qO (qA2 hp) (qO (qFf h0) (qD rfl (qA g1 (qO hc (qA (h2 k (by omega)) (qO rf (qA (h3 k (by omega)) (qD (qCz (by rw [Bool.eq_false_iff];exact hv)) (qA (h4 k (by omega)) ?_))))))))))
      by_cases hz:s.size=200
      ·rw [if_pos hz]
       exact qD (decide_eq_true (by omega)) rfl
      ·rw [if_neg hz]
       exact qO (decide_eq_false (by omega)) rfl
theorem qUA (X:ByteArray):Ev (qGW · ((qBk X).1.map qa)) (⟨#[61]⟩++qDO (qBk X).1,decide ((qDO (qBk X).1).toList≠ [])&&decide ((qDO (qBk X).1).size<200)):=by
 obtain ⟨n1,h1⟩:=qUX X
 have fz:=qRX (qBk X).1
 refine ⟨n1+1,fun n hn=>?_⟩
 obtain ⟨k,rfl,hm⟩:=up1 hn
 refine qA (h1 k (by omega)) (qD (decide_eq_true (by show 1+(qDO (qBk X).1).size≤9223372036854775807;omega)) ?_)
 by_cases he:(qDO (qBk X).1).toList= []
 ·refine qO (qA2 (qRY he)) ?_
  rw [qC,decide_eq_false (fun h=>h he),Bool.false_and]
 ·refine qD (qCz (qFf he)) ?_
  rw [qC,decide_eq_true he,Bool.true_and]
  have e:decide (((qDO (qBk X).1).size:Int)<200)=decide ((qDO (qBk X).1).size<200):=by rw [decide_eq_decide];omega
  exact congrArg (fun b:Bool=>some ((⟨#[61]⟩:ByteArray)++qDO (qBk X).1,b)) e
theorem qQD (s:ByteArray) (hb:s.size≤140737488355328):Ev (qHW · s) (qFu s):=by
 obtain ⟨n1,h1⟩:=qKD s 200 hb
 unfold qFu
 cases hp:qCf s 200 with
 |false=>
  rw [if_pos rfl]
  have h0:s.toList≠ []:=fun e=>by
   have:qCf s 200=true:=by
    unfold qCf
    have hz:s.size=0:=by rw [←qAZ,e];rfl
    rw [e,hz];rfl
   rw [hp] at this;cases this
  refine ⟨n1+1,fun n hn=>?_⟩
  obtain ⟨k,rfl,hm⟩:=up1 hn
  refine qA (h1 k (by omega)) (qD (qCz hp) ?_)
  rw [qC,qFf h0]
 |true=>
  rw [if_neg (by simp)]
  have hsz:=qJq hp
  by_cases h0:s.toList= []
  ·rw [if_pos h0]
   refine ⟨n1+1,fun n hn=>?_⟩
   obtain ⟨k,rfl,hm⟩:=up1 hn
   refine qA (h1 k (by omega)) (qO (qA2 hp) (qD (qRY h0) ?_))
   rw [qC,qRY h0]
  ·rw [if_neg h0]
   obtain ⟨n2,h2⟩:=qGp s 61
   by_cases h61:s.toList.head?=some 61
   ·rw [if_pos h61]
    rw [if_pos h61] at h2
    obtain ⟨n3,h3⟩:=qL8 (BR s.toList.tail) (by rw [qb,List.length_tail,qAZ];omega)
    obtain ⟨n4,h4⟩:=qUA (BR s.toList.tail)
    change ∀n,n2≤n→qAL n s ⟨#[61]⟩=some (BR s.toList.tail,true) at h2
    generalize BR s.toList.tail=X at h2 h3 h4⊢
    refine ⟨n1+n2+n3+n4+1,fun n hn=>?_⟩
    obtain ⟨k,rfl,hm⟩:=up1 hn
    have h4:=h4 k (by omega)
    refine qA (h1 k (by omega)) (qO (qA2 hp) (qO (qFf h0) (qA (h2 k (by omega)) (qD rfl (qA (h3 k (by omega)) (qA h4 ?_))))))
    by_cases hr:(qBk X).2=true
    ·refine qO (qA2 hr) ?_
     by_cases he:(qDO (qBk X).1).toList≠ []∧(qDO (qBk X).1).size<200
     ·rw [if_pos ⟨hr,he⟩]
      exact qO (qA2 (by simp only;rw [decide_eq_true he.1,decide_eq_true he.2];rfl)) rfl
     ·rw [if_neg (fun h=>he h.2)]
      exact qD (qCz (by simp only;rw [Bool.eq_false_iff];intro e;simp only [Bool.and_eq_true,decide_eq_true_eq] at e;exact he e)) rfl
    ·rw [if_neg (fun h=>hr h.1)]
     exact qD (qCz (by rw [Bool.eq_false_iff];exact hr)) rfl
   ·rw [if_neg h61]
    rw [if_neg h61] at h2
    obtain ⟨n3,h3⟩:=qH6 s (by omega)
    obtain ⟨n4,h4⟩:=qT5 s.toList (by rw [qAZ];omega)
    rw [qKJ] at h4
    have fin:∀k,n3≤k→(Tr.opt (qe k s) fun r=>(.ask (r.2.2.2) (.done (s,true)) (.ask (((s.size:Int)==(200:Int))) (.done ((⟨#[]⟩:ByteArray),false)) (.ask (decide ((⟨#[39]⟩:ByteArray).size+s.size≤9223372036854775807)) (.done (((⟨#[39]⟩:ByteArray)++s),true)) .fail)))).run=some (if (qi s).2.2.2=true then (s,true) else if s.size=200 then ((⟨#[]⟩:ByteArray),false) else (⟨#[39]⟩++s,true)):=fun k hk=>by
     refine qA (h3 k hk) ?_
     by_cases hv:(qi s).2.2.2=true
     ·rw [if_pos hv];exact qD hv rfl
     ·rw [if_neg hv]
      refine qO (by rw [Bool.eq_false_iff];exact hv) ?_
      by_cases hz:s.size=200
      ·rw [if_pos hz];exact qD (beq_iff_eq.2 (by omega)) rfl
      ·rw [if_neg hz]
       exact qO (beq_eq_false_iff_ne.2 (by omega)) (qD (decide_eq_true (by show 1+s.size≤9223372036854775807;omega)) rfl)
    have hpi:∀k,qA6 (k+1) s 10 64=zL s 10 64:=fun k=>rfl
    have hL:zL s 10 64=(match Lib.parseIntB 64 s.toList with
     | .ok v=>some (.inl v)
     | .range=>some (.inr (Lib.intSat 64 s.toList))
     |_=>some (.inr 0)):=by
     unfold zL
     rw [if_pos ⟨rfl,rfl,by omega⟩,Go.Lib.toList_data]
     cases Lib.parseIntB 64 s.data.toList<;>rfl
    rcases hq:Lib.parseIntB 64 s.toList with v|_|_
    rotate_left
    ·have hn:qFX s.toList=false:=by
      rw [Bool.eq_false_iff];intro e
      have hd:qSB s.toList=true:=by unfold qFX at e;simp only [Bool.and_eq_true] at e;exact e.1
      have:=(qPA hd).2 e
      rw [hq] at this;cases this
     rw [hn,if_neg (by simp)]
     rw [hq] at hL
     refine ⟨n1+n2+n3+2,fun n hn=>?_⟩
     obtain ⟨k,rfl,hm⟩:=up1 hn
     obtain ⟨k,rfl,hm⟩:=up1 (show n1+n2+n3+1≤k by omega)
     exact qA (h1 (k+1) (by omega)) (qO (qA2 hp) (qO (qFf h0) (qA (h2 (k+1) (by omega)) (qO rfl (qA ((hpi k).trans hL) (qO rfl (fin (k+1) (by omega))))))))
    ·have hn:qFX s.toList=false:=by
      rw [Bool.eq_false_iff];intro e
      have hd:qSB s.toList=true:=by unfold qFX at e;simp only [Bool.and_eq_true] at e;exact e.1
      have:=(qPA hd).2 e
      rw [hq] at this;cases this
     rw [hn,if_neg (by simp)]
     rw [hq] at hL
     refine ⟨n1+n2+n3+2,fun n hn=>?_⟩
     obtain ⟨k,rfl,hm⟩:=up1 hn
     obtain ⟨k,rfl,hm⟩:=up1 (show n1+n2+n3+1≤k by omega)
     exact qA (h1 (k+1) (by omega)) (qO (qA2 hp) (qO (qFf h0) (qA (h2 (k+1) (by omega)) (qO rfl (qA ((hpi k).trans hL) (qO rfl (fin (k+1) (by omega))))))))
    ·rw [hq] at hL
     cases hd:qSB s.toList with
     |false=>
      have hn:qFX s.toList=false:=by unfold qFX;rw [hd];rfl
      rw [hn,if_neg (by simp)]
      refine ⟨n1+n2+n3+n4+2,fun n hn=>?_⟩
      obtain ⟨k,rfl,hm⟩:=up1 hn
      obtain ⟨k,rfl,hm⟩:=up1 (show n1+n2+n3+n4+1≤k by omega)
      have h4:=h4 (k+1) (by omega)
      rw [hd] at h4
      exact qA (h1 (k+1) (by omega)) (qO (qA2 hp) (qO (qFf h0) (qA (h2 (k+1) (by omega)) (qO rfl (qA ((hpi k).trans hL) (qD rfl (qA h4 (qO rfl (fin (k+1) (by omega))))))))))
     |true=>
      have hv:=(qPA hd).1 v hq
      subst hv
      obtain ⟨n5,h5⟩:=qLG (qLT s.toList)
      obtain ⟨n6,h6⟩:=qGZ 1 (qLT s.toList) em (by decide)
      have ei:qFX s.toList=okV 1 (qLT s.toList) em:=by unfold qFX;rw [hd,Bool.true_and]
      rw [ei]
      cases ho:okV 1 (qLT s.toList) em with
      |true=>
       rw [if_pos rfl]
       have hb2:=qW0.1 ho
       obtain ⟨n7,h7⟩:=qEk (qLT s.toList) (by omega)
       refine ⟨n1+n2+n3+n4+n5+n6+n7+2,fun n hn=>?_⟩
       obtain ⟨k,rfl,hm⟩:=up1 hn
       obtain ⟨k,rfl,hm⟩:=up1 (show n1+n2+n3+n4+n5+n6+n7+1≤k by omega)
       have h4:=h4 (k+1) (by omega)
       rw [hd] at h4
       exact qA (h1 (k+1) (by omega)) (qO (qA2 hp) (qO (qFf h0) (qA (h2 (k+1) (by omega)) (qO rfl (qA ((hpi k).trans hL) (qD rfl (qA h4 (qD rfl (qA (h5 (k+1) (by omega)) (qA (h6 (k+1) (by omega)) (qD ho (qA (h7 (k+1) (by omega)) rfl))))))))))))
      |false=>
       rw [if_neg (by simp)]
       refine ⟨n1+n2+n3+n4+n5+n6+2,fun n hn=>?_⟩
       obtain ⟨k,rfl,hm⟩:=up1 hn
       obtain ⟨k,rfl,hm⟩:=up1 (show n1+n2+n3+n4+n5+n6+1≤k by omega)
       have h4:=h4 (k+1) (by omega)
       rw [hd] at h4
       exact qA (h1 (k+1) (by omega)) (qO (qA2 hp) (qO (qFf h0) (qA (h2 (k+1) (by omega)) (qO rfl (qA ((hpi k).trans hL) (qD rfl (qA h4 (qD rfl (qA (h5 (k+1) (by omega)) (qA (h6 (k+1) (by omega)) (qO ho (fin (k+1) (by omega)))))))))))))
abbrev Cl:=Int×Int×ByteArray
def qp (c:Cl):List PV:= [.i .i64 c.1,.i .i64 c.2.1,.s c.2.2]
theorem qWS {rows:List (List PV)} (h:∀e∈rows,okR [.i .i64,.i .i64,.s] e):∃l:List Cl,rows=l.map qp∧∀c∈l,c.2.2.size≤140737488351232:=by
 refine qLE (fun e h=>?_) h
 obtain ⟨c0,t0,rfl,p0,h⟩:=zAU h
 obtain ⟨c1,t1,rfl,p1,h1⟩:=zAU h
 obtain ⟨c2,t2,rfl,p2,h2⟩:=zAU h1
 obtain rfl:=zC2 h2
 obtain ⟨x0,rfl,_⟩:=zFW p0
 obtain ⟨x1,rfl,_⟩:=zFW p1
 obtain ⟨x2,rfl,w⟩:=zKj p2
 exact ⟨(x0,x1,x2),rfl,w⟩
theorem qUY {l:List Cl} {i:Nat} {e:List PV} (h:(l.map qp)[i]?=some e):∃c,l[i]?=some c∧e=qp c:=by
 rw [List.getElem?_map] at h
 obtain ⟨c,h1,h2⟩:=Option.map_eq_some_iff.1 h
 exact ⟨c,h1,h2.symm⟩
def qKX (s:ByteArray):Bool:=(qFu s).2&&(decide (s.toList≠ [])&&((qFu s).1.toList==s.toList))
def qM6 (l:List Cl) (i:Nat) (c:Cl):Bool:=match i with
 |0=>true
 |j+1=>match l[j]? with
  |some p=>qKE p.1 p.2.1 c.1 c.2.1
  |none=>true
def qIf (l:List Cl):Nat→List Cl→Bool
 |_,[]=>true
 |i,c::r=>qBP c.1 c.2.1&&(qKX c.2.2&&qM6 l i c)&&qIf l (i+1) r
def qIg (l:List Cl):Bool:=qIf l 0 l&&decide ((l.length:Int)≤120)
theorem qUB (s:ByteArray) (hb:s.size≤140737488355328):Ev (qDZ · s) (qKX s):=by
 obtain ⟨n1,h1⟩:=qQD s hb
 refine ⟨n1+1,fun n hn=>?_⟩
 obtain ⟨k,rfl,hm⟩:=up1 hn
 refine qA (h1 k (by omega)) ?_
 unfold qKX
 by_cases h2:(qFu s).2=true
 ·refine qD h2 ?_
  rw [h2,Bool.true_and]
  by_cases h3:s.toList= []
  ·refine qO (qA2 (qRY h3)) ?_
   rw [qC,decide_eq_false (fun e=>e h3),Bool.false_and]
  ·refine qD (qCz (qFf h3)) ?_
   rw [qC,decide_eq_true h3,Bool.true_and]
 ·have h2:(qFu s).2=false:=by rw [Bool.eq_false_iff];exact h2
  refine qO h2 ?_
  rw [qC,h2,Bool.false_and]
structure SrcAt (n:Nat) (c:Cl):Prop where
 r1:qAP n c.1 c.2.1=some (qBP c.1 c.2.1)
 r2:qB1 n c.1 c.2.1=some (qBP c.1 c.2.1)
 i1:qFC n c.2.2=some (qFu c.2.2)
 i2:qDZ n c.2.2=some (qKX c.2.2)
theorem qVo (c:Cl) (hb:c.2.2.size≤140737488351232):∃n0,∀n,n0≤n→SrcAt n c:=by
 obtain ⟨n1,h1⟩:=qC3 c.1 c.2.1
 obtain ⟨n2,h2⟩:=qDd c.1 c.2.1
 obtain ⟨n3,h3⟩:=qQC c.2.2 (by omega)
 obtain ⟨n4,h4⟩:=qUB c.2.2 (by omega)
 exact ⟨n1+n2+n3+n4,fun n hn=>⟨h1 n (by omega),h2 n (by omega),h3 n (by omega),h4 n (by omega)⟩⟩
theorem qTW:∀(l:List Cl),(∀c∈l,c.2.2.size≤140737488351232)→∃n0,∀n,n0≤n→∀c∈l,SrcAt n c
 | [],_=>⟨0,fun n _ c hc=>by cases hc⟩
 |a::l,h=>by
  obtain ⟨n1,h1⟩:=qVo a (h a (List.mem_cons_self ..))
  obtain ⟨n2,h2⟩:=qTW l fun c hc=>h c (List.mem_cons_of_mem _ hc)
  exact ⟨n1+n2,fun n hn c hc=>by
   rcases List.mem_cons.1 hc with rfl|hc
   ·exact h1 n (by omega)
   ·exact h2 n (by omega) c hc⟩
theorem qN3 (n:Nat) (l:List Cl) (hb:l.length≤140737488351232) (hs:∀c∈l,SrcAt n c) (ha:∀a b c d,qDo n a b c d=some (qKE a b c d)):
  ∀(m i M:Nat),l.length=i+m→m+1≤M→zC (qFD n) M (l.map qp,(i:Int))=some (if qIf l i (l.drop i)=true then .inr () else .inl false)
 |m,i,0,h1,h2=>by omega
 |0,i,M+1,h1,h2=>by
  rw [List.drop_eq_nil_of_le (by omega)]
  exact qP (qO (decide_eq_false (show ¬((i:Int)<((l.map qp).length:Int)) by rw [List.length_map];omega)) rfl)
 |m+1,i,M+1,h1,h2=>by
  have hl:i<l.length:=by omega
  have hg:=List.getElem?_eq_getElem hl
  have hm:=List.getElem_mem hl
  rw [qDc hg]
  generalize l[i]=c at hg hm
  have S:=hs c hm
  have hw:IntKind.i64.wrap ((i:Int)+1)=((i+1:Nat):Int):=by rw [qT (by omega)];omega
  have g1:decide ((i:Int)<((l.map qp).length:Int))=true:=decide_eq_true (by rw [List.length_map];omega)
  have g2:decide (0≤(i:Int)∧(i:Int)<((l.map qp).length:Int))=true:=decide_eq_true ⟨by omega,by rw [List.length_map];omega⟩
  have g3:(l.map qp)[((i:Int)).toNat]?=some (qp c):=by rw [Int.toNat_natCast,List.getElem?_map,hg];rfl
  have k3:decide ((qp c).length=3)=true:=rfl
  have cs:zT (qp c) 2=some c.2.2:=rfl
  have c0:zD .i64 (qp c) 0=some c.1:=rfl
  have c1:zD .i64 (qp c) 1=some c.2.1:=rfl
  have ih:=qN3 n l hb hs ha m (i+1) M (by omega) (by omega)
  unfold qIf
  by_cases hR:qBP c.1 c.2.1=true
  rotate_left
  ·have hR:qBP c.1 c.2.1=false:=by rw [Bool.eq_false_iff];exact hR
   rw [hR,Bool.false_and,Bool.false_and,if_neg (by simp)]
   exact qP (qD g1 (qD g2 (qA g3 (qD k3 (qA cs (qA S.i1 (qD g2 (qA g3 (qD k3 (qA c0 (qA c1 (qA S.r1 (qD (qCz hR) rfl)))))))))))))
  rw [hR,Bool.true_and]
  by_cases hI:(qFu c.2.2).2=true
  rotate_left
  ·have hI:(qFu c.2.2).2=false:=by rw [Bool.eq_false_iff];exact hI
   have e:qKX c.2.2=false:=by unfold qKX;rw [hI];rfl
   rw [e,Bool.false_and,Bool.false_and,if_neg (by simp)]
   exact qP (qD g1 (qD g2 (qA g3 (qD k3 (qA cs (qA S.i1 (qD g2 (qA g3 (qD k3 (qA c0 (qA c1 (qA S.r1 (qO (qA2 hR) (qD (qCz hI) rfl))))))))))))))
  by_cases hE:c.2.2.toList= []
  ·have e:qKX c.2.2=false:=by unfold qKX;rw [decide_eq_false (fun h=>h hE),Bool.false_and,Bool.and_false]
   rw [e,Bool.false_and,Bool.false_and,if_neg (by simp)]
   exact qP (qD g1 (qD g2 (qA g3 (qD k3 (qA cs (qA S.i1 (qD g2 (qA g3 (qD k3 (qA c0 (qA c1 (qA S.r1 (qO (qA2 hR) (qO (qA2 hI) (qD g2 (qA g3 (qD k3 (qA cs (qD (qRY hE) rfl)))))))))))))))))))
  by_cases hQ:(qFu c.2.2).1.toList=c.2.2.toList
  rotate_left
  ·have e:qKX c.2.2=false:=by unfold qKX;rw [beq_eq_false_iff_ne.2 hQ,Bool.and_false,Bool.and_false]
   rw [e,Bool.false_and,Bool.false_and,if_neg (by simp)]
   exact qP (qD g1 (qD g2 (qA g3 (qD k3 (qA cs (qA S.i1 (qD g2 (qA g3 (qD k3 (qA c0 (qA c1 (qA S.r1 (qO (qA2 hR) (qO (qA2 hI) (qD g2 (qA g3 (qD k3 (qA cs (qO (qFf hE) (qD g2 (qA g3 (qD k3 (qA cs (qD (qCz (beq_eq_false_iff_ne.2 hQ)) rfl))))))))))))))))))))))))
  have e:qKX c.2.2=true:=by unfold qKX;rw [hI,decide_eq_true hE,beq_iff_eq.2 hQ];rfl
  rw [e,Bool.true_and]
  cases i with
  |zero=>
   rw [show qM6 l 0 c=true from rfl,Bool.true_and]
   rw [qU (v':=(l.map qp,((0+1:Nat):Int))) (by
    refine qD g1 (qD g2 (qA g3 (qD k3 (qA cs (qA S.i1 (qD g2 (qA g3 (qD k3 (qA c0 (qA c1 (qA S.r1 (qO (qA2 hR) (qO (qA2 hI) (qD g2 (qA g3 (qD k3 (qA cs (qO (qFf hE) (qD g2 (qA g3 (qD k3 (qA cs (qO (qA2 (beq_iff_eq.2 hQ)) (qO rfl ?_))))))))))))))))))))))))
    rw [qC,hw])]
   exact ih
  |succ j=>
   have hj:j<l.length:=by omega
   have hgj:=List.getElem?_eq_getElem hj
   generalize l[j]=p at hgj
   have wj:IntKind.i64.wrap (((j+1:Nat):Int)-1)=(j:Int):=by rw [qT (by omega)];omega
   have a1:decide (((j+1:Nat):Int)>0)=true:=decide_eq_true (by omega)
   have j2:decide (0≤IntKind.i64.wrap (((j+1:Nat):Int)-1)∧IntKind.i64.wrap (((j+1:Nat):Int)-1)<((l.map qp).length:Int))=true:=decide_eq_true (by rw [wj,List.length_map];omega)
   have j3:(l.map qp)[(IntKind.i64.wrap (((j+1:Nat):Int)-1)).toNat]?=some (qp p):=by rw [wj,Int.toNat_natCast,List.getElem?_map,hgj];rfl
   have p0:zD .i64 (qp p) 0=some p.1:=rfl
   have p1:zD .i64 (qp p) 1=some p.2.1:=rfl
   have h5:=ha p.1 p.2.1 c.1 c.2.1
   have ep:qM6 l (j+1) c=qKE p.1 p.2.1 c.1 c.2.1:=by unfold qM6;simp only [hgj]
   rw [ep]
   by_cases hA:qKE p.1 p.2.1 c.1 c.2.1=true
   ·rw [hA,Bool.true_and]
    rw [qU (v':=(l.map qp,((j+1+1:Nat):Int))) (by
     refine qD g1 (qD g2 (qA g3 (qD k3 (qA cs (qA S.i1 (qD g2 (qA g3 (qD k3 (qA c0 (qA c1 (qA S.r1 (qO (qA2 hR) (qO (qA2 hI) (qD g2 (qA g3 (qD k3 (qA cs (qO (qFf hE) (qD g2 (qA g3 (qD k3 (qA cs (qO (qA2 (beq_iff_eq.2 hQ)) (qD a1 (qD j2 (qA j3 (qD rfl (qA p0 (qA p1 (qD g2 (qA g3 (qD k3 (qA c0 (qA c1 (qA h5 (qO (qA2 hA) ?_))))))))))))))))))))))))))))))))))))
     rw [qC,hw])]
    exact ih
   ·have hA:qKE p.1 p.2.1 c.1 c.2.1=false:=by rw [Bool.eq_false_iff];exact hA
    rw [hA,Bool.false_and,if_neg (by simp)]
    exact qP (qD g1 (qD g2 (qA g3 (qD k3 (qA cs (qA S.i1 (qD g2 (qA g3 (qD k3 (qA c0 (qA c1 (qA S.r1 (qO (qA2 hR) (qO (qA2 hI) (qD g2 (qA g3 (qD k3 (qA cs (qO (qFf hE) (qD g2 (qA g3 (qD k3 (qA cs (qO (qA2 (beq_iff_eq.2 hQ)) (qD a1 (qD j2 (qA j3 (qD rfl (qA p0 (qA p1 (qD g2 (qA g3 (qD k3 (qA c0 (qA c1 (qA h5 (qD (qCz hA) rfl)))))))))))))))))))))))))))))))))))))
theorem qQE (l:List Cl) (hb:l.length≤140737488351232) (hs:∀c∈l,c.2.2.size≤140737488351232):Ev (qDp · (l.map qp)) (qIg l):=by
 obtain ⟨n1,h1⟩:=qTW l hs
 refine ⟨n1+l.length+3,fun n hn=>?_⟩
 obtain ⟨m,rfl,hm⟩:=up1 hn
 have ha:∀a b c d,qDo m a b c d=some (qKE a b c d):=fun a b c d=>by
  obtain ⟨q,rfl⟩:∃q,m=q+1:=⟨m-1,by omega⟩
  simp only [qDo,qHB,qC,qE,qG,qH,qJ,qK,Option.bind_some,qF,qM,qN]
  unfold qKE
  by_cases h:b<d
  ·simp [h]
  ·by_cases h':b=d
   ·subst h';simp
   ·simp [h,h']
 have h:=qN3 m l hb (h1 m (by omega)) ha l.length 0 m (by omega) (by omega)
 simp only [Int.natCast_zero,List.drop_zero] at h
 unfold qIg
 by_cases h0:(l.length:Int)>120
 ·refine qD (decide_eq_true (by rw [List.length_map];exact h0)) ?_
  rw [qC,decide_eq_false (by omega),Bool.and_false]
 ·refine qO (decide_eq_false (by rw [List.length_map];exact h0)) (qA h ?_)
  rw [decide_eq_true (show (l.length:Int)≤120 by omega),Bool.and_true]
  cases qIf l 0 l<;>rfl
theorem qN4 (n:Nat) (l:List Cl) (hb:l.length≤140737488351232) (hs:∀c∈l,SrcAt n c) (ha:∀p∈l,∀c∈l,qBt n p.1 p.2.1 c.1 c.2.1=some (qDW [qMz p.2.1 c.2.1,qMz p.1 c.1])):
  ∀(m i M:Nat),l.length=i+m→m+1≤M→zC (qFQ n) M (l.map qp,l.map qp,(l.length:Int),(i:Int))=some (if qIf l i (l.drop i)=true then .inr (l.map qp) else .inl false)
 |m,i,0,h1,h2=>by omega
 |0,i,M+1,h1,h2=>by
  rw [List.drop_eq_nil_of_le (by omega)]
  exact qP (qO (decide_eq_false (show ¬((i:Int)<(l.length:Int)) by omega)) rfl)
 |m+1,i,M+1,h1,h2=>by
  have hl:i<l.length:=by omega
  have hg:=List.getElem?_eq_getElem hl
  have hm:=List.getElem_mem hl
  rw [qDc hg]
  generalize l[i]=c at hg hm
  have S:=hs c hm
  have hw:IntKind.i64.wrap ((i:Int)+1)=((i+1:Nat):Int):=by rw [qT (by omega)];omega
  have g1:decide ((i:Int)<(l.length:Int))=true:=decide_eq_true (by omega)
  have g2:decide (0≤(i:Int)∧(i:Int)<((l.map qp).length:Int))=true:=decide_eq_true ⟨by omega,by rw [List.length_map];omega⟩
  have g3:(l.map qp)[((i:Int)).toNat]?=some (qp c):=by rw [Int.toNat_natCast,List.getElem?_map,hg];rfl
  have k3:decide ((qp c).length=3)=true:=rfl
  have cs:zT (qp c) 2=some c.2.2:=rfl
  have c0:zD .i64 (qp c) 0=some c.1:=rfl
  have c1:zD .i64 (qp c) 1=some c.2.1:=rfl
  have ih:=qN4 n l hb hs ha m (i+1) M (by omega) (by omega)
  unfold qIf
  by_cases hR:qBP c.1 c.2.1=true
  rotate_left
  ·have hR:qBP c.1 c.2.1=false:=by rw [Bool.eq_false_iff];exact hR
   rw [hR,Bool.false_and,Bool.false_and,if_neg (by simp)]
   exact qP (qD g1 (qD g2 (qA g3 (qD k3 (qA c0 (qA c1 (qA cs (qA S.r2 (qD (qCz hR) rfl)))))))))
  rw [hR,Bool.true_and]
  cases i with
  |zero=>
   rw [show qM6 l 0 c=true from rfl,Bool.and_true]
   by_cases hS:qKX c.2.2=true
   ·rw [hS,Bool.true_and]
    rw [qU (v':=(l.map qp,l.map qp,(l.length:Int),((0+1:Nat):Int))) (by
     refine qD g1 (qD g2 (qA g3 (qD k3 (qA c0 (qA c1 (qA cs (qA S.r2 (qO (qA2 hR) (qO rfl (qA S.i2 (qO (qA2 hS) ?_)))))))))))
     rw [qC,hw])]
    exact ih
   ·have hS:qKX c.2.2=false:=by rw [Bool.eq_false_iff];exact hS
    rw [hS,Bool.false_and,if_neg (by simp)]
    exact qP (qD g1 (qD g2 (qA g3 (qD k3 (qA c0 (qA c1 (qA cs (qA S.r2 (qO (qA2 hR) (qO rfl (qA S.i2 (qD (qCz hS) rfl))))))))))))
  |succ j=>
   have hj:j<l.length:=by omega
   have hgj:=List.getElem?_eq_getElem hj
   have hmj:=List.getElem_mem hj
   generalize l[j]=p at hgj hmj
   have wj:IntKind.i64.wrap (((j+1:Nat):Int)-1)=(j:Int):=by rw [qT (by omega)];omega
   have a1:decide (((j+1:Nat):Int)>0)=true:=decide_eq_true (by omega)
   have j2:decide (0≤IntKind.i64.wrap (((j+1:Nat):Int)-1)∧IntKind.i64.wrap (((j+1:Nat):Int)-1)<((l.map qp).length:Int))=true:=decide_eq_true (by rw [wj,List.length_map];omega)
   have j3:(l.map qp)[(IntKind.i64.wrap (((j+1:Nat):Int)-1)).toNat]?=some (qp p):=by rw [wj,Int.toNat_natCast,List.getElem?_map,hgj];rfl
   have p0:zD .i64 (qp p) 0=some p.1:=rfl
   have p1:zD .i64 (qp p) 1=some p.2.1:=rfl
   have h5:=ha p hmj c hm
   have h6:=qU3 p.1 p.2.1 c.1 c.2.1
   have ep:qM6 l (j+1) c=qKE p.1 p.2.1 c.1 c.2.1:=by unfold qM6;simp only [hgj]
   rw [ep]
   by_cases hA:qKE p.1 p.2.1 c.1 c.2.1=true
   ·rw [hA] at h6
    rw [hA,Bool.and_true]
    by_cases hS:qKX c.2.2=true
    ·rw [hS,Bool.true_and]
     rw [qU (v':=(l.map qp,l.map qp,(l.length:Int),((j+1+1:Nat):Int))) (by
      refine qD g1 (qD g2 (qA g3 (qD k3 (qA c0 (qA c1 (qA cs (qA S.r2 (qO (qA2 hR) (qD a1 (qD j2 (qA j3 (qD rfl (qA p0 (qA p1 (qA h5 (qO h6 (qA S.i2 (qO (qA2 hS) ?_))))))))))))))))))
      rw [qC,hw])]
     exact ih
    ·have hS:qKX c.2.2=false:=by rw [Bool.eq_false_iff];exact hS
     rw [hS,Bool.false_and,if_neg (by simp)]
     exact qP (qD g1 (qD g2 (qA g3 (qD k3 (qA c0 (qA c1 (qA cs (qA S.r2 (qO (qA2 hR) (qD a1 (qD j2 (qA j3 (qD rfl (qA p0 (qA p1 (qA h5 (qO h6 (qA S.i2 (qD (qCz hS) rfl)))))))))))))))))))
   ·have hA:qKE p.1 p.2.1 c.1 c.2.1=false:=by rw [Bool.eq_false_iff];exact hA
    rw [hA] at h6
    rw [hA,Bool.and_false,Bool.false_and,if_neg (by simp)]
    exact qP (qD g1 (qD g2 (qA g3 (qD k3 (qA c0 (qA c1 (qA cs (qA S.r2 (qO (qA2 hR) (qD a1 (qD j2 (qA j3 (qD rfl (qA p0 (qA p1 (qA h5 (qD h6 rfl)))))))))))))))))
theorem qQF (l:List Cl) (hb:l.length≤140737488351232) (hs:∀c∈l,c.2.2.size≤140737488351232):Ev (qDy · (l.map qp)) (qIg l):=by
 obtain ⟨n1,h1⟩:=qTW l hs
 obtain ⟨n3,h3⟩:=qAa (F:=fun (pc:Cl×Cl) n=>qBt n pc.1.1 pc.1.2.1 pc.2.1 pc.2.2.1) (f:=fun pc=>qDW [qMz pc.1.2.1 pc.2.2.1,qMz pc.1.1 pc.2.1]) (l.flatMap fun p=>l.map fun c=>(p,c)) fun pc _=>qL4 pc.1.1 pc.1.2.1 pc.2.1 pc.2.2.1
 refine ⟨n1+n3+l.length+3,fun n hn=>?_⟩
 obtain ⟨m,rfl,hm⟩:=up1 hn
 have h:=qN4 m l hb (h1 m (by omega)) (fun p hp c hc=>h3 m (by omega) (p,c) (List.mem_flatMap.2 ⟨p,hp,List.mem_map.2 ⟨c,hc,rfl⟩⟩)) l.length 0 m (by omega) (by omega)
 simp only [Int.natCast_zero,List.drop_zero] at h
 rw [show (l.length:Int)=((l.map qp).length:Int) by rw [List.length_map]] at h
 unfold qIg
 refine qA h ?_
 cases qIf l 0 l with
 |true=>
  rw [if_pos rfl,Bool.true_and]
  show some (decide (((l.map qp).length:Int)≤120))=_
  rw [List.length_map]
 |false=>rfl
theorem qRZ (n:Nat) (a b:Int) (s:ByteArray) (left:Int):∃r,qFw (n+1) a b s left=some r:=by
 simp only [qFw,qID,qC,qE,qG,qH,qJ,qK,Option.bind_some,qF,qM,qN]
 by_cases h:IntKind.i64.wrap (left-s.size)<0
 ·exact ⟨-1,by simp [h]⟩
 ·exact ⟨IntKind.i64.wrap (left-s.size),by simp [h]⟩
theorem qQG (l:List Cl) (hb:l.length≤140737488351232) (left:Int):∀n,l.length+5≤n→∃r,qE2 n (l.map qp) left=some r:=by
 intro n hn
 obtain ⟨m,rfl,hm⟩:=up1 hn
 obtain ⟨q,rfl⟩:∃q,m=q+2:=⟨m-2,by omega⟩
 simp only [qE2,qGx,qC,qE,qG,qH,qJ,qK,Option.bind_some,qF,qM,qN]
 obtain ⟨r,h⟩:=qQN (B:=qB9 (q+2)) (rows:=l.map qp)
  (fun i e x he=>by
   obtain ⟨c,hc,rfl⟩:=qUY he
   have hi:i<l.length:=(List.getElem?_eq_some_iff.1 hc).1
   have hi':(i:Int)<l.length:=by omega
   have hw:IntKind.i64.wrap ((i:Int)+1)=(i:Int)+1:=qT (by omega)
   obtain ⟨r,hr⟩:=qRZ (q+1) c.1 c.2.1 c.2.2 x
   by_cases h0:r<0
   ·exact .inr ⟨.inl (-1),by simp [qB9,qC,qE,qG,qH,qJ,qK,Option.bind_some,qF,qM,qN,hi',hc,qp,zD,zT,hr,h0]⟩
   ·exact .inl ⟨r,by simp [qB9,qC,qE,qG,qH,qJ,qK,Option.bind_some,qF,qM,qN,hi',hc,qp,zD,zT,hr,h0,hw]⟩)
  (fun x=>⟨.inr x,by simp [qB9,qC,qE,qG,qH,qJ,qK,Option.bind_some,qF,qM,qN]⟩) l.length 0 (q+2) (IntKind.i64.wrap (left-l.length)) (by simp) (by omega)
 simp only [Int.natCast_zero] at h
 by_cases h0:IntKind.i64.wrap (left-l.length)<0
 ·exact ⟨-1,by simp [h0]⟩
 ·rcases r with r|r
  ·exact ⟨r,by simp [h0,h,qC,qE,qG,qH,qJ,qK,Option.bind_some,qF,qM,qN]⟩
  ·exact ⟨r,by simp [h0,h,qC,qE,qG,qH,qJ,qK,Option.bind_some,qF,qM,qN]⟩
theorem qRa (n:Nat) (a b:Int) (s:ByteArray):qFx (n+2) a b s=some (a,b,s):=by
 simp only [qFx,qIE,qJH,qJG,qC,qE,qG,qH,qJ,qK,Option.bind_some,qF,qM,qN]
theorem qQH (l:List Cl) (hb:l.length*32≤140737488351232):Ev (qE4 · (l.map qp)) (l.length,l.map qp):=by
 refine ⟨l.length+5,fun n hn=>?_⟩
 obtain ⟨m,rfl,hm⟩:=up1 hn
 simp only [qE4,qGy,qC,qE,qG,qH,qJ,qK,Option.bind_some,qF,qM,qN]
 have h:=qNf (B:=qCh m) (rows:=l.map qp) (z:= [.i .i64 0,.i .i64 0,.s ⟨#[]⟩]) (r:=fun acc=>((l.map qp).length,acc)) (M:=m)
  (fun i acc e he ha hz=>by
   obtain ⟨c,hc,rfl⟩:=qUY he
   have hi:i<l.length:=(List.getElem?_eq_some_iff.1 hc).1
   have hi':(i:Int)<l.length:=by omega
   obtain ⟨q,rfl⟩:∃q,m=q+2:=⟨m-2,by omega⟩
   have hw:IntKind.i64.wrap ((i:Int)+1)=(i:Int)+1:=qT (by omega)
   have ha':acc.length=l.length:=by simpa using ha
   simp [qCh,qC,qE,qG,qH,qJ,qK,Option.bind_some,qF,qM,qN,hi',hc,qp,zD,zT,qRa,hz,ha',hw,zw])
  (fun acc ha=>by
   have ha':acc.length=l.length:=by simpa using ha
   simp [qCh,qC,qE,qG,qH,qJ,qK,Option.bind_some,qF,qM,qN])
  (by simp;omega)
 simp only [List.length_map,Int.toNat_natCast] at h⊢
 rw [h]
 have h1:(32:Int)*(l.length:Int)≤140737488355328:=by omega
 have h2:(l.length:Int)≤9223372036854775807:=by omega
 simp [qC,qE,qG,qH,qJ,qK,Option.bind_some,qF,qM,qN,h1,h2]
theorem qRb (n:Nat) (a b:Int) (s:ByteArray):qF3 (n+2) a b s a b s=some true:=by
 simp only [qF3,qIZ,qJg,qJf,qC,qE,qG,qH,qJ,qK,Option.bind_some,qF,qM,qN]
 simp [qC,qE,qG,qH,qJ,qK,Option.bind_some,qF,qM,qN]
theorem qQI (l:List Cl) (hb:l.length≤140737488351232):Ev (qFR · (l.map qp) (l.map qp)) true:=by
 refine ⟨l.length+5,fun n hn=>?_⟩
 obtain ⟨m,rfl,hm⟩:=up1 hn
 simp only [qFR,qHb,qC,qE,qG,qH,qJ,qK,Option.bind_some,qF,qM,qN]
 have h:=qNg (B:=qCu m) (rows:=l.map qp) (r:= .inr ())
  (fun i e he=>by
   obtain ⟨c,hc,rfl⟩:=qUY he
   have hi:i<l.length:=(List.getElem?_eq_some_iff.1 hc).1
   have hi':(i:Int)<l.length:=by omega
   obtain ⟨q,rfl⟩:∃q,m=q+2:=⟨m-2,by omega⟩
   have hw:IntKind.i64.wrap ((i:Int)+1)=(i:Int)+1:=qT (by omega)
   simp [qCu,qC,qE,qG,qH,qJ,qK,Option.bind_some,qF,qM,qN,hi',hc,qp,zD,zT,qRb,hw])
  (by simp [qCu,qC,qE,qG,qH,qJ,qK,Option.bind_some,qF,qM,qN]) l.length 0 m (by simp) (by omega)
 simp only [Int.natCast_zero] at h
 simp [h,qC,qE,qG,qH,qJ,qK,Option.bind_some,qF,qM,qN]
def Fo (r:List UInt8):Prop:=∀c,r.head?=some c→c∈([38,43,45,42,47,60,61,62,41,44]:List UInt8)
def Sta (r:List UInt8):Prop:=∃c,r.head?=some c∧(wch c=true∨c=45∨c=40∨c=34∨c=35)
def lo (l:List Nd) (i:Int):Int:=qC4 (qV l) (i.toNat+1) i
def tx (l:List Nd) (g:Nat) (i t:Int):List UInt8:=(qy l g i t).toList
structure RT (l:List Nd) (g:Nat) (i:Int):Prop where
 s:∀t,Sta (tx l g i t)
 c:∀(t:Int) (r:List UInt8),Fo r→∀d:UInt8,(d=58∨d=32)→(wr (tx l g i t++r)).head?≠some d
 u:∀(r:List UInt8) (deep:Int) (f:Nat),Fo r→0≤deep→deep+g≤400→20*(tx l g i 5++r).length+4≤f→pP f (.un deep) (tx l g i 5++r,false,l.take (lo l i).toNat)=(i,r,false,l.take (i.toNat+1))
 b:∀(t t':Int) (r:List UInt8) (deep:Int) (f:Nat),1≤t→t≤t'→t'≤5→Fo r→(qA3 r=0∨lvl (qA3 r)≤t')→0≤deep→deep+g≤400→20*(tx l g i t'++r).length+6≤f→
  ∃f2,20*r.length+5≤f2∧pP f (.bin t deep) (tx l g i t'++r,false,l.take (lo l i).toNat)=pP f2 (.loop t deep i) (r,false,l.take (i.toNat+1))
def Dwx {β:Type} (Q:β→Prop) (R:Nat→Tr β):Prop:=∃x,Q x∧Ev (fun n=>(R n).run) x
theorem qDN {α β:Type} {Q:β→Prop} {F:Nat→Option α} {r:α} {K:Nat→α→Tr β} (h:Ev F r) (hk:Dwx Q fun n=>K n r):Dwx Q fun n=> .opt (F n) (K n):=by
 obtain ⟨x,q,n1,h1⟩:=hk
 obtain ⟨n0,h0⟩:=h
 exact ⟨x,q,n0+n1,fun n hn=>qA (h0 n (by omega)) (h1 n (by omega))⟩
theorem qI9 {β:Type} {Q:β→Prop} {b:Bool} {t e:Nat→Tr β} (h:b=true) (hk:Dwx Q t):Dwx Q fun n=> .ask b (t n) (e n):=by
 obtain ⟨x,q,n1,h1⟩:=hk
 exact ⟨x,q,n1,fun n hn=>qD h (h1 n hn)⟩
theorem qIh {β:Type} {Q:β→Prop} {b:Bool} {t e:Nat→Tr β} (h:b=false) (hk:Dwx Q e):Dwx Q fun n=> .ask b (t n) (e n):=by
 obtain ⟨x,q,n1,h1⟩:=hk
 exact ⟨x,q,n1,fun n hn=>qO h (h1 n hn)⟩
theorem qAm {β:Type} {Q:β→Prop} {x:β} (h:Q x):Dwx Q fun _=> .done x:=⟨x,h,0,fun _ _=>rfl⟩
theorem qFY {β:Type} {Q:β→Prop} {F:Nat→Option β} {R:Nat→Tr β} (h:Dwx Q R) (hF:∀n,F (n+1)=(R n).run):∃x,Q x∧Ev F x:=by
 obtain ⟨x,q,n1,h1⟩:=h
 refine ⟨x,q,n1+1,fun n hn=>?_⟩
 obtain ⟨m,rfl,hm⟩:=up1 hn
 rw [hF]
 exact h1 m hm
theorem qIC {β:Type} {F:Nat→Option β} {x:β} (h:∃y,y=x∧Ev F y):Ev F x:=by
 obtain ⟨y,rfl,h⟩:=h
 exact h
def qGK {α R:Type} (f:Nat→α→Option R):Nat→List α→Option R
 |_,[]=>none
 |i,a::r=>match f i a with
  |some x=>some x
  |none=>qGK f (i+1) r
theorem qLU {V R α:Type} {B:V→Tr (V⊕R)} (st:Nat→V) (l:List α) (f:Nat→α→Option R) (z:R) (hs:∀i a,l[i]?=some a→(B (st i)).run=some (match f i a with|some r=> .inr r|none=> .inl (st (i+1))))
  (he:(B (st l.length)).run=some (.inr z)):∀(M:Nat),l.length+1≤M→zC B M (st 0)=some ((qGK f 0 l).getD z):=by
 have key:∀(r:List α) (i M:Nat),l.drop i=r→i+r.length=l.length→r.length+1≤M→zC B M (st i)=some ((qGK f i r).getD z):=by
  intro r
  induction r with
  |nil=>
   intro i M h1 h2 h3
   obtain ⟨M,rfl⟩:∃q,M=q+1:=⟨M-1,by omega⟩
   have e:i=l.length:=by simpa using h2
   subst e
   rw [qP he]
   rfl
  |cons a r ih=>
   intro i M h1 h2 h3
   obtain ⟨M,rfl⟩:∃q,M=q+1:=⟨M-1,by omega⟩
   have hg:l[i]?=some a:=by rw [←List.head?_drop,h1];rfl
   have hd:l.drop (i+1)=r:=by rw [←List.tail_drop,h1];rfl
   have h4:=hs i a hg
   simp only [List.length_cons] at h2 h3
   unfold qGK
   cases hf:f i a with
   |some x=>rw [hf] at h4;rw [qP h4];rfl
   |none=>rw [hf] at h4;rw [qU h4];exact ih (i+1) M hd (by omega) (by omega)
 exact fun M h=>key l 0 M rfl (by omega) h
def qAu {α:Type} (p:Nat→α→Bool):Nat→List α→Bool
 |_,[]=>true
 |i,a::r=>p i a&&qAu p (i+1) r
theorem qGL {α R:Type} {p:Nat→α→Bool} {e:R}:∀{l:List α} {i:Nat},qGK (fun i a=>if p i a=true then none else some e) i l=if qAu p i l=true then none else some e
 | [],i=>rfl
 |a::r,i=>by
  unfold qGK qAu
  cases p i a with
  |true=>simp only [if_true,Bool.true_and];exact qGL
  |false=>rfl
theorem qD2 {i:Nat} {k:Int} {l:List (List PV)} {e:List PV} (hk:k=(i:Int)) (h:l[i]?=some e):decide (0≤k∧k<l.length)=true∧l[k.toNat]?=some e:=by
 subst hk
 have:=(List.getElem?_eq_some_iff.1 h).1
 exact ⟨decide_eq_true (by omega),by rw [Int.toNat_natCast];exact h⟩
abbrev Sm:=Int×Int×Int×ByteArray×Int
theorem nb {a b:Int} (h:¬a=b):(a==b)=false:=beq_eq_false_iff_ne.2 h
theorem qPB {α β γ:Type} {Q:α→Prop} {x:γ} {K:Nat→β→Tr α} {L:Nat→γ→Tr α} (h:Dwx Q fun n=>L n x):Dwx Q fun n=> .alt (Sum.inr x) (K n) (L n):=h
theorem qPC {α β γ:Type} {Q:α→Prop} {x:β} {K:Nat→β→Tr α} {L:Nat→γ→Tr α} (h:Dwx Q fun n=>K n x):Dwx Q fun n=> .alt (Sum.inl x) (K n) (L n):=h
theorem qEG {α R:Type}:∀(l:List α) (i:Nat),qGK (fun (_:Nat) (_:α)=>(none:Option R)) i l=none
 | [],i=>rfl
 |a::l,i=>qEG l (i+1)
def plB (c:Nd):Bool:=if c.1=2 then qBP c.2.2.2.2.2.1 c.2.2.2.2.2.2.1 else if c.1=3 then qGa c.2.2.2.2.2.1 c.2.2.2.2.2.2.1 c.2.2.2.2.2.2.2.2.2.1 c.2.2.2.2.2.2.2.2.2.2.1 else true
structure PlaceCh (f:Nd→Nd):Prop where
 k:∀c,(f c).1=c.1
 n:∀c,qFc c=true→c.1=2∨c.1=3→qFc (f c)=plB (f c)
 kd:∀c,kd (f c)=kd c
abbrev Vs:=Int×List Int×List Cl
def qAN (v:Vs):List PV:= [.i .i64 v.1,.ls (v.2.1.map qq),.ls (v.2.2.map qp)]
abbrev Br:=ByteArray×Int
def qAJ (b:Br):List PV:= [.s b.1,.i .i64 b.2]
def qMA (v:Vs):Prop:=v.2.1.length*8≤140737488351232∧v.2.2.length*32≤140737488351232∧∀c∈v.2.2,c.2.2.size≤140737488351232
theorem qWT {rows:List (List PV)} (h:∀e∈rows,okR [.i .i64,.sl 8 [.i .i64],.sl 32 [.i .i64,.i .i64,.s]] e):∃l:List Vs,rows=l.map qAN∧∀v∈l,qMA v:=by
 refine qLE (fun e h=>?_) h
 obtain ⟨c0,t0,rfl,p0,h0⟩:=zAU h
 obtain ⟨c1,t1,rfl,p1,h1⟩:=zAU h0
 obtain ⟨c2,t2,rfl,p2,h2⟩:=zAU h1
 obtain rfl:=zC2 h2
 obtain ⟨x0,rfl,w0⟩:=zFW p0
 obtain ⟨x1,rfl,w1⟩:=zFw p1
 obtain ⟨x2,rfl,w2⟩:=zFw p2
 obtain ⟨ks,rfl,_⟩:=qLE (enc:=qq) (P:=fun _=>True) (fun e h=>by
  obtain ⟨a,t,rfl,p,h⟩:=zAU h
  obtain rfl:=zC2 h
  obtain ⟨y,rfl,_⟩:=zFW p
  exact ⟨y,rfl,trivial⟩) w1.2
 obtain ⟨cs,rfl,hs⟩:=qWS w2.2
 exact ⟨(x0,ks,cs),rfl,by simpa using w1.1,by simpa using w2.1,hs⟩
theorem qWU {rows:List (List PV)} (h:∀e∈rows,okR [.s,.i .i64] e):∃l:List Br,rows=l.map qAJ∧∀b∈l,b.1.size≤140737488351232:=by
 refine qLE (fun e h=>?_) h
 obtain ⟨c0,t0,rfl,p0,h0⟩:=zAU h
 obtain ⟨c1,t1,rfl,p1,h1⟩:=zAU h0
 obtain rfl:=zC2 h1
 obtain ⟨x0,rfl,w0⟩:=zKj p0
 obtain ⟨x1,rfl,w1⟩:=zFW p1
 exact ⟨(x0,x1),rfl,w0⟩
theorem qPD {α:Type} {enc:α→List PV} {l:List α} {i:Nat} {e:List PV} (h:(l.map enc)[i]?=some e):∃c,l[i]?=some c∧e=enc c:=by
 rw [List.getElem?_map] at h
 obtain ⟨c,h1,h2⟩:=Option.map_eq_some_iff.1 h
 exact ⟨c,h1,h2.symm⟩
theorem qGM {α:Type} {enc:α→List PV} {l:List α} {i:Nat} {a:α} (h:l[i]?=some a):(l.map enc)[i]?=some (enc a):=by rw [List.getElem?_map,h];rfl
theorem qTX (v:Vs) (h:qMA v):Ev (qD5 · v.1 (v.2.1.map qq) (v.2.2.map qp)) (v.1,v.2.1.map qq,v.2.2.map qp):=by
 refine qIC (qFY (R:=fun n=>qFi n v.1 (v.2.1.map qq) (v.2.2.map qp)) (qDN ⟨_,qOv v.2.1 h.1⟩ (qDN (qQH v.2.2 h.2.1) (qI9 (decide_eq_true (by simp)) (qI9 (decide_eq_true (by simp)) (qAm rfl))))) fun n=>rfl)
theorem qSC (l:List Vs) (hb:l.length*56≤140737488351232) (hv:∀v∈l,qMA v):Ev (qDh · (l.map qAN)) (l.length,l.map qAN):=by
 obtain ⟨n0,h0⟩:=qAa (F:=fun (v:Vs) n=>qD5 n v.1 (v.2.1.map qq) (v.2.2.map qp)) (f:=fun v=>(v.1,v.2.1.map qq,v.2.2.map qp)) l fun v h=>qTX v (hv v h)
 refine ⟨n0+l.length+5,fun n hn=>?_⟩
 obtain ⟨m,rfl,hm⟩:=up1 hn
 simp only [qDh,qE5,qC,qE,qG,qH,qJ,qK,Option.bind_some,qF,qM,qN]
 have h:=qNf (B:=qB5 m) (rows:=l.map qAN) (z:= [.i .i64 0,.nl,.nl]) (r:=fun acc=>((l.map qAN).length,acc)) (M:=m)
  (fun i acc e he ha hz=>by
   obtain ⟨c,hc,rfl⟩:=qPD he
   have hi:i<l.length:=(List.getElem?_eq_some_iff.1 hc).1
   have hi':(i:Int)<l.length:=by omega
   have hw:IntKind.i64.wrap ((i:Int)+1)=(i:Int)+1:=qT (by omega)
   have ha':acc.length=l.length:=by simpa using ha
   have hf:=h0 m (by omega) c (List.mem_of_getElem? hc)
   simp [qB5,qC,qE,qG,qH,qJ,qK,Option.bind_some,qF,qM,qN,hi',hc,qAN,zD,zg,hf,hz,ha',hw,zw])
  (fun acc ha=>by
   have ha':acc.length=l.length:=by simpa using ha
   simp [qB5,qC,qE,qG,qH,qJ,qK,Option.bind_some,qF,qM,qN])
  (by simp;omega)
 simp only [List.length_map,Int.toNat_natCast] at h⊢
 rw [h]
 have h1:(56:Int)*(l.length:Int)≤140737488355328:=by omega
 have h2:(l.length:Int)≤9223372036854775807:=by omega
 simp [qC,qE,qG,qH,qJ,qK,Option.bind_some,qF,qM,qN,h1,h2]
theorem qTY (l:List Br) (hb:l.length*24≤140737488351232):Ev (qD6 · (l.map qAJ)) (l.length,l.map qAJ):=by
 refine ⟨l.length+5,fun n hn=>?_⟩
 obtain ⟨m,rfl,hm⟩:=up1 hn
 simp only [qD6,qFj,qC,qE,qG,qH,qJ,qK,Option.bind_some,qF,qM,qN]
 have h:=qNf (B:=qCC m) (rows:=l.map qAJ) (z:= [.s ⟨#[]⟩,.i .i64 0]) (r:=fun acc=>((l.map qAJ).length,acc)) (M:=m)
  (fun i acc e he ha hz=>by
   obtain ⟨c,hc,rfl⟩:=qPD he
   have hi:i<l.length:=(List.getElem?_eq_some_iff.1 hc).1
   have hi':(i:Int)<l.length:=by omega
   have hw:IntKind.i64.wrap ((i:Int)+1)=(i:Int)+1:=qT (by omega)
   have ha':acc.length=l.length:=by simpa using ha
   obtain ⟨q,rfl⟩:∃q,m=q+2:=⟨m-2,by omega⟩
   have hf:∀a b,qGQ (q+2) a b=some (a,b):=fun a b=>rfl
   simp [qCC,qC,qE,qG,qH,qJ,qK,Option.bind_some,qF,qM,qN,hi',hc,qAJ,zD,zT,hf,hz,ha',hw,zw])
  (fun acc ha=>by
   have ha':acc.length=l.length:=by simpa using ha
   simp [qCC,qC,qE,qG,qH,qJ,qK,Option.bind_some,qF,qM,qN])
  (by simp;omega)
 simp only [List.length_map,Int.toNat_natCast] at h⊢
 rw [h]
 have h1:(24:Int)*(l.length:Int)≤140737488355328:=by omega
 have h2:(l.length:Int)≤9223372036854775807:=by omega
 simp [qC,qE,qG,qH,qJ,qK,Option.bind_some,qF,qM,qN,h1,h2]
theorem qVp (x:Int) (l:List Vs) (b:List Br) (hl:l.length*56≤140737488351232) (hv:∀v∈l,qMA v) (hb:b.length*24≤140737488351232):Ev (qE6 · x (l.map qAN) (b.map qAJ)) (x,l.map qAN,b.map qAJ):=by
 refine qIC (qFY (R:=fun n=>qJI n x (l.map qAN) (b.map qAJ)) (qDN (qSC l hl hv) (qDN (qTY b hb) (qI9 (decide_eq_true (by simp)) (qI9 (decide_eq_true (by simp)) (qAm rfl))))) fun n=>rfl)
theorem qTZ (v:Vs) (h:qMA v):∀n,v.2.2.length+8≤n→∀left,∃r,qD3 n v.1 (v.2.1.map qq) (v.2.2.map qp) left=some r:=by
 intro n hn left
 obtain ⟨m,rfl,hm⟩:=up1 hn
 obtain ⟨q,rfl⟩:∃q,m=q+1:=⟨m-1,by omega⟩
 obtain ⟨r,h1⟩:=qOu q (v.2.1.map qq) left
 obtain ⟨r2,h2⟩:=qQG v.2.2 (by have:=h.2.1;omega) r (q+1) (by omega)
 simp only [qD3,qFg,qC,qE,qG,qH,qJ,qK,Option.bind_some,qF,qM,qN,h1,h2]
 by_cases h0:r<0
 ·exact ⟨-1,by simp [h0]⟩
 ·by_cases h3:r2<0
  ·exact ⟨-1,by simp [h0,h3]⟩
  ·exact ⟨r2,by simp [h0,h3]⟩
theorem qVq:∀(l:List Vs),∃M,∀v∈l,v.2.2.length+8≤M∧v.2.1.length+8≤M
 | []=>⟨0,fun v h=>by cases h⟩
 |a::l=>by
  obtain ⟨M,h⟩:=qVq l
  refine ⟨M+a.2.2.length+a.2.1.length+8,fun v hv=>?_⟩
  rcases List.mem_cons.1 hv with rfl|hv
  ·omega
  ·have:=h v hv
   omega
theorem qSD (l:List Vs) (hb:l.length≤140737488351232) (hv:∀v∈l,qMA v):∃n0,∀n,n0≤n→∀left,∃r,qDg n (l.map qAN) left=some r:=by
 obtain ⟨M,hM⟩:=qVq l
 refine ⟨M+l.length+5,fun n hn left=>?_⟩
 obtain ⟨m,rfl,hm⟩:=up1 hn
 simp only [qDg,qE3,qC,qE,qG,qH,qJ,qK,Option.bind_some,qF,qM,qN]
 obtain ⟨r,h⟩:=qQN (B:=qBV m) (rows:=l.map qAN)
  (fun i e x he=>by
   obtain ⟨c,hc,rfl⟩:=qPD he
   have hi:i<l.length:=(List.getElem?_eq_some_iff.1 hc).1
   have hi':(i:Int)<l.length:=by omega
   have hw:IntKind.i64.wrap ((i:Int)+1)=(i:Int)+1:=qT (by omega)
   have hmem:=List.mem_of_getElem? hc
   obtain ⟨r,hr⟩:=qTZ c (hv c hmem) m (by have:=(hM c hmem).1;omega) x
   by_cases h0:r<0
   ·exact .inr ⟨.inl (-1),by simp [qBV,qC,qE,qG,qH,qJ,qK,Option.bind_some,qF,qM,qN,hi',hc,qAN,zD,zg,hr,h0]⟩
   ·exact .inl ⟨r,by simp [qBV,qC,qE,qG,qH,qJ,qK,Option.bind_some,qF,qM,qN,hi',hc,qAN,zD,zg,hr,h0,hw]⟩)
  (fun x=>⟨.inr x,by simp [qBV,qC,qE,qG,qH,qJ,qK,Option.bind_some,qF,qM,qN]⟩) l.length 0 m (IntKind.i64.wrap (left-l.length)) (by simp) (by omega)
 simp only [Int.natCast_zero] at h
 by_cases h0:IntKind.i64.wrap (left-l.length)<0
 ·exact ⟨-1,by simp [h0]⟩
 ·rcases r with r|r
  ·exact ⟨r,by simp [h0,h,qC,qE,qG,qH,qJ,qK,Option.bind_some,qF,qM,qN]⟩
  ·exact ⟨r,by simp [h0,h,qC,qE,qG,qH,qJ,qK,Option.bind_some,qF,qM,qN]⟩
theorem qUC (n:Nat) (a:ByteArray) (b left:Int):∃r,qEX (n+1) a b left=some r:=by
 simp only [qEX,qGO,qC,qE,qG,qH,qJ,qK,Option.bind_some,qF,qM,qN]
 by_cases h:IntKind.i64.wrap (left-a.size)<0
 ·exact ⟨-1,by simp [h]⟩
 ·exact ⟨IntKind.i64.wrap (left-a.size),by simp [h]⟩
theorem qTa (l:List Br) (hb:l.length≤140737488351232) (left:Int):∀n,l.length+5≤n→∃r,qD4 n (l.map qAJ) left=some r:=by
 intro n hn
 obtain ⟨m,rfl,hm⟩:=up1 hn
 obtain ⟨q,rfl⟩:∃q,m=q+2:=⟨m-2,by omega⟩
 simp only [qD4,qFh,qC,qE,qG,qH,qJ,qK,Option.bind_some,qF,qM,qN]
 obtain ⟨r,h⟩:=qQN (B:=qBl (q+2)) (rows:=l.map qAJ)
  (fun i e x he=>by
   obtain ⟨c,hc,rfl⟩:=qPD he
   have hi:i<l.length:=(List.getElem?_eq_some_iff.1 hc).1
   have hi':(i:Int)<l.length:=by omega
   have hw:IntKind.i64.wrap ((i:Int)+1)=(i:Int)+1:=qT (by omega)
   obtain ⟨r,hr⟩:=qUC (q+1) c.1 c.2 x
   by_cases h0:r<0
   ·exact .inr ⟨.inl (-1),by simp [qBl,qC,qE,qG,qH,qJ,qK,Option.bind_some,qF,qM,qN,hi',hc,qAJ,zD,zT,hr,h0]⟩
   ·exact .inl ⟨r,by simp [qBl,qC,qE,qG,qH,qJ,qK,Option.bind_some,qF,qM,qN,hi',hc,qAJ,zD,zT,hr,h0,hw]⟩)
  (fun x=>⟨.inr x,by simp [qBl,qC,qE,qG,qH,qJ,qK,Option.bind_some,qF,qM,qN]⟩) l.length 0 (q+2) (IntKind.i64.wrap (left-l.length)) (by simp) (by omega)
 simp only [Int.natCast_zero] at h
 by_cases h0:IntKind.i64.wrap (left-l.length)<0
 ·exact ⟨-1,by simp [h0]⟩
 ·rcases r with r|r
  ·exact ⟨r,by simp [h0,h,qC,qE,qG,qH,qJ,qK,Option.bind_some,qF,qM,qN]⟩
  ·exact ⟨r,by simp [h0,h,qC,qE,qG,qH,qJ,qK,Option.bind_some,qF,qM,qN]⟩
theorem qVr (x:Int) (l:List Vs) (b:List Br) (hl:l.length≤140737488351232) (hv:∀v∈l,qMA v) (hb:b.length≤140737488351232) (left:Int):∃n0,∀n,n0≤n→∃r,qGl n x (l.map qAN) (b.map qAJ) left=some r:=by
 obtain ⟨n0,h0⟩:=qSD l hl hv
 refine ⟨n0+b.length+8,fun n hn=>?_⟩
 obtain ⟨m,rfl,hm⟩:=up1 hn
 obtain ⟨r,h1⟩:=h0 m (by omega) left
 obtain ⟨r2,h2⟩:=qTa b hb r m (by omega)
 simp only [qGl,qJF,qC,qE,qG,qH,qJ,qK,Option.bind_some,qF,qM,qN,h1,h2]
 by_cases h0:r<0
 ·exact ⟨-1,by simp [h0]⟩
 ·by_cases h3:r2<0
  ·exact ⟨-1,by simp [h0,h3]⟩
  ·exact ⟨r2,by simp [h0,h3]⟩
theorem qTb (v:Vs) (h:qMA v):Ev (qEB · v.1 (v.2.1.map qq) (v.2.2.map qp) v.1 (v.2.1.map qq) (v.2.2.map qp)) true:=by
 refine qIC (qFY (R:=fun n=>qFp n v.1 (v.2.1.map qq) (v.2.2.map qp) v.1 (v.2.1.map qq) (v.2.2.map qp)) (qIh (by simp) (qDN ⟨_,qOw v.2.1 (by have:=h.1;omega)⟩ (qIh rfl (qDN (qQI v.2.2 (by have:=h.2.1;omega)) (qIh rfl (qAm rfl)))))) fun n=>rfl)
theorem qSE (l:List Vs) (hb:l.length≤140737488351232) (hv:∀v∈l,qMA v):Ev (qDk · (l.map qAN) (l.map qAN)) true:=by
 obtain ⟨n0,h0⟩:=qAa (F:=fun (v:Vs) n=>qEB n v.1 (v.2.1.map qq) (v.2.2.map qp) v.1 (v.2.1.map qq) (v.2.2.map qp)) (f:=fun v=>true) l fun v h=>qTb v (hv v h)
 refine ⟨n0+l.length+5,fun n hn=>?_⟩
 obtain ⟨m,rfl,hm⟩:=up1 hn
 simp only [qDk,qFS,qC,qE,qG,qH,qJ,qK,Option.bind_some,qF,qM,qN]
 have h:=qNg (B:=qB7 m) (rows:=l.map qAN) (r:= .inr ())
  (fun i e he=>by
   obtain ⟨c,hc,rfl⟩:=qPD he
   have hi:i<l.length:=(List.getElem?_eq_some_iff.1 hc).1
   have hi':(i:Int)<l.length:=by omega
   have hw:IntKind.i64.wrap ((i:Int)+1)=(i:Int)+1:=qT (by omega)
   have hf:=h0 m (by omega) c (List.mem_of_getElem? hc)
   simp [qB7,qC,qE,qG,qH,qJ,qK,Option.bind_some,qF,qM,qN,hi',hc,qAN,zD,zg,hf,hw])
  (by simp [qB7,qC,qE,qG,qH,qJ,qK,Option.bind_some,qF,qM,qN]) l.length 0 m (by simp) (by omega)
 simp only [Int.natCast_zero] at h
 simp [h,qC,qE,qG,qH,qJ,qK,Option.bind_some,qF,qM,qN]
theorem qTc (l:List Br) (hb:l.length≤140737488351232):Ev (qEC · (l.map qAJ) (l.map qAJ)) true:=by
 refine ⟨l.length+5,fun n hn=>?_⟩
 obtain ⟨m,rfl,hm⟩:=up1 hn
 simp only [qEC,qFq,qC,qE,qG,qH,qJ,qK,Option.bind_some,qF,qM,qN]
 have h:=qNg (B:=qCH m) (rows:=l.map qAJ) (r:= .inr ())
  (fun i e he=>by
   obtain ⟨c,hc,rfl⟩:=qPD he
   have hi:i<l.length:=(List.getElem?_eq_some_iff.1 hc).1
   have hi':(i:Int)<l.length:=by omega
   have hw:IntKind.i64.wrap ((i:Int)+1)=(i:Int)+1:=qT (by omega)
   obtain ⟨q,rfl⟩:∃q,m=q+2:=⟨m-2,by omega⟩
   have hf:∀a b,qEj (q+2) a b a b=some true:=fun a b=>by simp [qEj,qGY,qC,qE,qG,qH,qJ,qK,Option.bind_some,qF,qM,qN]
   simp [qCH,qC,qE,qG,qH,qJ,qK,Option.bind_some,qF,qM,qN,hi',hc,qAJ,zD,zT,hf,hw])
  (by simp [qCH,qC,qE,qG,qH,qJ,qK,Option.bind_some,qF,qM,qN]) l.length 0 m (by simp) (by omega)
 simp only [Int.natCast_zero] at h
 simp [h,qC,qE,qG,qH,qJ,qK,Option.bind_some,qF,qM,qN]
theorem qVs (x:Int) (l:List Vs) (b:List Br) (hl:l.length≤140737488351232) (hv:∀v∈l,qMA v) (hb:b.length≤140737488351232):Ev (qJi · x (l.map qAN) (b.map qAJ) x (l.map qAN) (b.map qAJ)) true:=by
 refine qIC (qFY (R:=fun n=>qJh n x (l.map qAN) (b.map qAJ) x (l.map qAN) (b.map qAJ)) (qIh (by simp) (qDN (qSE l hl hv) (qIh rfl (qDN (qTc b hb) (qIh rfl (qAm rfl)))))) fun n=>rfl)
def qJA {α:Type} (p:α→Bool) (l:List α):Int:=(qGK (fun i a=>if p a=true then some (i:Int) else none) 0 l).getD (-1)
theorem qUD {α:Type} (p:α→Bool):∀(l:List α) (i:Nat),(l.any p=true∧∃k:Nat,qGK (fun i a=>if p a=true then some (i:Int) else none) i l=some (k:Int))∨(l.any p=false∧qGK (fun i a=>if p a=true then some (i:Int) else none) i l=none)
 | [],i=> .inr ⟨rfl,rfl⟩
 |a::l,i=>by
  unfold qGK
  rw [List.any_cons]
  cases p a with
  |true=>exact .inl ⟨rfl,i,rfl⟩
  |false=>exact qUD p l (i+1)
theorem qVt {α:Type} (p:α→Bool) (l:List α):decide (qJA p l<0)=!(l.any p):=by
 unfold qJA
 rcases qUD p l 0 with ⟨e1,k,e2⟩|⟨e1,e2⟩
 ·rw [e1,e2]
  exact decide_eq_false (show ¬(k:Int)<0 by omega)
 ·rw [e1,e2]
  rfl
theorem qUE {α:Type} (p:α→Bool):∀(l:List α) (i:Nat),qGK (fun i a=>if p a=true then some (Sum.inl (β:=Unit) (i:Int)) else none) i l=(qGK (fun i a=>if p a=true then some (i:Int) else none) i l).map Sum.inl
 | [],i=>rfl
 |a::l,i=>by
  unfold qGK
  cases p a with
  |true=>rfl
  |false=>exact qUE p l (i+1)
theorem qUy {α:Type} (p:α→Bool) {l:List α} {K1:Nat→Int→Tr Int} {K2:Nat→Unit→Tr Int} {F:Nat→Option (Int⊕Unit)} (hF:Ev F ((qGK (fun i a=>if p a=true then some (Sum.inl (β:=Unit) (i:Int)) else none) 0 l).getD (.inr ()))) (h1:∀n r,K1 n r= .done r) (h2:∀n r,K2 n r= .done (-1)):Dwx (fun y=>y=qJA p l) fun n=> .opt (F n) fun r=> .alt r (K1 n) (K2 n):=by
 refine qDN hF ?_
 rw [qUE]
 unfold qJA
 cases qGK (fun i a=>if p a=true then some (i:Int) else none) 0 l with
 |some k=>exact qPC (by simp only [h1];exact qAm rfl)
 |none=>exact qPB (by simp only [h2];exact qAm rfl)
theorem qRc (x:Int) (l:List Vs) (b:List (List PV)) (hl:l.length≤140737488351232) (id:Int):Ev (qCT · x (l.map qAN) b id) (qJA (fun v=>v.1==id) l):=by
 refine qIC (qFY (R:=fun n=>qHC n x (l.map qAN) b id) (qUy (fun v:Vs=>v.1==id) (l:=l) ⟨l.length+1,fun m hm=>?_⟩ (fun _ _=>rfl) fun _ _=>rfl) fun n=>rfl)
 have h:=qLU (B:=qFE m) (fun i=>(id,(i:Int),x,l.map qAN,b)) l (fun i v=>if (v.1==id)=true then some (Sum.inl (β:=Unit) (i:Int)) else none) (.inr ())
  (fun i c he=>by
   have hi:=(List.getElem?_eq_some_iff.1 he).1
   obtain ⟨a1,a2⟩:=qD2 rfl (qGM (enc:=qAN) he)
   have w:IntKind.i64.wrap ((i:Int)+1)=((i+1:Nat):Int):=by rw [qT (by omega)];omega
   refine qD (decide_eq_true (by simpa using hi)) (qD a1 (qA a2 (qD rfl (qA rfl ?_))))
   by_cases hc:(c.1==id)=true
   ·rw [if_pos hc];exact qD hc rfl
   ·rw [if_neg hc]
    refine qO (Bool.eq_false_iff.2 hc) ?_
    dsimp only
    rw [w]
    rfl)
  (qO (decide_eq_false (by simp)) rfl) m (by omega)
 exact h
theorem qRd (x:Int) (l:List Vs) (b:List (List PV)) (hl:l.length≤140737488351232) (id:Int):Ev (qBS · x (l.map qAN) b id) (qJA (fun v=>v.1==id) l):=by
 refine qIC (qFY (R:=fun n=>qEn n x (l.map qAN) b id) (qDN (r:=qJA (fun v:Vs=>v.1==id) l) (qIC (qFY (F:=fun n=>qm n (l.map qAN) id) (R:=fun n=>ql n (l.map qAN) id) (qUy (fun v:Vs=>v.1==id) (l:=l) ⟨l.length+2,fun m hm=>?_⟩ (fun _ _=>rfl) fun _ _=>rfl) fun n=>rfl)) (qAm rfl)) fun n=>rfl)
 obtain ⟨q,rfl⟩:∃q,m=q+1:=⟨m-1,by omega⟩
 have h:=qLU (B:=qh (q+1)) (fun i=>(l.map qAN,id,((l.map qAN).length:Int),(i:Int))) l (fun i v=>if (v.1==id)=true then some (Sum.inl (β:=Unit) (i:Int)) else none) (.inr ())
  (fun i c he=>by
   have hi:=(List.getElem?_eq_some_iff.1 he).1
   obtain ⟨a1,a2⟩:=qD2 rfl (qGM (enc:=qAN) he)
   have w:IntKind.i64.wrap ((i:Int)+1)=((i+1:Nat):Int):=by rw [qT (by omega)];omega
   refine qD (decide_eq_true (by simpa using hi)) (qD a1 (qA a2 (qD rfl (qA rfl (qA rfl (qA rfl (qA (rfl:_=some (c.1==id)) ?_)))))))
   by_cases hc:(c.1==id)=true
   ·rw [if_pos hc];exact qD hc rfl
   ·rw [if_neg hc]
    refine qO (Bool.eq_false_iff.2 hc) ?_
    dsimp only
    rw [w]
    rfl)
  (qO (decide_eq_false (by simp)) rfl) (q+1) (by omega)
 exact h
def qJB {α:Type} (r:α→α→Bool) (l:List α):Nat→α→Bool
 |0,_=>true
 |j+1,a=>match l[j]? with
  |some p=>r p a
  |none=>true
def ltI (p a:Int):Bool:=decide (p<a)
def ltV (p a:Vs):Bool:=decide (p.1<a.1)
def ltB (p a:Br):Bool:=Op.bytesLess p.1.toList a.1.toList
def qTd (l:List Vs) (id:Int):Bool:=l.any fun v=>v.1==id
def upP (l:List Vs) (id:Int) (ups:List Int) (i:Nat) (up:Int):Bool:=decide (up<id)&&(qTd l up&&qJB ltI ups i up)
def qUF (l:List Vs) (id:Int) (ups:List Int):Bool:=qAu (upP l id ups) 0 ups
def qMB (x:Int) (l:List Vs) (i:Nat) (v:Vs):Bool:=decide (1≤v.1∧v.1≤x-1)&&(qJB ltV l i v&&((qUF l v.1 v.2.1&&decide ((v.2.1.length:Int)≤2))&&qIg v.2.2))
def zBM (c:UInt8):Bool:=decide (97≤c.toNat∧c.toNat≤122)
def qMP (s:ByteArray):Bool:=decide (1≤s.size∧s.size≤12)&&s.toList.all zBM
def brP (l:List Vs) (bs:List Br) (i:Nat) (b:Br):Bool:=qMP b.1&&(qJB ltB bs i b&&qTd l b.2)
def qSF (x:Int) (l:List Vs) (bs:List Br):Bool:=decide (2≤x∧x≤1000000000)&&(decide (1≤(l.length:Int)∧(l.length:Int)≤40)&&(decide (1≤(bs.length:Int)∧(bs.length:Int)≤8)&&(qAu (qMB x l) 0 l&&qAu (brP l bs) 0 bs)))
theorem qQQ (l:List Vs) (id:Int):decide (qJA (fun v=>v.1==id) l<0)=!(qTd l id):=qVt _ _
theorem qWV {α R:Type} {p:Nat→α→Bool} {e:R} {f:Nat→α→Option R} (h:∀i a,f i a=if p i a=true then none else some e) (l:List α):qGK f 0 l=if qAu p 0 l=true then none else some e:=by
 rw [show f=fun i a=>if p i a=true then none else some e from funext fun i=>funext fun a=>h i a]
 exact qGL
theorem qWW {j:Nat} {l:List (List PV)} {e:List PV} (hj:(j:Int)<140737488355328) (h:l[j]?=some e):decide (0≤IntKind.i64.wrap (((j+1:Nat):Int)-1)∧IntKind.i64.wrap (((j+1:Nat):Int)-1)<l.length)=true∧l[(IntKind.i64.wrap (((j+1:Nat):Int)-1)).toNat]?=some e:=by
 have w:IntKind.i64.wrap (((j+1:Nat):Int)-1)=(j:Int):=by rw [qT (by omega)];omega
 exact qD2 w h
theorem qVH {α:Type} {l:List α} {j:Nat} {a:α} (h:l[j+1]?=some a):∃p,l[j]?=some p:=by
 have:=(List.getElem?_eq_some_iff.1 h).1
 exact ⟨l[j],List.getElem?_eq_getElem (by omega)⟩
theorem qVu {α:Type} {r:α→α→Bool} {l:List α} {j:Nat} {a p:α} (h:l[j]?=some p):qJB r l (j+1) a=r p a:=by unfold qJB;simp only [h]
theorem qWX:∀i:Fin 256,((⟨#[97,98,99,100,101,102,103,104,105,106,107,108,109,110,111,112,113,114,115,116,117,118,119,120,121,122]⟩:ByteArray).data.toList.contains (UInt8.ofNat i.val))=zBM (UInt8.ofNat i.val):=by decide+kernel
theorem qUz:∀(l:List UInt8) (i:Nat),qAu (fun _ c=>zBM c) i l=l.all zBM
 | [],i=>rfl
 |c::l,i=>by
  unfold qAu
  rw [List.all_cons,qUz l (i+1)]
theorem qUZ (s:ByteArray) (hb:s.size≤140737488351232):Ev (qFG · s) (qMP s):=by
 have ht:=qAZ s
 refine qIC (qFY (R:=fun n=>qHD n s) ?_ fun n=>rfl)
 unfold qMP
 by_cases h1:1≤s.size∧s.size≤12
 rotate_left
 ·rw [decide_eq_false h1,Bool.false_and]
  by_cases h2:(s.size:Int)<1
  ·exact qI9 (decide_eq_true h2) (qAm rfl)
  ·exact qIh (decide_eq_false h2) (qI9 (decide_eq_true (by omega)) (qAm rfl))
 rw [decide_eq_true h1,Bool.true_and]
 refine qIh (decide_eq_false (by omega)) (qIh (decide_eq_false (by omega)) ?_)
 refine qDN (r:=if s.toList.all zBM=true then Sum.inr () else Sum.inl false) ⟨s.size+1,fun m hm=>?_⟩ ?_
 ·have h:=qLU (B:=qFF m) (fun i=>(s,(i:Int))) s.toList (fun i c=>if zBM c=true then none else some (.inl false)) (.inr ())
   (fun i c he=>by
    have hi:=(List.getElem?_eq_some_iff.1 he).1
    have w:IntKind.i64.wrap ((i:Int)+1)=((i+1:Nat):Int):=by rw [qT (by omega)];omega
    have hg:s.toList[((i:Int)).toNat]?=some c:=by rw [Int.toNat_natCast];exact he
    refine qD (decide_eq_true (show (i:Int)<(s.size:Int) by omega)) (qD (decide_eq_true (by omega)) (qA hg ?_))
    unfold zBM
    by_cases h1:(c.toNat:Int)<97
    ·rw [decide_eq_false (p:=97≤c.toNat∧c.toNat≤122) (by omega)]
     exact qD (decide_eq_true h1) rfl
    ·refine qO (decide_eq_false h1) (qD (decide_eq_true (by omega)) (qA hg ?_))
     by_cases h2:(c.toNat:Int)>122
     ·rw [decide_eq_false (p:=97≤c.toNat∧c.toNat≤122) (by omega)]
      exact qD (decide_eq_true h2) rfl
     ·rw [decide_eq_true (p:=97≤c.toNat∧c.toNat≤122) (by omega)]
      refine qO (decide_eq_false h2) ?_
      dsimp only
      rw [w]
      rfl)
   (qO (decide_eq_false (by dsimp only;omega)) rfl) m (by omega)
  rw [qWV (p:=fun _ c=>zBM c) (fun i a=>rfl),qUz] at h
  refine h.trans ?_
  cases s.toList.all zBM<;>rfl
 ·cases s.toList.all zBM with
  |true=>exact qPB (qAm rfl)
  |false=>exact qPC (qAm rfl)
theorem qVI (s:ByteArray) (hb:s.size≤140737488351232):Ev (qF2 · s) (qMP s):=by
 refine qIC (qFY (R:=fun n=>qIY n s) ?_ fun n=>rfl)
 unfold qMP
 by_cases h1:(s.size:Int)≥1
 rotate_left
 ·rw [decide_eq_false (p:=1≤s.size∧s.size≤12) (by omega),Bool.false_and]
  exact qIh (decide_eq_false h1) (qAm rfl)
 refine qI9 (decide_eq_true h1) ?_
 by_cases h2:(s.size:Int)≤12
 rotate_left
 ·rw [decide_eq_false (p:=1≤s.size∧s.size≤12) (by omega),Bool.false_and]
  exact qIh (decide_eq_false h2) (qAm rfl)
 rw [decide_eq_true (p:=1≤s.size∧s.size≤12) (by omega),Bool.true_and]
 refine qI9 (decide_eq_true h2) ?_
 have tr:Ev (qDx · s ⟨#[97,98,99,100,101,102,103,104,105,106,107,108,109,110,111,112,113,114,115,116,117,118,119,120,121,122]⟩) (BR (((s.toList.reverse.dropWhile zBM).reverse).dropWhile zBM)):=⟨1,fun n hn=>by
  obtain ⟨m,rfl,hm⟩:=up1 hn
  show zAA s ⟨#[97,98,99,100,101,102,103,104,105,106,107,108,109,110,111,112,113,114,115,116,117,118,119,120,121,122]⟩=_
  unfold zAA
  rw [if_pos ⟨by omega,by decide,by decide+kernel⟩]
  unfold Lib.trimS Lib.trimLeftS Lib.trimRightS
  have:(fun c=>(⟨#[97,98,99,100,101,102,103,104,105,106,107,108,109,110,111,112,113,114,115,116,117,118,119,120,121,122]⟩:ByteArray).data.toList.contains c)=zBM:=funext (qTN qWX)
  rw [this,←Go.Lib.toList_data s]
  rfl⟩
 refine qDN tr (qAm ?_)
 rw [qAR,qAH]
 by_cases ha:s.toList.all zBM=true
 ·rw [qN1.2 ha,ha];rfl
 ·have hx:¬(s.toList.reverse.dropWhile zBM).reverse.dropWhile zBM= []:=fun e=>ha (qN1.1 e)
  rw [beq_eq_false_iff_ne.2 hx,Bool.eq_false_iff.2 ha]
theorem qJC {α β:Type} {enc:α→List PV} {r:α→α→Bool} {l:List α} {i:Nat} {a:α} (he:l[i]?=some a) (hb:l.length≤140737488351232) (bad:Tr β) {t:Tr β} {K:List PV→Tr β} (hK:∀p,(K (enc p)).run=if r p a=true then t.run else bad.run):
  (Tr.ask (decide ((i:Int)>0)) (.ask (decide (0≤IntKind.i64.wrap ((i:Int)-1)∧IntKind.i64.wrap ((i:Int)-1)<((l.map enc).length:Int))) (.opt ((l.map enc)[(IntKind.i64.wrap ((i:Int)-1)).toNat]?) K) .fail) t).run=if qJB r l i a=true then t.run else bad.run:=by
 have hi:=(List.getElem?_eq_some_iff.1 he).1
 cases i with
 |zero=>exact qO rfl (by rw [show qJB r l 0 a=true from rfl,if_pos rfl])
 |succ j=>
  obtain ⟨p,hp⟩:=qVH he
  obtain ⟨b1,b2⟩:=qWW (by omega) (qGM (enc:=enc) hp)
  rw [qVu hp]
  exact qD (decide_eq_true (by omega)) (qD b1 (qA b2 (hK p)))
theorem qVv (x:Int) (l:List Vs) (b:List (List PV)) (hl:l.length≤140737488351232) (ups:List Int) (hu:ups.length≤140737488351232) (id:Int):Ev (qDI · x (l.map qAN) b (ups.map qq) id) (qUF l id ups&&decide ((ups.length:Int)≤2)):=by
 obtain ⟨n1,h1⟩:=qAa (F:=fun (up:Int) n=>qBS n x (l.map qAN) b up) (f:=fun up=>qJA (fun v:Vs=>v.1==up) l) ups fun up _=>qRd x l b hl up
 refine ⟨n1+ups.length+3,fun n hn=>?_⟩
 obtain ⟨m,rfl,hm⟩:=up1 hn
 have h:=qLU (B:=qEK m) (fun i=>(ups.map qq,id,ups.map qq,((ups.map qq).length:Int),(i:Int),x,l.map qAN,b)) ups (fun i c=>if upP l id ups i c=true then none else some (.inl false)) (.inr (ups.map qq))
  (fun i c he=>by
   have hi:=(List.getElem?_eq_some_iff.1 he).1
   obtain ⟨a1,a2⟩:=qD2 rfl (qGM (enc:=qq) he)
   have h1:=h1 m (by omega) c (List.mem_of_getElem? he)
   have w:IntKind.i64.wrap ((i:Int)+1)=((i+1:Nat):Int):=by rw [qT (by omega)];omega
   refine qD (decide_eq_true (by simpa using hi)) (qD a1 (qA a2 (qD rfl (qA rfl ?_))))
   dsimp only
   rw [w]
   unfold upP
   by_cases k1:c≥id
   ·rw [decide_eq_false (p:=c<id) (by omega)];exact qD (decide_eq_true k1) rfl
   refine qO (decide_eq_false k1) (qA h1 ?_)
   rw [decide_eq_true (p:=c<id) (by omega),Bool.true_and]
   have hv:=qQQ l c
   cases hh:qTd l c with
   |false=>rw [hh] at hv;exact qD hv rfl
   |true=>
    rw [hh] at hv
    refine qO hv ?_
    rw [Bool.true_and]
    refine (qJC (enc:=qq) (r:=ltI) he hu (.done (.inr (.inl false))) fun p=>?_).trans ?_
    ·refine qD rfl (qA rfl ?_)
     unfold ltI
     by_cases k3:p≥c
     ·rw [decide_eq_false (p:=p<c) (by omega)];exact qD (decide_eq_true k3) rfl
     ·rw [decide_eq_true (p:=p<c) (by omega)];exact qO (decide_eq_false k3) rfl
    ·cases qJB ltI ups i c<;>rfl)
  (qO (decide_eq_false (by simp)) rfl) m (by omega)
 refine qA h ?_
 rw [qGL]
 unfold qUF
 cases qAu (upP l id ups) 0 ups with
 |true=>
  rw [Bool.true_and]
  show some (decide (((ups.map qq).length:Int)≤2))=_
  rw [List.length_map]
 |false=>rfl
theorem qSG (x:Int) (hx:2≤x∧x≤1000000000) (l:List Vs) (b:List (List PV)) (hl:l.length≤140737488351232) (hv:∀v∈l,qMA v):∃n0,∀m,n0≤m→zC (qEg m) m (l.map qAN,((l.map qAN).length:Int),0,x,l.map qAN,b)=some (if qAu (qMB x l) 0 l=true then .inr (x,l.map qAN,b) else .inl false):=by
 obtain ⟨n1,h1⟩:=qAa (F:=fun (v:Vs) n=>q8 n v.1 1 (x-1)) (f:=fun v=>decide (1≤v.1∧v.1≤x-1)) l fun v _=>q7 v.1 1 (x-1)
 obtain ⟨n2,h2⟩:=qAa (F:=fun (v:Vs) n=>qDI n x (l.map qAN) b (v.2.1.map qq) v.1) (f:=fun v=>qUF l v.1 v.2.1&&decide ((v.2.1.length:Int)≤2)) l fun v hm=>qVv x l b hl v.2.1 (by have:=(hv v hm).1;omega) v.1
 obtain ⟨n3,h3⟩:=qAa (F:=fun (v:Vs) n=>qDy n (v.2.2.map qp)) (f:=fun v=>qIg v.2.2) l fun v hm=>qQF v.2.2 (by have:=(hv v hm).2.1;omega) (hv v hm).2.2
 refine ⟨n1+n2+n3+l.length+3,fun m hm=>?_⟩
 have h:=qLU (B:=qEg m) (fun i=>(l.map qAN,((l.map qAN).length:Int),(i:Int),x,l.map qAN,b)) l (fun i c=>if qMB x l i c=true then none else some (.inl false)) (.inr (x,l.map qAN,b))
  (fun i c he=>by
   have hi:=(List.getElem?_eq_some_iff.1 he).1
   obtain ⟨a1,a2⟩:=qD2 rfl (qGM (enc:=qAN) he)
   have h1:=h1 m (by omega) c (List.mem_of_getElem? he)
   have h2:=h2 m (by omega) c (List.mem_of_getElem? he)
   have h3:=h3 m (by omega) c (List.mem_of_getElem? he)
   have w:IntKind.i64.wrap ((i:Int)+1)=((i+1:Nat):Int):=by rw [qT (by omega)];omega
   have wx:IntKind.i64.wrap (x-1)=x-1:=qT (by omega)
   refine qD (decide_eq_true (by simpa using hi)) (qD a1 (qA a2 (qD rfl (qA rfl (qA rfl (qA rfl ?_))))))
   dsimp only
   rw [w,wx]
   refine qA h1 ?_
   unfold qMB
   cases decide (1≤c.1∧c.1≤x-1) with
   |false=>exact qD rfl rfl
   |true=>
    refine qO rfl ?_
    rw [Bool.true_and]
    refine (qJC (enc:=qAN) (r:=ltV) he hl (.done (.inr (.inl false))) fun p=>?_).trans ?_
    ·refine qD rfl (qA rfl ?_)
     unfold ltV
     by_cases k3:p.1≥c.1
     ·rw [decide_eq_false (p:=p.1<c.1) (by omega)];exact qD (decide_eq_true k3) rfl
     ·rw [decide_eq_true (p:=p.1<c.1) (by omega)];exact qO (decide_eq_false k3) rfl
    ·cases qJB ltV l i c with
     |false=>rfl
     |true=>
      rw [if_pos rfl,Bool.true_and]
      refine qA h2 ?_
      cases qUF l c.1 c.2.1&&decide ((c.2.1.length:Int)≤2) with
      |false=>exact qD rfl rfl
      |true=>
       refine qO rfl (qA h3 ?_)
       cases qIg c.2.2 with
       |false=>exact qD rfl rfl
       |true=>exact qO rfl rfl)
  (qO (decide_eq_false (by simp)) rfl) m (by omega)
 rw [qGL] at h
 refine h.trans ?_
 cases qAu (qMB x l) 0 l<;>rfl
theorem qSH (x:Int) (l:List Vs) (bs:List Br) (hl:l.length≤140737488351232) (hb:bs.length≤140737488351232) (hs:∀b∈bs,b.1.size≤140737488351232):∃n0,∀m,n0≤m→zC (qEh m) m (bs.map qAJ,((bs.map qAJ).length:Int),0,x,l.map qAN,bs.map qAJ)=some (if qAu (brP l bs) 0 bs=true then .inr () else .inl false):=by
 obtain ⟨n1,h1⟩:=qAa (F:=fun (b:Br) n=>qF2 n b.1) (f:=fun b=>qMP b.1) bs fun b h=>qVI b.1 (hs b h)
 obtain ⟨n2,h2⟩:=qAa (F:=fun (b:Br) n=>qBS n x (l.map qAN) (bs.map qAJ) b.2) (f:=fun b=>qJA (fun v:Vs=>v.1==b.2) l) bs fun b _=>qRd x l _ hl b.2
 refine ⟨n1+n2+bs.length+3,fun m hm=>?_⟩
 have h:=qLU (B:=qEh m) (fun i=>(bs.map qAJ,((bs.map qAJ).length:Int),(i:Int),x,l.map qAN,bs.map qAJ)) bs (fun i c=>if brP l bs i c=true then none else some (.inl false)) (.inr ())
  (fun i c he=>by
   have hi:=(List.getElem?_eq_some_iff.1 he).1
   obtain ⟨a1,a2⟩:=qD2 rfl (qGM (enc:=qAJ) he)
   have h1:=h1 m (by omega) c (List.mem_of_getElem? he)
   have h2:=h2 m (by omega) c (List.mem_of_getElem? he)
   have w:IntKind.i64.wrap ((i:Int)+1)=((i+1:Nat):Int):=by rw [qT (by omega)];omega
   refine qD (decide_eq_true (by simpa using hi)) (qD a1 (qA a2 (qD rfl (qA rfl (qA rfl ?_)))))
   dsimp only
   rw [w]
   refine qA h1 ?_
   unfold brP
   cases qMP c.1 with
   |false=>exact qD rfl rfl
   |true=>
    refine qO rfl ?_
    rw [Bool.true_and]
    refine (qJC (enc:=qAJ) (r:=ltB) he hb (.done (.inr (.inl false))) fun p=>?_).trans ?_
    ·refine qD rfl (qA rfl ?_)
     unfold ltB
     cases Op.bytesLess p.1.toList c.1.toList with
     |false=>exact qD rfl rfl
     |true=>exact qO rfl rfl
    ·cases qJB ltB bs i c with
     |false=>rfl
     |true=>
      rw [if_pos rfl,Bool.true_and]
      refine qA h2 ?_
      have hv:=qQQ l c.2
      cases hh:qTd l c.2 with
      |false=>rw [hh] at hv;exact qD hv rfl
      |true=>rw [hh] at hv;exact qO hv rfl)
  (qO (decide_eq_false (by simp)) rfl) m (by omega)
 rw [qGL] at h
 refine h.trans ?_
 cases qAu (brP l bs) 0 bs<;>rfl
theorem qSI (x:Int) (l:List Vs) (bs:List Br) (hl:l.length≤140737488351232) (hv:∀v∈l,qMA v) (hb:bs.length≤140737488351232) (hs:∀b∈bs,b.1.size≤140737488351232):Ev (qJd · x (l.map qAN) (bs.map qAJ)) (qSF x l bs):=by
 refine qIC (qFY (R:=fun n=>qJc n x (l.map qAN) (bs.map qAJ)) (qDN (q7 x 2 1000000000) ?_) fun n=>rfl)
 unfold qSF
 by_cases hx:2≤x∧x≤1000000000
 rotate_left
 ·rw [decide_eq_false hx];exact qI9 rfl (qAm rfl)
 rw [decide_eq_true hx,Bool.true_and]
 refine qIh rfl (qDN (q7 _ 1 40) ?_)
 rw [List.length_map]
 cases decide (1≤(l.length:Int)∧(l.length:Int)≤40) with
 |false=>exact qI9 rfl (qAm rfl)
 |true=>
  rw [Bool.true_and]
  refine qIh rfl (qDN (q7 _ 1 8) ?_)
  rw [List.length_map]
  cases decide (1≤(bs.length:Int)∧(bs.length:Int)≤8) with
  |false=>exact qI9 rfl (qAm rfl)
  |true=>
   rw [Bool.true_and]
   have e1:=qSG x hx l (bs.map qAJ) hl hv
   have e2:=qSH x l bs hl hb hs
   rw [List.length_map] at e1 e2
   refine qIh rfl (qDN (r:=if qAu (qMB x l) 0 l=true then Sum.inr (x,l.map qAN,bs.map qAJ) else Sum.inl false) e1 ?_)
   cases qAu (qMB x l) 0 l with
   |false=>exact qPC (qAm rfl)
   |true=>
    rw [Bool.true_and,if_pos rfl]
    refine qPB ?_
    dsimp only
    rw [List.length_map]
    refine qDN (r:=if qAu (brP l bs) 0 bs=true then Sum.inr () else Sum.inl false) e2 ?_
    cases qAu (brP l bs) 0 bs with
    |false=>exact qPC (qAm rfl)
    |true=>exact qPB (qAm rfl)
theorem qUa (n:Nat) (x:Int) (l:List Vs) (b:List (List PV)) (k:Int) (ups:List Int) (hu:ups.length≤140737488351232) (id:Int) (sh:List (List PV)) (h1:∀c∈ups,qCT n x (l.map qAN) b c=some (qJA (fun v:Vs=>v.1==c) l)):
  ∀M,ups.length+1≤M→zC (qDG n) M (k,0,x,l.map qAN,b,id,ups.map qq,sh)=some (if qUF l id ups=true then .inr (k,x,l.map qAN,b) else .inl false):=by
 intro M hM
 have h:=qLU (B:=qDG n) (fun i=>(k,(i:Int),x,l.map qAN,b,id,ups.map qq,sh)) ups (fun i c=>if upP l id ups i c=true then none else some (.inl false)) (.inr (k,x,l.map qAN,b))
  (fun i c he=>by
   have hi:=(List.getElem?_eq_some_iff.1 he).1
   obtain ⟨a1,a2⟩:=qD2 rfl (qGM (enc:=qq) he)
   have h1:=h1 c (List.mem_of_getElem? he)
   have w:IntKind.i64.wrap ((i:Int)+1)=((i+1:Nat):Int):=by rw [qT (by omega)];omega
   refine qD (decide_eq_true (by simpa using hi)) (qD a1 (qA a2 (qD rfl (qA rfl ?_))))
   dsimp only
   rw [w]
   unfold upP
   by_cases k1:c≥id
   ·rw [decide_eq_false (p:=c<id) (by omega)];exact qD (decide_eq_true k1) rfl
   refine qO (decide_eq_false k1) (qD a1 (qA a2 (qD rfl (qA rfl (qA h1 ?_)))))
   rw [decide_eq_true (p:=c<id) (by omega),Bool.true_and]
   have hv:=qQQ l c
   cases hh:qTd l c with
   |false=>rw [hh] at hv;exact qD hv rfl
   |true=>
    rw [hh] at hv
    refine qO hv ?_
    rw [Bool.true_and]
    refine (qJC (enc:=qq) (r:=ltI) he hu (.done (.inr (.inl false))) fun p=>?_).trans ?_
    ·refine qD rfl (qA rfl (qD a1 (qA a2 (qD rfl (qA rfl ?_)))))
     unfold ltI
     by_cases k3:p≥c
     ·rw [decide_eq_false (p:=p<c) (by omega)];exact qD (decide_eq_true k3) rfl
     ·rw [decide_eq_true (p:=p<c) (by omega)];exact qO (decide_eq_false k3) rfl
    ·cases qJB ltI ups i c<;>rfl)
  (qO (decide_eq_false (by simp)) rfl) M hM
 rw [qGL] at h
 unfold qUF
 refine h.trans ?_
 cases qAu (upP l id ups) 0 ups<;>rfl
theorem qVw:∀(l:List Vs),∃M,∀v∈l,v.2.1.length≤M
 | []=>⟨0,fun v h=>by cases h⟩
 |a::l=>by
  obtain ⟨M,h⟩:=qVw l
  refine ⟨M+a.2.1.length,fun v hv=>?_⟩
  rcases List.mem_cons.1 hv with rfl|hv
  ·omega
  ·have:=h v hv
   omega
theorem qSJ (x:Int) (hx:2≤x∧x≤1000000000) (l:List Vs) (b:List (List PV)) (hl:l.length≤140737488351232) (hv:∀v∈l,qMA v):∃n0,∀m,n0≤m→zC (qEc m) m (0,x,l.map qAN,b)=some (if qAu (qMB x l) 0 l=true then .inr (x,l.map qAN,b) else .inl false):=by
 obtain ⟨n1,h1⟩:=qAa (F:=fun (v:Vs) n=>qA1 n v.1 1 (x-1)) (f:=fun v=>decide (1≤v.1∧v.1≤x-1)) l fun v _=>qB3 v.1 1 (x-1)
 obtain ⟨n2,h2⟩:=qAa (F:=fun (c:Int) n=>qCT n x (l.map qAN) b c) (f:=fun c=>qJA (fun v:Vs=>v.1==c) l) (l.flatMap fun v=>v.2.1) fun c _=>qRc x l b hl c
 obtain ⟨n3,h3⟩:=qAa (F:=fun (v:Vs) n=>qDp n (v.2.2.map qp)) (f:=fun v=>qIg v.2.2) l fun v hm=>qQE v.2.2 (by have:=(hv v hm).2.1;omega) (hv v hm).2.2
 obtain ⟨n4,h4⟩:=qVw l
 refine ⟨n1+n2+n3+n4+l.length+3,fun m hm=>?_⟩
 have h:=qLU (B:=qEc m) (fun i=>((i:Int),x,l.map qAN,b)) l (fun i c=>if qMB x l i c=true then none else some (.inl false)) (.inr (x,l.map qAN,b))
  (fun i c he=>by
   have hi:=(List.getElem?_eq_some_iff.1 he).1
   have hmem:=List.mem_of_getElem? he
   obtain ⟨a1,a2⟩:=qD2 rfl (qGM (enc:=qAN) he)
   have h1:=h1 m (by omega) c hmem
   have h3:=h3 m (by omega) c hmem
   have h4:=h4 c hmem
   have hu:=qUa m x l b (i:Int) c.2.1 (by have:=(hv c hmem).1;omega) c.1 (c.2.2.map qp) (fun u hu=>h2 m (by omega) u (List.mem_flatMap.2 ⟨c,hmem,hu⟩)) m (by omega)
   have w:IntKind.i64.wrap ((i:Int)+1)=((i+1:Nat):Int):=by rw [qT (by omega)];omega
   have wx:IntKind.i64.wrap (x-1)=x-1:=qT (by omega)
   refine qD (decide_eq_true (by simpa using hi)) (qD a1 (qA a2 (qD rfl (qA rfl (qA rfl (qA rfl ?_))))))
   dsimp only
   rw [wx]
   refine qA h1 ?_
   unfold qMB
   cases decide (1≤c.1∧c.1≤x-1) with
   |false=>exact qD rfl rfl
   |true=>
    refine qO rfl ?_
    rw [Bool.true_and]
    refine (qJC (enc:=qAN) (r:=ltV) he hl (.done (.inr (.inl false))) fun p=>?_).trans ?_
    ·refine qD rfl (qA rfl ?_)
     unfold ltV
     by_cases k3:p.1≥c.1
     ·rw [decide_eq_false (p:=p.1<c.1) (by omega)];exact qD (decide_eq_true k3) rfl
     ·rw [decide_eq_true (p:=p.1<c.1) (by omega)];exact qO (decide_eq_false k3) rfl
    ·cases qJB ltV l i c with
     |false=>rfl
     |true=>
      rw [if_pos rfl,Bool.true_and]
      by_cases k2:((c.2.1.map qq).length:Int)>2
      ·have k2':=k2
       rw [List.length_map] at k2'
       rw [decide_eq_false (p:=(c.2.1.length:Int)≤2) (by omega),Bool.and_false]
       exact qD (decide_eq_true k2) rfl
      have k2':=k2
      rw [List.length_map] at k2'
      rw [decide_eq_true (p:=(c.2.1.length:Int)≤2) (by omega),Bool.and_true]
      refine qO (decide_eq_false k2) (qA h3 ?_)
      cases qIg c.2.2 with
      |false=>rw [Bool.and_false];exact qD rfl rfl
      |true=>
       rw [Bool.and_true]
       refine qO rfl (qA hu ?_)
       cases qUF l c.1 c.2.1 with
       |false=>rfl
       |true=>
        show some (Sum.inl (IntKind.i64.wrap ((i:Int)+1),x,l.map qAN,b))=_
        rw [w]
        rfl)
  (qO (decide_eq_false (by simp)) rfl) m (by omega)
 rw [qGL] at h
 refine h.trans ?_
 cases qAu (qMB x l) 0 l<;>rfl
theorem qSK (x:Int) (l:List Vs) (bs:List Br) (hl:l.length≤140737488351232) (hb:bs.length≤140737488351232) (hs:∀b∈bs,b.1.size≤140737488351232):∃n0,∀m,n0≤m→zC (qEd m) m (0,x,l.map qAN,bs.map qAJ)=some (if qAu (brP l bs) 0 bs=true then .inr () else .inl false):=by
 obtain ⟨n1,h1⟩:=qAa (F:=fun (b:Br) n=>qFG n b.1) (f:=fun b=>qMP b.1) bs fun b h=>qUZ b.1 (hs b h)
 obtain ⟨n2,h2⟩:=qAa (F:=fun (b:Br) n=>qCT n x (l.map qAN) (bs.map qAJ) b.2) (f:=fun b=>qJA (fun v:Vs=>v.1==b.2) l) bs fun b _=>qRc x l _ hl b.2
 refine ⟨n1+n2+bs.length+3,fun m hm=>?_⟩
 have h:=qLU (B:=qEd m) (fun i=>((i:Int),x,l.map qAN,bs.map qAJ)) bs (fun i c=>if brP l bs i c=true then none else some (.inl false)) (.inr ())
  (fun i c he=>by
   have hi:=(List.getElem?_eq_some_iff.1 he).1
   obtain ⟨a1,a2⟩:=qD2 rfl (qGM (enc:=qAJ) he)
   have h1:=h1 m (by omega) c (List.mem_of_getElem? he)
   have h2:=h2 m (by omega) c (List.mem_of_getElem? he)
   have w:IntKind.i64.wrap ((i:Int)+1)=((i+1:Nat):Int):=by rw [qT (by omega)];omega
   refine qD (decide_eq_true (by simpa using hi)) (qD a1 (qA a2 (qD rfl (qA rfl (qA rfl ?_)))))
   dsimp only
   rw [w]
   refine qA h1 ?_
   unfold brP
   cases qMP c.1 with
   |false=>exact qD rfl rfl
   |true=>
    refine qO rfl (qA h2 ?_)
    rw [Bool.true_and]
    have hv:=qQQ l c.2
    cases hh:qTd l c.2 with
    |false=>rw [hh] at hv;rw [Bool.and_false];exact qD hv rfl
    |true=>
     rw [hh] at hv
     rw [Bool.and_true]
     refine qO hv ?_
     refine (qJC (enc:=qAJ) (r:=ltB) he hb (.done (.inr (.inl false))) fun p=>?_).trans ?_
     ·refine qD rfl (qA rfl ?_)
      unfold ltB
      cases Op.bytesLess p.1.toList c.1.toList with
      |false=>exact qD rfl rfl
      |true=>exact qO rfl rfl
     ·cases qJB ltB bs i c<;>rfl)
  (qO (decide_eq_false (by simp)) rfl) m (by omega)
 rw [qGL] at h
 refine h.trans ?_
 cases qAu (brP l bs) 0 bs<;>rfl
theorem qSL (x:Int) (l:List Vs) (bs:List Br) (hl:l.length≤140737488351232) (hv:∀v∈l,qMA v) (hb:bs.length≤140737488351232) (hs:∀b∈bs,b.1.size≤140737488351232):Ev (qJN · x (l.map qAN) (bs.map qAJ)) (qSF x l bs):=by
 refine qIC (qFY (R:=fun n=>qJM n x (l.map qAN) (bs.map qAJ)) (qDN (qB3 x 2 1000000000) ?_) fun n=>rfl)
 unfold qSF
 by_cases hx:2≤x∧x≤1000000000
 rotate_left
 ·rw [decide_eq_false hx];exact qI9 rfl (qAm rfl)
 rw [decide_eq_true hx,Bool.true_and]
 refine qIh rfl ?_
 have el:((l.map qAN).length:Int)=(l.length:Int):=by rw [List.length_map]
 have eb:((bs.map qAJ).length:Int)=(bs.length:Int):=by rw [List.length_map]
 by_cases k1:((l.map qAN).length:Int)<1
 ·rw [decide_eq_false (p:=1≤(l.length:Int)∧(l.length:Int)≤40) (by omega)];exact qI9 (decide_eq_true k1) (qAm rfl)
 refine qIh (decide_eq_false k1) ?_
 by_cases k2:((l.map qAN).length:Int)>40
 ·rw [decide_eq_false (p:=1≤(l.length:Int)∧(l.length:Int)≤40) (by omega)];exact qI9 (decide_eq_true k2) (qAm rfl)
 refine qIh (decide_eq_false k2) ?_
 rw [decide_eq_true (p:=1≤(l.length:Int)∧(l.length:Int)≤40) (by omega),Bool.true_and]
 by_cases k3:((bs.map qAJ).length:Int)<1
 ·rw [decide_eq_false (p:=1≤(bs.length:Int)∧(bs.length:Int)≤8) (by omega)];exact qI9 (decide_eq_true k3) (qAm rfl)
 refine qIh (decide_eq_false k3) ?_
 by_cases k4:((bs.map qAJ).length:Int)>8
 ·rw [decide_eq_false (p:=1≤(bs.length:Int)∧(bs.length:Int)≤8) (by omega)];exact qI9 (decide_eq_true k4) (qAm rfl)
 refine qIh (decide_eq_false k4) ?_
 rw [decide_eq_true (p:=1≤(bs.length:Int)∧(bs.length:Int)≤8) (by omega),Bool.true_and]
 refine qDN (r:=if qAu (qMB x l) 0 l=true then Sum.inr (x,l.map qAN,bs.map qAJ) else Sum.inl false) (qSJ x hx l (bs.map qAJ) hl hv) ?_
 cases qAu (qMB x l) 0 l with
 |false=>exact qPC (qAm rfl)
 |true=>
  rw [Bool.true_and,if_pos rfl]
  refine qPB ?_
  refine qDN (r:=if qAu (brP l bs) 0 bs=true then Sum.inr () else Sum.inl false) (qSK x l bs hl hb hs) ?_
  cases qAu (brP l bs) 0 bs with
  |false=>exact qPC (qAm rfl)
  |true=>exact qPB (qAm rfl)
inductive Rch (sc:Nat→List Nat) (a:Nat):Nat→Prop
 |one {j:Nat}:j∈sc a→Rch sc a j
 |more {i j:Nat}:Rch sc a i→j∈sc i→Rch sc a j
def qJr (Q:List Nat):List Nat→List Nat
 | []=>Q
 |x::M=>qJr (if Q.contains x=true then Q else Q++ [x]) M
theorem qFv {x:Nat}:∀(M Q:List Nat),x∈qJr Q M↔x∈Q∨x∈M
 | [],Q=>by simp [qJr]
 |y::M,Q=>by
  unfold qJr
  rw [qFv M]
  by_cases h:Q.contains y=true
  ·rw [if_pos h]
   have hy:y∈Q:=by simpa using h
   rw [List.mem_cons]
   constructor
   ·rintro (h|h)
    ·exact .inl h
    ·exact .inr (.inr h)
   ·rintro (h|rfl|h)
    ·exact .inl h
    ·exact .inl hy
    ·exact .inr h
  ·rw [if_neg h,List.mem_append,List.mem_singleton,List.mem_cons,or_assoc]
theorem qN5:∀(M Q:List Nat),Q.Nodup→(qJr Q M).Nodup
 | [],Q,h=>h
 |y::M,Q,h=>by
  unfold qJr
  refine qN5 M _ ?_
  by_cases hy:Q.contains y=true
  ·rw [if_pos hy];exact h
  ·rw [if_neg hy]
   have hy':y∉Q:=by simpa using hy
   rw [List.nodup_append]
   refine ⟨h,by simp,fun a ha b hb=>?_⟩
   rw [List.mem_singleton] at hb
   subst hb
   rintro rfl
   exact hy' ha
theorem qM7:∀(M Q:List Nat) (k:Nat),k<Q.length→(qJr Q M)[k]?=Q[k]?
 | [],Q,k,h=>rfl
 |y::M,Q,k,h=>by
  unfold qJr
  by_cases hy:Q.contains y=true
  ·rw [if_pos hy];exact qM7 M Q k h
  ·rw [if_neg hy,qM7 M _ k (by simp;omega),List.getElem?_append_left h]
theorem qUb:∀(n:Nat) (l:List Nat),l.Nodup→(∀x∈l,x<n)→l.length≤n
 |0,l,_,h=>by
  cases l with
  |nil=>simp
  |cons a l=>exact absurd (h a (List.mem_cons_self ..)) (Nat.not_lt_zero a)
 |n+1,l,hd,h=>by
  by_cases hn:n∈l
  ·have h1:=qUb n (l.erase n) (hd.erase n) fun x hx=>by
    have h2:=(hd.mem_erase_iff).1 hx
    have:=h x h2.2
    omega
   rw [List.length_erase_of_mem hn] at h1
   omega
  ·have:=qUb n l hd fun x hx=>by
    have h2:=h x hx
    have h3:x≠n:=fun e=>hn (e▸hx)
    omega
   omega
structure QI (sc:Nat→List Nat) (a n:Nat) (Q:List Nat) (k:Nat):Prop where
 nd:Q.Nodup
 lt:∀x∈Q,x<n
 rc:∀x∈Q,Rch sc a x
 st:∀j∈sc a,j∈Q
 dn:∀i q,i<k→Q[i]?=some q→q≠a∧∀j∈sc q,j∈Q
theorem QI.len {sc:Nat→List Nat} {a n:Nat} {Q:List Nat} {k:Nat} (h:QI sc a n Q k):Q.length≤n:=qUb n Q h.nd h.lt
theorem QI.all {sc:Nat→List Nat} {a n:Nat} {Q:List Nat} (h:QI sc a n Q Q.length):¬Rch sc a a:=by
 have key:∀x,Rch sc a x→x∈Q:=fun x hx=>by
  induction hx with
  |one h1=>exact h.st _ h1
  |more h1 h2 ih=>
   obtain ⟨i,hi,e⟩:=List.mem_iff_getElem.1 ih
   exact (h.dn i _ hi (by rw [List.getElem?_eq_getElem hi,e])).2 _ h2
 intro hr
 obtain ⟨i,hi,e⟩:=List.mem_iff_getElem.1 (key a hr)
 exact (h.dn i _ hi (by rw [List.getElem?_eq_getElem hi,e])).1 rfl
theorem QI.next {sc:Nat→List Nat} {a n:Nat} {Q:List Nat} {k q:Nat} (h:QI sc a n Q k) (hq:Q[k]?=some q) (hne:q≠a) (hs:∀j∈sc q,j<n):QI sc a n (qJr Q (sc q)) (k+1):=by
 have hk:=(List.getElem?_eq_some_iff.1 hq).1
 have hm:=List.mem_of_getElem? hq
 refine ⟨qN5 _ _ h.nd,fun x hx=>?_,fun x hx=>?_,fun j hj=>(qFv _ _).2 (.inl (h.st j hj)),fun i r hi hr=>?_⟩
 ·rcases (qFv _ _).1 hx with hx|hx
  ·exact h.lt x hx
  ·exact hs x hx
 ·rcases (qFv _ _).1 hx with hx|hx
  ·exact h.rc x hx
  ·exact .more (h.rc q hm) hx
 ·rw [qM7 _ _ i (by omega)] at hr
  by_cases e:i=k
  ·subst e
   rw [hq] at hr
   cases hr
   exact ⟨hne,fun j hj=>(qFv _ _).2 (.inr hj)⟩
  ·obtain ⟨h1,h2⟩:=h.dn i r (by omega) hr
   exact ⟨h1,fun j hj=>(qFv _ _).2 (.inl (h2 j hj))⟩
theorem QI.start {sc:Nat→List Nat} {a n:Nat} (hd:(sc a).Nodup) (hs:∀j∈sc a,j<n):QI sc a n (sc a) 0:=⟨hd,hs,fun x hx=> .one hx,fun j hj=>hj,fun i q hi=>absurd hi (Nat.not_lt_zero i)⟩
structure MI (sc:Nat→List Nat) (a n:Nat) (met:List Bool) (Q:List Nat) (k:Nat):Prop where
 ln:met.length=n
 kl:k≤Q.length
 lt:∀x∈Q,x<n
 rc:∀x∈Q,Rch sc a x
 st:∀j∈sc a,j∈Q
 mt:∀i,met[i]?=some true→∀j∈sc i,j∈Q
 dn:∀i q,i<k→Q[i]?=some q→q≠a∧met[q]?=some true
theorem MI.all {sc:Nat→List Nat} {a n:Nat} {met:List Bool} {Q:List Nat} (h:MI sc a n met Q Q.length):¬Rch sc a a:=by
 have key:∀x,Rch sc a x→x∈Q:=fun x hx=>by
  induction hx with
  |one h1=>exact h.st _ h1
  |more h1 h2 ih=>
   obtain ⟨i,hi,e⟩:=List.mem_iff_getElem.1 ih
   exact h.mt _ (h.dn i _ hi (by rw [List.getElem?_eq_getElem hi,e])).2 _ h2
 intro hr
 obtain ⟨i,hi,e⟩:=List.mem_iff_getElem.1 (key a hr)
 exact (h.dn i _ hi (by rw [List.getElem?_eq_getElem hi,e])).1 rfl
theorem MI.start {sc:Nat→List Nat} {a n:Nat} (hs:∀j∈sc a,j<n):MI sc a n (List.replicate n false) (sc a) 0:=⟨by simp,Nat.zero_le _,hs,fun x hx=> .one hx,fun j hj=>hj,fun i hi=>by
 obtain ⟨h1,h2⟩:=List.getElem?_eq_some_iff.1 hi
 simp at h2,fun i q hi=>absurd hi (Nat.not_lt_zero i)⟩
inductive Tch (bs:Nat→Prop) (sc:Nat→List Nat):Nat→Prop
 |zero {i:Nat}:bs i→Tch bs sc i
 |lean {i k:Nat}:k∈sc i→Tch bs sc k→Tch bs sc i
structure TI (bs:Nat→Prop) (sc:Nat→List Nat) (n:Nat) (o:List Bool):Prop where
 ln:o.length=n
 ok:∀i,o[i]?=some true→Tch bs sc i
 st:∀i,i<n→bs i→o[i]?=some true
theorem TI.set {bs:Nat→Prop} {sc:Nat→List Nat} {n:Nat} {o:List Bool} (h:TI bs sc n o) {i k:Nat} (hk:k∈sc i) (ho:o[k]?=some true):TI bs sc n (o.set i true):=by
 refine ⟨by rw [List.length_set];exact h.ln,fun j hj=>?_,fun j hj hb=>?_⟩
 ·by_cases e:i=j
  ·subst e;exact .lean hk (h.ok k ho)
  ·rw [List.getElem?_set_ne e] at hj;exact h.ok j hj
 ·by_cases e:i=j
  ·subst e;exact List.getElem?_set_self (by rw [h.ln];exact hj)
  ·rw [List.getElem?_set_ne e];exact h.st j hj hb
theorem TI.all {bs:Nat→Prop} {sc:Nat→List Nat} {n:Nat} {o:List Bool} (h:TI bs sc n o) (hn:∀i,∀k∈sc i,k<n) (hc:∀i,i<n→∀k∈sc i,o[k]?=some true→o[i]?=some true) {i:Nat} (hi:i<n):o[i]?=some true↔Tch bs sc i:=by
 refine ⟨h.ok i,fun ht=>?_⟩
 induction ht with
 |zero hb=>exact h.st _ hi hb
 |lean hk _ ih=>exact hc _ hi _ hk (ih (hn _ _ hk))
structure SI (hr b2:Nat→Bool) (sc:Nat→List Nat) (n:Nat) (A:List Nat):Prop where
 nd:A.Nodup
 lt:∀a∈A,a<n
 ok:∀a∈A,Tch (fun i=>hr i=true∨b2 i=true) sc a
theorem SI.add {hr b2:Nat→Bool} {sc:Nat→List Nat} {n:Nat} {A:List Nat} {i:Nat} (h:SI hr b2 sc n A) (hi:i<n) (h1:¬(hr i||A.contains i)=true) (h2:(b2 i||A.any fun k=>(sc i).contains k)=true):SI hr b2 sc n (A++ [i]):=by
 have hn:i∉A:=fun hi=>h1 (by rw [Bool.or_eq_true];exact .inr (by simpa using hi))
 refine ⟨?_,fun a ha=>?_,fun a ha=>?_⟩
 ·rw [List.nodup_append]
  refine ⟨h.nd,by simp,fun a ha b hb=>?_⟩
  rw [List.mem_singleton] at hb
  subst hb
  rintro rfl
  exact hn ha
 ·rcases List.mem_append.1 ha with ha|ha
  ·exact h.lt a ha
  ·rw [List.mem_singleton] at ha;omega
 ·rcases List.mem_append.1 ha with ha|ha
  ·exact h.ok a ha
  ·rw [List.mem_singleton] at ha
   subst ha
   rcases Bool.or_eq_true_iff.1 h2 with hb|hb
   ·exact .zero (.inr hb)
   ·obtain ⟨k,hk,hc⟩:=List.any_eq_true.1 hb
    exact .lean (by simpa using hc) (h.ok k hk)
theorem SI.all {hr b2:Nat→Bool} {sc:Nat→List Nat} {n:Nat} {A:List Nat} (h:SI hr b2 sc n A) (hn:∀i,∀k∈sc i,k<n) (hb:∀i,∀k∈sc i,hr k=true→b2 i=true)
  (hc:∀i,i<n→(b2 i||A.any fun k=>(sc i).contains k)=true→(hr i||A.contains i)=true) {i:Nat} (hi:i<n):(hr i||A.contains i)=true↔Tch (fun i=>hr i=true∨b2 i=true) sc i:=by
 constructor
 ·intro h1
  rcases Bool.or_eq_true_iff.1 h1 with h1|h1
  ·exact .zero (.inl h1)
  ·exact h.ok i (by simpa using h1)
 ·intro ht
  induction ht with
  |zero hq=>
   rcases hq with hq|hq
   ·rw [hq];rfl
   ·exact hc _ hi (by rw [hq];rfl)
  | @lean i k hk _ ih=>
   refine hc i hi ?_
   rw [Bool.or_eq_true]
   rcases Bool.or_eq_true_iff.1 (ih (hn _ _ hk)) with h1|h1
   ·exact .inl (hb i k hk h1)
   ·exact .inr (List.any_eq_true.2 ⟨k,by simpa using h1,by simpa using hk⟩)
theorem qN6 {α:Type} {p:Nat→α→Bool}:∀{l:List α} {i j:Nat} {c:α},qAu p i l=true→l[j]?=some c→p (i+j) c=true
 | [],i,j,c,h,hc=>by simp at hc
 |a::l,i,0,c,h,hc=>by
  unfold qAu at h
  rw [Bool.and_eq_true] at h
  simp only [List.getElem?_cons_zero,Option.some.injEq] at hc
  subst hc
  exact h.1
 |a::l,i,j+1,c,h,hc=>by
  unfold qAu at h
  rw [Bool.and_eq_true] at h
  have:=qN6 h.2 (show l[j]?=some c by simpa using hc)
  rwa [show i+(j+1)=i+1+j by omega]
structure StOk (n:Nat) (c:Sm):Prop where
 k:c.1=1∨c.1=2∨c.1=3∨c.1=4∨c.1=5
 s:c.2.2.2.1.size≤200
 m:c.1=3∨c.1=4→1≤c.2.2.2.2∧c.2.2.2.2≤n
def qFZ (t:ByteArray):List (List PV):=t.data.toList.map byR
theorem qUG (t:ByteArray):(qFZ t).length=t.size:=by
 unfold qFZ
 rw [List.length_map]
 exact Array.length_toList
theorem qVx (t s:ByteArray):qFZ (t++s)=qFZ t++s.data.toList.map byR:=by
 unfold qFZ
 rw [qDf,List.map_append]
theorem qUH:∀l:List UInt8,zGi (l.map byR)=true∧bytesOf (l.map byR)=some l
 | []=>⟨rfl,rfl⟩
 |c::l=>by
  obtain ⟨h1,h2⟩:=qUH l
  have hc:c.toNat<256:=c.toNat_lt
  constructor
  ·unfold zGi at h1⊢
   rw [List.map_cons,List.all_cons,h1,Bool.and_true]
   exact decide_eq_true ⟨by omega,by omega⟩
  ·rw [List.map_cons]
   show (bytesOf (l.map byR)).map (UInt8.ofNat ((c.toNat:Int)).toNat:: ·)=_
   rw [h2,Int.toNat_natCast,Option.map_some,UInt8.ofNat_toNat]
theorem bw (t s:ByteArray) (q:Nat) (h:t.size+s.size≤100000000):qc (q+1) s t.size (qFZ t)=some ((s.size:Int),(t++s).size,qFZ (t++s)):=by
 show zO s t.size (qFZ t)=_
 unfold zO
 rw [if_pos ⟨(qUG t).symm,by omega⟩,ByteArray.size_append,qVx]
theorem bs (t:ByteArray) (q:Nat):qBJ (q+1) t.size (qFZ t)=some (t,[]):=by
 show zY t.size (qFZ t)=_
 unfold zY
 obtain ⟨h1,h2⟩:=qUH t.data.toList
 rw [if_pos ⟨(qUG t).symm,h1⟩]
 show (bytesOf (t.data.toList.map byR)).map _=_
 rw [h2,Option.map_some]
theorem szd {x y:ByteArray} {a b:Nat} (hx:x.size≤a) (hy:y.size≤b) (hab:a+b≤9223372036854775807):decide (x.size+y.size≤9223372036854775807)=true:=decide_eq_true (by omega)
theorem sza {x y:ByteArray} {a b:Nat} (hx:x.size≤a) (hy:y.size≤b):(x++y).size≤a+b:=by rw [ByteArray.size_append];omega
theorem qM8:(⟨#[32]⟩:ByteArray).size≤1:=Nat.le_refl _
theorem qSM:(⟨#[10]⟩:ByteArray).size≤1:=Nat.le_refl _
theorem qUc (a b:Int):Ev (qDM · a b) (qBL a b false false):=qIC (qFY (R:=fun n=>qHX n a b) (qDN (qCv a b false false) (qAm rfl)) fun n=>rfl)
def fo {α:Type} (g:ByteArray→α→ByteArray) (t:ByteArray) (l:List α):ByteArray:=l.foldl g t
theorem qGu {α:Type} {g:ByteArray→α→ByteArray} {t:ByteArray} {l:List α} {i:Nat} {c:α} (h:l[i]?=some c):fo g t (l.take (i+1))=g (fo g t (l.take i)) c:=by
 unfold fo
 rw [List.take_add_one,h,List.foldl_append]
 rfl
theorem qJs {α:Type} (g:ByteArray→α→ByteArray) (t:ByteArray) (l:List α):fo g t (l.take l.length)=fo g t l:=by rw [List.take_length]
theorem qGv {α:Type} {g:ByteArray→α→ByteArray} {l:List α} {k:Nat} (h:∀c∈l,∀t,(g t c).size≤t.size+k) (t:ByteArray):∀i,i≤l.length→(fo g t (l.take i)).size≤t.size+k*i:=by
 intro i
 induction i with
 |zero=>intro _;exact Nat.le_refl _
 |succ i ih=>
  intro hi
  have hg:=List.getElem?_eq_getElem (l:=l) (i:=i) (by omega)
  rw [qGu hg]
  have h1:=ih (by omega)
  have h2:=h _ (List.getElem_mem (by omega:i<l.length)) (fo g t (l.take i))
  rw [Nat.mul_succ]
  omega
theorem qJD {α:Type} {g:ByteArray→α→ByteArray} {l:List α} {k n:Nat} (h:∀c∈l,∀t,(g t c).size≤t.size+k) (hn:l.length≤n) (t:ByteArray):(fo g t l).size≤t.size+k*n:=by
 have:=qGv h t l.length (Nat.le_refl _)
 rw [qJs] at this
 exact Nat.le_trans this (Nat.add_le_add_left (Nat.mul_le_mul_left k hn) _)
def qQJ:ByteArray:=⟨#[100,97,103,32]⟩
def qU0:ByteArray:=⟨#[98,114,97,110,99,104,32]⟩
def qBY:ByteArray:=⟨#[118,101,114,115,105,111,110,32]⟩
theorem qVJ:qQJ.size≤4:=Nat.le_refl _
theorem qGw:qU0.size≤7:=Nat.le_refl _
theorem qJE:qBY.size≤8:=Nat.le_refl _
def qVy (b:Br):ByteArray:=qU0++b.1++⟨#[32]⟩++qBK b.2++⟨#[10]⟩
def qVz (u:Int):ByteArray:=⟨#[32]⟩++qBK u
def qV0 (c:Cl):ByteArray:=qBL c.1 c.2.1 false false++⟨#[32]⟩++c.2.2++⟨#[10]⟩
def gBr (t:ByteArray) (b:Br):ByteArray:=t++qVy b
def gUp (t:ByteArray) (u:Int):ByteArray:=t++qVz u
def gCl (t:ByteArray) (c:Cl):ByteArray:=t++qV0 c
def qJt (t:ByteArray) (v:Vs):ByteArray:=fo gCl (fo gUp (t++(qBY++qBK v.1)) v.2.1++⟨#[10]⟩) v.2.2
def qWY (x:Int) (l:List Vs) (bs:List Br):ByteArray:=fo qJt (fo gBr (qQJ++qBK x++⟨#[10]⟩) bs) l
def Sml (x:Int):Prop:=1≤x∧x≤1000000000
theorem Sml.dec {x:Int} (h:Sml x):(qBK x).size≤20:=qSQ (by unfold Sml at h;omega)
structure VerT (v:Vs):Prop where
 id:Sml v.1
 up:∀u∈v.2.1,Sml u
 un:v.2.1.length≤2
 cn:v.2.2.length≤120
 cs:∀c∈v.2.2,c.2.2.size≤200
structure BrT (b:Br):Prop where
 id:Sml b.2
 nm:b.1.size≤12
theorem qVK {s:ByteArray} (h:qKX s=true):s.size≤200:=by
 unfold qKX at h
 rw [Bool.and_eq_true] at h
 have h1:=h.1
 unfold qFu at h1
 split at h1
 ·cases h1
 ·rename_i hp
  exact qJq (by cases hq:qCf s 200 with|true=>rfl|false=>exact absurd hq hp)
theorem qU1 {l:List Cl}:∀{r:List Cl} {i:Nat},qIf l i r=true→∀c∈r,c.2.2.size≤200
 | [],i,h,c,hc=>by cases hc
 |a::r,i,h,c,hc=>by
  unfold qIf at h
  simp only [Bool.and_eq_true] at h
  rcases List.mem_cons.1 hc with rfl|hc
  ·exact qVK h.1.2.1
  ·exact qU1 h.2 c hc
theorem qUI {x:Int} {l:List Vs} (hx:x≤1000000000) (h:qAu (qMB x l) 0 l=true) {u:Int} (hu:qTd l u=true):Sml u:=by
 unfold qTd at hu
 obtain ⟨v,hv,he⟩:=List.any_eq_true.1 hu
 obtain ⟨j,hj⟩:=List.getElem?_of_mem hv
 have h1:=qN6 h hj
 unfold qMB at h1
 simp only [Bool.and_eq_true,decide_eq_true_eq] at h1
 have he:v.1=u:=by simpa using he
 unfold Sml
 omega
theorem qV1 {x:Int} {l:List Vs} {bs:List Br} (h:qSF x l bs=true):Sml x∧(l.length≤40∧∀v∈l,VerT v)∧(bs.length≤8∧∀b∈bs,BrT b):=by
 unfold qSF at h
 simp only [Bool.and_eq_true,decide_eq_true_eq] at h
 obtain ⟨h1,h2,h3,h4,h5⟩:=h
 refine ⟨by unfold Sml;omega,⟨by omega,fun v hv=>?_⟩,by omega,fun b hb=>?_⟩
 ·obtain ⟨j,hj⟩:=List.getElem?_of_mem hv
  have h6:=qN6 h4 hj
  unfold qMB at h6
  simp only [Bool.and_eq_true,decide_eq_true_eq] at h6
  obtain ⟨k1,k2,⟨k3,k4⟩,k5⟩:=h6
  unfold qIg at k5
  rw [Bool.and_eq_true,decide_eq_true_eq] at k5
  refine ⟨by unfold Sml;omega,fun u hu=>?_,by omega,by omega,qU1 k5.1⟩
  obtain ⟨i,hi⟩:=List.getElem?_of_mem hu
  have k6:=qN6 k3 hi
  unfold upP at k6
  simp only [Bool.and_eq_true] at k6
  exact qUI (by omega) h4 k6.2.1
 ·obtain ⟨j,hj⟩:=List.getElem?_of_mem hb
  have h6:=qN6 h5 hj
  unfold brP qMP at h6
  simp only [Bool.and_eq_true,decide_eq_true_eq] at h6
  exact ⟨qUI (by omega) h4 h6.2.2,by omega⟩
theorem qSn {b:Br} (h:BrT b):(qVy b).size≤41:=by
 have h1:=h.id.dec
 have h2:=h.nm
 unfold qVy
 simp only [ByteArray.size_append]
 show 7+_+1+_+1≤41
 omega
theorem qSo {u:Int} (h:Sml u):(qVz u).size≤21:=by
 have h1:=h.dec
 unfold qVz
 simp only [ByteArray.size_append]
 show 1+_≤21
 omega
theorem qSp {c:Cl} (h:c.2.2.size≤200):(qV0 c).size≤232:=by
 have h1:=qEx c.1 c.2.1 false false
 unfold qV0
 simp only [ByteArray.size_append]
 show _+1+_+1≤232
 omega
theorem qN7 {b:Br} (h:BrT b) (t:ByteArray):(gBr t b).size≤t.size+41:=by
 have:=qSn h
 unfold gBr
 rw [ByteArray.size_append]
 omega
theorem qLV {u:Int} (h:Sml u) (t:ByteArray):(gUp t u).size≤t.size+21:=by
 have:=qSo h
 unfold gUp
 rw [ByteArray.size_append]
 omega
theorem qRe {c:Cl} (h:c.2.2.size≤200) (t:ByteArray):(gCl t c).size≤t.size+232:=by
 have:=qSp h
 unfold gCl
 rw [ByteArray.size_append]
 omega
theorem qSq {v:Vs} (h:VerT v) (t:ByteArray):(qJt t v).size≤t.size+28000:=by
 have h1:=h.id.dec
 have h2:=qJD (k:=21) (g:=gUp) (fun u hu t=>qLV (h.up u hu) t) h.un (t++(qBY++qBK v.1))
 have h3:=qJD (k:=232) (g:=gCl) (fun c hc t=>qRe (h.cs c hc) t) h.cn (fo gUp (t++(qBY++qBK v.1)) v.2.1++⟨#[10]⟩)
 have h4:(t++(qBY++qBK v.1)).size≤t.size+28:=by
  simp only [ByteArray.size_append]
  show _+(8+_)≤_
  omega
 have h5:(fo gUp (t++(qBY++qBK v.1)) v.2.1++⟨#[10]⟩).size=(fo gUp (t++(qBY++qBK v.1)) v.2.1).size+1:=ByteArray.size_append
 unfold qJt
 omega
theorem bw0 (s:ByteArray) (q:Nat) (h:s.size≤100000000):qc (q+1) s 0 []=some ((s.size:Int),s.size,qFZ s):=by
 have h1:=bw ⟨#[]⟩ s q (by show 0+_≤_;omega)
 rw [show (⟨#[]⟩:ByteArray)++s=s from ByteArray.empty_append] at h1
 exact h1
theorem qXN (t:ByteArray) (q:Nat):qBJ (q+1) t.size (qFZ t)=some (t,[]):=bs t q
theorem qPM {i n:Nat} (h:i<n) (hn:n≤1000):IntKind.i64.wrap ((i:Int)+1)=((i+1:Nat):Int):=by rw [qT (by omega)];omega
theorem qWZ {q:Nat} (L:List (List PV)) (N I x:Int) (us:List Int) (cs:List (List PV)) (t:ByteArray) (hs:∀u∈us,Sml u) (hd:∀u∈us,qv (q+1) u=some (qBK u)) (hn:us.length≤2) (ht:t.size≤2000000) (hq:10≤q):
  zC (qCs (q+1)) (q+1) (L,N,I,us.map qq,((us.map qq).length:Int),0,t.size,x,us.map qq,cs,qFZ t)=some (L,N,I,(fo gUp t us).size,x,us.map qq,cs,qFZ (fo gUp t us)):=by
 have h:=qLU (B:=qCs (q+1)) (fun k=>(L,N,I,us.map qq,((us.map qq).length:Int),(k:Int),(fo gUp t (us.take k)).size,x,us.map qq,cs,qFZ (fo gUp t (us.take k)))) us (fun _ _=>none) (L,N,I,(fo gUp t us).size,x,us.map qq,cs,qFZ (fo gUp t us))
  (fun i c he=>by
   have hi:=(List.getElem?_eq_some_iff.1 he).1
   have hmem:=List.mem_of_getElem? he
   obtain ⟨a1,a2⟩:=qD2 (k:=(i:Int)) rfl (qGM (enc:=qq) he)
   have w:=qPM hi (by omega)
   have e:=qGu (g:=gUp) (t:=t) he
   have hz:=qGv (k:=21) (g:=gUp) (fun u hu t=>qLV (hs u hu) t) t i (by omega)
   have h1:=hd c hmem
   have zd:=(hs c hmem).dec
   have zu:=qSo (hs c hmem)
   generalize fo gUp t (us.take i)=t1 at*
   have b1:=bw t1 (qVz c) q (by omega)
   refine qD (decide_eq_true (by simpa using hi)) (qD a1 (qA a2 (qD rfl (qA rfl (qA h1 (qD (szd qM8 zd (by decide)) (qA b1 ?_)))))))
   dsimp only
   rw [w,e]
   rfl)
  (qO (decide_eq_false (by simp)) (by rw [qJs];rfl)) (q+1) (by omega)
 rw [qEG] at h
 exact h
theorem qVL {q:Nat} (L:List (List PV)) (N I:Int) (cs:List Cl) (t:ByteArray) (hs:∀c∈cs,c.2.2.size≤200) (hd:∀c∈cs,qDM (q+1) c.1 c.2.1=some (qBL c.1 c.2.1 false false)) (hn:cs.length≤120) (ht:t.size≤2000000) (hq:130≤q):
  zC (qCt (q+1)) (q+1) (L,N,I,cs.map qp,((cs.map qp).length:Int),0,t.size,qFZ t)=some (L,N,I,(fo gCl t cs).size,qFZ (fo gCl t cs)):=by
 have h:=qLU (B:=qCt (q+1)) (fun k=>(L,N,I,cs.map qp,((cs.map qp).length:Int),(k:Int),(fo gCl t (cs.take k)).size,qFZ (fo gCl t (cs.take k)))) cs (fun _ _=>none) (L,N,I,(fo gCl t cs).size,qFZ (fo gCl t cs))
  (fun i c he=>by
   have hi:=(List.getElem?_eq_some_iff.1 he).1
   have hmem:=List.mem_of_getElem? he
   obtain ⟨a1,a2⟩:=qD2 (k:=(i:Int)) rfl (qGM (enc:=qp) he)
   have w:=qPM hi (by omega)
   have e:=qGu (g:=gCl) (t:=t) he
   have hz:=qGv (k:=232) (g:=gCl) (fun c hc t=>qRe (hs c hc) t) t i (by omega)
   have h1:=hd c hmem
   have zs:=hs c hmem
   have zc:=qSp zs
   have zp:=qEx c.1 c.2.1 false false
   generalize fo gCl t (cs.take i)=t1 at*
   have b1:=bw t1 (qV0 c) q (by omega)
   refine qD (decide_eq_true (by simpa using hi)) (qD a1 (qA a2 (qD rfl (qA rfl (qA rfl (qA rfl (qA h1 (qD (szd zp qM8 (by decide)) (qD (szd (sza zp qM8) zs (by decide)) (qD (szd (sza (sza zp qM8) zs) qSM (by decide)) (qA b1 ?_)))))))))))
   dsimp only
   rw [w,e]
   rfl)
  (qO (decide_eq_false (by simp)) (by rw [qJs];rfl)) (q+1) (by omega)
 rw [qEG] at h
 exact h
theorem qV2 {q:Nat} (l:List Vs) (t:ByteArray) (hv:∀v∈l,VerT v) (hn:l.length≤40) (ht:t.size≤1000) (hq:130≤q) (hd:∀v∈l,qv (q+1) v.1=some (qBK v.1)∧(∀u∈v.2.1,qv (q+1) u=some (qBK u))∧∀c∈v.2.2,qDM (q+1) c.1 c.2.1=some (qBL c.1 c.2.1 false false)):
  zC (qDV (q+1)) (q+1) (l.map qAN,((l.map qAN).length:Int),0,t.size,qFZ t)=some ((fo qJt t l).size,qFZ (fo qJt t l)):=by
 have h:=qLU (B:=qDV (q+1)) (fun k=>(l.map qAN,((l.map qAN).length:Int),(k:Int),(fo qJt t (l.take k)).size,qFZ (fo qJt t (l.take k)))) l (fun _ _=>none) ((fo qJt t l).size,qFZ (fo qJt t l))
  (fun i c he=>by
   have hi:=(List.getElem?_eq_some_iff.1 he).1
   have hmem:=List.mem_of_getElem? he
   obtain ⟨a1,a2⟩:=qD2 (k:=(i:Int)) rfl (qGM (enc:=qAN) he)
   have w:=qPM hi (by omega)
   have e:=qGu (g:=qJt) (t:=t) he
   have hz:=qGv (k:=28000) (g:=qJt) (fun v hv' t=>qSq (hv v hv') t) t i (by omega)
   obtain ⟨h1,h2,h3⟩:=hd c hmem
   have hk:=hv c hmem
   have zd:=hk.id.dec
   generalize fo qJt t (l.take i)=t1 at*
   have b1:=bw t1 (qBY++qBK c.1) q (by rw [ByteArray.size_append];have:=qJE;omega)
   have z1:(t1++(qBY++qBK c.1)).size≤1130000:=by
    rw [ByteArray.size_append,ByteArray.size_append]
    have:=qJE
    omega
   have r1:=qWZ (q:=q) (l.map qAN) ((l.map qAN).length:Int) (i:Int) c.1 c.2.1 (c.2.2.map qp) (t1++(qBY++qBK c.1)) hk.up h2 hk.un (by omega) (by omega)
   have z2:=qJD (k:=21) (g:=gUp) (fun u hu t=>qLV (hk.up u hu) t) hk.un (t1++(qBY++qBK c.1))
   have b2:=bw (fo gUp (t1++(qBY++qBK c.1)) c.2.1) ⟨#[10]⟩ q (by show _+1≤_;omega)
   have z3:(fo gUp (t1++(qBY++qBK c.1)) c.2.1++⟨#[10]⟩).size≤1140000:=by
    rw [ByteArray.size_append]
    show _+1≤_
    omega
   have r2:=qVL (q:=q) (l.map qAN) ((l.map qAN).length:Int) (i:Int) c.2.2 (fo gUp (t1++(qBY++qBK c.1)) c.2.1++⟨#[10]⟩) hk.cs h3 hk.cn (by omega) hq
   refine qD (decide_eq_true (by simpa using hi)) (qD a1 (qA a2 (qD rfl (qA rfl (qA rfl (qA rfl (qA h1 (qD (szd qJE zd (by decide)) (qA b1 (qA r1 (qA b2 (qA r2 ?_))))))))))))
   dsimp only
   rw [w,e]
   rfl)
  (qO (decide_eq_false (by simp)) (by rw [qJs];rfl)) (q+1) (by omega)
 rw [qEG] at h
 exact h
theorem qWa {q:Nat} (x:Int) (V:List (List PV)) (bs:List Br) (t:ByteArray) (hv:∀b∈bs,BrT b) (hn:bs.length≤8) (ht:t.size≤100) (hq:130≤q) (hd:∀b∈bs,qv (q+1) b.2=some (qBK b.2)):
  zC (qDj (q+1)) (q+1) (bs.map qAJ,((bs.map qAJ).length:Int),0,x,V,bs.map qAJ,t.size,qFZ t)=some (x,V,bs.map qAJ,(fo gBr t bs).size,qFZ (fo gBr t bs)):=by
 have h:=qLU (B:=qDj (q+1)) (fun k=>(bs.map qAJ,((bs.map qAJ).length:Int),(k:Int),x,V,bs.map qAJ,(fo gBr t (bs.take k)).size,qFZ (fo gBr t (bs.take k)))) bs (fun _ _=>none) (x,V,bs.map qAJ,(fo gBr t bs).size,qFZ (fo gBr t bs))
  (fun i c he=>by
   have hi:=(List.getElem?_eq_some_iff.1 he).1
   have hmem:=List.mem_of_getElem? he
   obtain ⟨a1,a2⟩:=qD2 (k:=(i:Int)) rfl (qGM (enc:=qAJ) he)
   have w:=qPM hi (by omega)
   have e:=qGu (g:=gBr) (t:=t) he
   have hz:=qGv (k:=41) (g:=gBr) (fun v hv' t=>qN7 (hv v hv') t) t i (by omega)
   have h1:=hd c hmem
   have hk:=hv c hmem
   have zd:=hk.id.dec
   have zn:=hk.nm
   have zb:=qSn hk
   generalize fo gBr t (bs.take i)=t1 at*
   have b1:=bw t1 (qVy c) q (by omega)
   refine qD (decide_eq_true (by simpa using hi)) (qD a1 (qA a2 (qD rfl (qA rfl (qA rfl (qD (szd qGw zn (by decide)) (qD (szd (sza qGw zn) qM8 (by decide)) (qA h1 (qD (szd (sza (sza qGw zn) qM8) zd (by decide)) (qD (szd (sza (sza (sza qGw zn) qM8) zd) qSM (by decide)) (qA b1 ?_)))))))))))
   dsimp only
   rw [w,e]
   rfl)
  (qO (decide_eq_false (by simp)) (by rw [qJs];rfl)) (q+1) (by omega)
 rw [qEG] at h
 exact h
def qSr (x:Int) (l:List Vs) (bs:List Br):List Int:=x::(bs.map (·.2)++l.flatMap fun v=>v.1::v.2.1)
def qV3 (l:List Vs):List Cl:=l.flatMap (·.2.2)
theorem qSs {x:Int} {l:List Vs} {bs:List Br} (hx:Sml x) (hv:∀v∈l,VerT v) (hb:∀b∈bs,BrT b):∀u∈qSr x l bs,Sml u:=fun u hu=>by
 rcases List.mem_cons.1 hu with rfl|hu
 ·exact hx
 ·rcases List.mem_append.1 hu with hu|hu
  ·obtain ⟨b,h1,rfl⟩:=List.mem_map.1 hu
   exact (hb b h1).id
  ·obtain ⟨v,h1,h2⟩:=List.mem_flatMap.1 hu
   rcases List.mem_cons.1 h2 with rfl|h2
   ·exact (hv v h1).id
   ·exact (hv v h1).up u h2
theorem qWg {x:Int} {l:List Vs} {bs:List Br} {b:Br} (h:b∈bs):b.2∈qSr x l bs:=List.mem_cons_of_mem _ (List.mem_append_left _ (List.mem_map.2 ⟨b,h,rfl⟩))
theorem qWh {x:Int} {l:List Vs} {bs:List Br} {v:Vs} (h:v∈l):v.1∈qSr x l bs:=List.mem_cons_of_mem _ (List.mem_append_right _ (List.mem_flatMap.2 ⟨v,h,List.mem_cons_self ..⟩))
theorem qWi {x:Int} {l:List Vs} {bs:List Br} {v:Vs} {u:Int} (h:v∈l) (hu:u∈v.2.1):u∈qSr x l bs:=List.mem_cons_of_mem _ (List.mem_append_right _ (List.mem_flatMap.2 ⟨v,h,List.mem_cons_of_mem _ hu⟩))
theorem qWj {l:List Vs} {v:Vs} {c:Cl} (h:v∈l) (hc:c∈v.2.2):c∈qV3 l:=List.mem_flatMap.2 ⟨v,h,hc⟩
theorem qQK (x:Int) (l:List Vs) (bs:List Br) (hx:Sml x) (hl:l.length≤40) (hv:∀v∈l,VerT v) (hb:bs.length≤8) (hbs:∀b∈bs,BrT b):Ev (qHY · x (l.map qAN) (bs.map qAJ)) (qWY x l bs):=by
 have hS:=qSs hx hv hbs
 obtain ⟨n1,h1⟩:=qAa (F:=fun (u:Int) n=>qv n u) (f:=qBK) (qSr x l bs) fun u hu=>qEk u (by have:=hS u hu;unfold Sml at this;omega)
 obtain ⟨n2,h2⟩:=qAa (F:=fun (c:Cl) n=>qDM n c.1 c.2.1) (f:=fun c=>qBL c.1 c.2.1 false false) (qV3 l) fun c _=>qUc _ _
 refine ⟨n1+n2+200,fun n hn=>?_⟩
 obtain ⟨m,rfl,hm⟩:=up1 hn
 obtain ⟨q,rfl⟩:∃q,m=q+1:=⟨m-1,by omega⟩
 have h1:=h1 (q+1) (by omega)
 have h2:=h2 (q+1) (by omega)
 have zx:=hx.dec
 have zh:(qQJ++qBK x++⟨#[10]⟩).size≤25:=sza (sza qVJ zx) qSM
 have r1:=qWa (q:=q) x (l.map qAN) bs (qQJ++qBK x++⟨#[10]⟩) hbs hb (by omega) (by omega) fun b h=>h1 _ (qWg h)
 have z1:=qJD (k:=41) (g:=gBr) (fun b h t=>qN7 (hbs b h) t) hb (qQJ++qBK x++⟨#[10]⟩)
 have r2:=qV2 (q:=q) l (fo gBr (qQJ++qBK x++⟨#[10]⟩) bs) hv hl (by omega) (by omega) fun v h=>⟨h1 _ (qWh h),fun u hu=>h1 _ (qWi h hu),fun c hc=>h2 _ (qWj h hc)⟩
 refine qA (h1 x (List.mem_cons_self ..)) (qD (szd qVJ zx (by decide)) (qD (szd (sza qVJ zx) qSM (by decide)) (qA (bw0 (qQJ++qBK x++⟨#[10]⟩) q (by omega)) (qA r1 (qA r2 (qA (qXN _ q) rfl))))))
theorem qV4 {m:Nat} (I x:Int) (V B:List (List PV)) (id:Int) (us:List Int) (cs:List (List PV)) (t:ByteArray) (hs:∀u∈us,Sml u) (hd:∀u∈us,qr m u=some (qBK u)) (hn:us.length≤2) (ht:t.size≤2000000) (hq:10≤m):
  zC (qC6 m) m (t,I,0,x,V,B,id,us.map qq,cs)=some (fo gUp t us,I,x,V,B,id,us.map qq,cs):=by
 have h:=qLU (B:=qC6 m) (fun k=>(fo gUp t (us.take k),I,(k:Int),x,V,B,id,us.map qq,cs)) us (fun _ _=>none) (fo gUp t us,I,x,V,B,id,us.map qq,cs)
  (fun i c he=>by
   have hi:=(List.getElem?_eq_some_iff.1 he).1
   have hmem:=List.mem_of_getElem? he
   obtain ⟨a1,a2⟩:=qD2 (k:=(i:Int)) rfl (qGM (enc:=qq) he)
   have w:=qPM hi (by omega)
   have e:=qGu (g:=gUp) (t:=t) he
   have hz:=qGv (k:=21) (g:=gUp) (fun u hu t=>qLV (hs u hu) t) t i (by omega)
   have h1:=hd c hmem
   have zd:=(hs c hmem).dec
   generalize fo gUp t (us.take i)=t1 at*
   have zt:t1.size≤3000000:=by omega
   refine qD (decide_eq_true (by simpa using hi)) (qD (szd zt qM8 (by decide)) (qD a1 (qA a2 (qD rfl (qA rfl (qA h1 (qD (szd (sza zt qM8) zd (by decide)) ?_)))))))
   dsimp only
   rw [w,e,gUp,qVz,←ByteArray.append_assoc]
   rfl)
  (qO (decide_eq_false (by simp)) (by rw [qJs];rfl)) m (by omega)
 rw [qEG] at h
 exact h
theorem qUd {m:Nat} (I x:Int) (V B:List (List PV)) (id:Int) (us:List (List PV)) (cs:List Cl) (t:ByteArray) (hs:∀c∈cs,c.2.2.size≤200) (hd:∀c∈cs,qAn m c.1 c.2.1 false false=some (qBL c.1 c.2.1 false false)) (hn:cs.length≤120) (ht:t.size≤2000000) (hq:130≤m):
  zC (qCl m) m (t,I,0,x,V,B,id,us,cs.map qp)=some (fo gCl t cs,I,x,V,B):=by
 have h:=qLU (B:=qCl m) (fun k=>(fo gCl t (cs.take k),I,(k:Int),x,V,B,id,us,cs.map qp)) cs (fun _ _=>none) (fo gCl t cs,I,x,V,B)
  (fun i c he=>by
   have hi:=(List.getElem?_eq_some_iff.1 he).1
   have hmem:=List.mem_of_getElem? he
   obtain ⟨a1,a2⟩:=qD2 (k:=(i:Int)) rfl (qGM (enc:=qp) he)
   have w:=qPM hi (by omega)
   have e:=qGu (g:=gCl) (t:=t) he
   have hz:=qGv (k:=232) (g:=gCl) (fun c hc t=>qRe (hs c hc) t) t i (by omega)
   have h1:=hd c hmem
   have zs:=hs c hmem
   have zp:=qEx c.1 c.2.1 false false
   generalize fo gCl t (cs.take i)=t1 at*
   have zt:t1.size≤3000000:=by omega
   refine qD (decide_eq_true (by simpa using hi)) (qD a1 (qA a2 (qD rfl (qA rfl (qA rfl (qD a1 (qA a2 (qD rfl (qA rfl (qA h1 (qD (szd zt zp (by decide)) (qD (szd (sza zt zp) qM8 (by decide)) (qD (szd (sza (sza zt zp) qM8) zs (by decide)) (qD (szd (sza (sza (sza zt zp) qM8) zs) qSM (by decide)) ?_))))))))))))))
   dsimp only
   rw [w,e,gCl,qV0,←ByteArray.append_assoc,←ByteArray.append_assoc,←ByteArray.append_assoc]
   rfl)
  (qO (decide_eq_false (by simp)) (by rw [qJs];rfl)) m (by omega)
 rw [qEG] at h
 exact h
theorem qVM {m:Nat} (x:Int) (B:List (List PV)) (l:List Vs) (t:ByteArray) (hv:∀v∈l,VerT v) (hn:l.length≤40) (ht:t.size≤1000) (hq:130≤m) (hd:∀v∈l,qr m v.1=some (qBK v.1)∧(∀u∈v.2.1,qr m u=some (qBK u))∧∀c∈v.2.2,qAn m c.1 c.2.1 false false=some (qBL c.1 c.2.1 false false)):
  zC (qDR m) m (t,0,x,l.map qAN,B)=some (fo qJt t l):=by
 have h:=qLU (B:=qDR m) (fun k=>(fo qJt t (l.take k),(k:Int),x,l.map qAN,B)) l (fun _ _=>none) (fo qJt t l)
  (fun i c he=>by
   have hi:=(List.getElem?_eq_some_iff.1 he).1
   have hmem:=List.mem_of_getElem? he
   obtain ⟨a1,a2⟩:=qD2 (k:=(i:Int)) rfl (qGM (enc:=qAN) he)
   have w:=qPM hi (by omega)
   have e:=qGu (g:=qJt) (t:=t) he
   have hz:=qGv (k:=28000) (g:=qJt) (fun v hv' t=>qSq (hv v hv') t) t i (by omega)
   obtain ⟨h1,h2,h3⟩:=hd c hmem
   have hk:=hv c hmem
   have zd:=hk.id.dec
   generalize fo qJt t (l.take i)=t1 at*
   have zt:t1.size≤1130000:=by omega
   have z1:(t1++qBY++qBK c.1).size≤1140000:=by
    have:=sza (sza zt qJE) zd
    omega
   have r1:=qV4 (m:=m) (i:Int) x (l.map qAN) B c.1 c.2.1 (c.2.2.map qp) (t1++qBY++qBK c.1) hk.up h2 hk.un (by omega) (by omega)
   have z2:=qJD (k:=21) (g:=gUp) (fun u hu t=>qLV (hk.up u hu) t) hk.un (t1++qBY++qBK c.1)
   have z3:(fo gUp (t1++qBY++qBK c.1) c.2.1).size≤1150000:=by omega
   have z4:(fo gUp (t1++qBY++qBK c.1) c.2.1++⟨#[10]⟩).size≤1160000:=by
    have:=sza z3 qSM
    omega
   have r2:=qUd (m:=m) (i:Int) x (l.map qAN) B c.1 (c.2.1.map qq) c.2.2 (fo gUp (t1++qBY++qBK c.1) c.2.1++⟨#[10]⟩) hk.cs h3 hk.cn (by omega) hq
   refine qD (decide_eq_true (by simpa using hi)) (qD a1 (qA a2 (qD rfl (qA rfl (qA rfl (qA rfl (qD (szd zt qJE (by decide)) (qA h1 (qD (szd (sza zt qJE) zd (by decide)) (qA r1 (qD (szd z3 qSM (by decide)) (qA r2 ?_))))))))))))
   dsimp only
   rw [w,e,qJt,←ByteArray.append_assoc]
   rfl)
  (qO (decide_eq_false (by simp)) (by rw [qJs];rfl)) m (by omega)
 rw [qEG] at h
 exact h
theorem qV5 {m:Nat} (x:Int) (V:List (List PV)) (bs:List Br) (t:ByteArray) (hv:∀b∈bs,BrT b) (hn:bs.length≤8) (ht:t.size≤100) (hq:130≤m) (hd:∀b∈bs,qr m b.2=some (qBK b.2)):
  zC (qDi m) m (t,0,x,V,bs.map qAJ)=some (fo gBr t bs,x,V,bs.map qAJ):=by
 have h:=qLU (B:=qDi m) (fun k=>(fo gBr t (bs.take k),(k:Int),x,V,bs.map qAJ)) bs (fun _ _=>none) (fo gBr t bs,x,V,bs.map qAJ)
  (fun i c he=>by
   have hi:=(List.getElem?_eq_some_iff.1 he).1
   have hmem:=List.mem_of_getElem? he
   obtain ⟨a1,a2⟩:=qD2 (k:=(i:Int)) rfl (qGM (enc:=qAJ) he)
   have w:=qPM hi (by omega)
   have e:=qGu (g:=gBr) (t:=t) he
   have hz:=qGv (k:=41) (g:=gBr) (fun v hv' t=>qN7 (hv v hv') t) t i (by omega)
   have h1:=hd c hmem
   have hk:=hv c hmem
   have zd:=hk.id.dec
   have zn:=hk.nm
   generalize fo gBr t (bs.take i)=t1 at*
   have zt:t1.size≤1000:=by omega
   refine qD (decide_eq_true (by simpa using hi)) (qD (szd zt qGw (by decide)) (qD a1 (qA a2 (qD rfl (qA rfl (qD (szd (sza zt qGw) zn (by decide)) (qD (szd (sza (sza zt qGw) zn) qM8 (by decide)) (qD a1 (qA a2 (qD rfl (qA rfl (qA h1 (qD (szd (sza (sza (sza zt qGw) zn) qM8) zd (by decide)) (qD (szd (sza (sza (sza (sza zt qGw) zn) qM8) zd) qSM (by decide)) ?_))))))))))))))
   dsimp only
   rw [w,e,gBr,qVy,←ByteArray.append_assoc,←ByteArray.append_assoc,←ByteArray.append_assoc,←ByteArray.append_assoc]
   rfl)
  (qO (decide_eq_false (by simp)) (by rw [qJs];rfl)) m (by omega)
 rw [qEG] at h
 exact h
theorem qQL (x:Int) (l:List Vs) (bs:List Br) (hl:l.length≤140737488351232) (hv:∀v∈l,qMA v) (hb:bs.length≤140737488351232) (hs:∀b∈bs,b.1.size≤140737488351232):Ev (qHF · x (l.map qAN) (bs.map qAJ)) (if qSF x l bs=true then qWY x l bs else ⟨#[]⟩):=by
 refine qIC (qFY (R:=fun n=>qHE n x (l.map qAN) (bs.map qAJ)) (qDN (qSL x l bs hl hv hb hs) ?_) fun n=>rfl)
 cases hB:qSF x l bs with
 |false=>exact qI9 rfl (qAm rfl)
 |true=>
  rw [if_pos rfl]
  obtain ⟨hx,⟨hl,hv⟩,hb,hbs⟩:=qV1 hB
  have hS:=qSs hx hv hbs
  obtain ⟨n1,h1⟩:=qAa (F:=fun (u:Int) n=>qr n u) (f:=qBK) (qSr x l bs) fun u hu=>qF4 u (by have:=hS u hu;unfold Sml at this;omega)
  obtain ⟨n2,h2⟩:=qAa (F:=fun (c:Cl) n=>qAn n c.1 c.2.1 false false) (f:=fun c=>qBL c.1 c.2.1 false false) (qV3 l) fun c _=>qDm _ _ _ _
  have zx:=hx.dec
  have zh:(qQJ++qBK x++⟨#[10]⟩).size≤25:=sza (sza qVJ zx) qSM
  have z1:=qJD (k:=41) (g:=gBr) (fun b h t=>qN7 (hbs b h) t) hb (qQJ++qBK x++⟨#[10]⟩)
  refine qIh rfl (qDN (qF4 x (by unfold Sml at hx;omega)) (qI9 (szd qVJ zx (by decide)) (qI9 (szd (sza qVJ zx) qSM (by decide)) (qDN (r:=(fo gBr (qQJ++qBK x++⟨#[10]⟩) bs,x,l.map qAN,bs.map qAJ)) ⟨n1+200,fun m hm=>?_⟩ (qDN (r:=qWY x l bs) ⟨n1+n2+200,fun m hm=>?_⟩ (qAm rfl))))))
  ·exact qV5 x (l.map qAN) bs (qQJ++qBK x++⟨#[10]⟩) hbs hb (by omega) (by omega) fun b h=>h1 m (by omega) _ (qWg h)
  ·exact qVM x (bs.map qAJ) l (fo gBr (qQJ++qBK x++⟨#[10]⟩) bs) hv hl (by omega) (by omega) fun v h=>⟨h1 m (by omega) _ (qWh h),fun u hu=>h1 m (by omega) _ (qWi h hu),fun c hc=>h2 m (by omega) _ (qWj h hc)⟩
theorem qQM (x:Int) (l:List Vs) (bs:List Br) (hl:l.length≤140737488351232) (hv:∀v∈l,qMA v) (hb:bs.length≤140737488351232) (hs:∀b∈bs,b.1.size≤140737488351232):Ev (qHa · x (l.map qAN) (bs.map qAJ)) (if qSF x l bs=true then qWY x l bs else ⟨#[]⟩):=by
 refine qIC (qFY (R:=fun n=>qHZ n x (l.map qAN) (bs.map qAJ)) (qDN (qSI x l bs hl hv hb hs) ?_) fun n=>rfl)
 cases hB:qSF x l bs with
 |false=>exact qI9 rfl (qAm rfl)
 |true=>
  rw [if_pos rfl]
  obtain ⟨hx,⟨hl,hv⟩,hb,hbs⟩:=qV1 hB
  exact qIh rfl (qDN (qQK x l bs hx hl hv hb hbs) (qAm rfl))
theorem law (x:Int) (vr br:List (List PV)) (wx:(Lit.int .i64 x).wf=true) (wv:vr.length*56≤140737488351232∧∀r∈vr,okR [.i .i64,.sl 8 [.i .i64],.sl 32 [.i .i64,.i .i64,.s]] r) (wb:br.length*24≤140737488351232∧∀r∈br,okR [.s,.i .i64] r):Ev (qFb · x vr br) true:=by
 obtain ⟨l,rfl,hv⟩:=qWT wv.2
 obtain ⟨bs,rfl,hs⟩:=qWU wb.2
 have hl:l.length*56≤140737488351232:=by simpa using wv.1
 have hb:bs.length*24≤140737488351232:=by simpa using wb.1
 obtain ⟨n1,h1⟩:=qVp x l bs hl hv hb
 obtain ⟨n2,h2⟩:=qQL x l bs (by omega) hv (by omega) hs
 obtain ⟨n3,h3⟩:=qQM x l bs (by omega) hv (by omega) hs
 obtain ⟨n4,h4⟩:=qVs x l bs (by omega) hv (by omega)
 obtain ⟨n5,h5⟩:=qVr x l bs (by omega) hv (by omega) 1048576
 refine ⟨n1+n2+n3+n4+n5+1,fun n hn=>?_⟩
 obtain ⟨m,rfl,hm⟩:=up1 hn
 obtain ⟨r,hr⟩:=h5 m (by omega)
 have h1:=h1 m (by omega)
 have h2:=h2 m (by omega)
 have h3:=h3 m (by omega)
 have h4:=h4 m (by omega)
 refine qA hr ?_
 by_cases h0:r<0
 ·exact qD (decide_eq_true h0) rfl
 ·exact qO (decide_eq_false h0) (qA h1 (qA h2 (qA h1 (qA h3 (qO (qA2 (beq_self_eq_true _)) (qA h1 (qA h4 (qO rfl rfl))))))))
end Go.Proofs.YtdkoeegcpbaojaaGreatDoor.KFnExactDagText

