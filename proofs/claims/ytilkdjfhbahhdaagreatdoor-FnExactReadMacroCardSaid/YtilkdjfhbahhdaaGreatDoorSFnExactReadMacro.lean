import Derived.Test.YtilkdjfhbahhdaaGreatDoorTFnExactReadMacro
import Derived.Test.YtilkdjfhbahhdaaGreatDoorE32
import Derived.Lib.Strings
import Derived.Test.YtilkdjfhbahhdaaGreatDoorSFnExactReadMacrop1
namespace Go.Proofs.YtilkdjfhbahhdaaGreatDoor.KFnExactReadMacro
open Go.Eng
set_option linter.unusedVariables false
set_option linter.unusedSimpArgs false
theorem qSl (r:List UInt8):Ev (qBI · (BR r) ⟨#[65,66,67,68,69,70,71,72,73,74,75,76,77,78,79,80,81,82,83,84,85,86,87,88,89,90,48,49,50,51,52,53,54,55,56,57,36]⟩) (BR (wr r)):=by
 refine ⟨1,fun n hn=>?_⟩
 obtain ⟨m,rfl,hm⟩:=up1 hn
 show zZ (BR r) wcS=_
 unfold zZ
 rw [if_pos ⟨by decide,by decide+kernel⟩]
 unfold Lib.trimLeftS wr
 have:(fun c=>wcS.data.toList.contains c)=wch:=funext (qRu qUG)
 rw [this]
 rfl
theorem qHG (r:List UInt8) (m:Nat) (b:Bool) (rows:List (List PV)):Ev (qA2 · (BR r) m b rows) (BR (tb r),m,b,rows):=by
 obtain ⟨n1,h1⟩:=qSk r
 refine ⟨n1+1,fun n hn=>?_⟩
 obtain ⟨m,rfl,hm⟩:=up1 hn
 have h1:=h1 m (by omega)
 dsimp only at h1
 simp only [qA2,qDb,qC,qE,qJ,qK,qM,qN,zC,qF,qG,qH,h1]
theorem qBY (m:Nat) (s w:List UInt8):qk (m+2) (BR s) (BR w)=some (w.isPrefixOf s):=by
 simp only [qk,qB0,qAA,qA0,qC,qE,qJ,qK,qM,qN,zC,qF,qG,qH,qc,qFr,qAP]
 by_cases h:w.length≤s.length
 ·have h1:((s.length:Nat):Int)≥((w.length:Nat):Int):=by omega
  simp [h1,h,List.isPrefixOf_iff_prefix,List.prefix_iff_eq_take]
  by_cases e:w=s.take w.length
  ·simp [←e,List.isPrefixOf_iff_prefix.2 (List.prefix_iff_eq_take.2 e)]
  ·have e2:¬s.take w.length=w:=fun h=>e h.symm
   have e3:w.isPrefixOf s=false:=by
    rw [Bool.eq_false_iff]
    intro hp
    exact e (List.prefix_iff_eq_take.1 (List.isPrefixOf_iff_prefix.1 hp))
   simp [e2,e3]
 ·have h1:¬((s.length:Nat):Int)≥((w.length:Nat):Int):=by omega
  have e3:w.isPrefixOf s=false:=by
   rw [Bool.eq_false_iff]
   intro hp
   exact h (List.isPrefixOf_iff_prefix.1 hp).length_le
  simp [h1,e3]
theorem qRv (s w:List UInt8):Ev (qk · (BR s) (BR w)) (w.isPrefixOf s):=by
 refine ⟨2,fun n hn=>?_⟩
 obtain ⟨m,rfl,hm⟩:=up1 hn
 obtain ⟨m,rfl,hm⟩:=up1 hm
 exact qBY m s w
def qRL:List (List PV):=qER.map fun w=> [PV.s (BR w)]
theorem qQG {n:Nat} {r:List UInt8} (m:Nat) (b:Bool) (rows:List (List PV)) (h:∀w∈qER,qk n (BR r) (BR w)=some (w.isPrefixOf r)):
  ∀(k i M:Nat),i+k=15→k+1≤M→zF (qCM n) M (15,15,(i:Int),qRL,BR r,m,b,rows)=some (match (qER.drop i).find? (fun w=>w.isPrefixOf r) with|some w=> .inl (BR w,BR r,m,b,rows)|none=> .inr (BR r,m,b,rows))
 |k,i,0,h1,h2=>by omega
 |0,i,M+1,h1,h2=>by
  have hi:i=15:=by omega
  subst hi
  rw [qP (r:= .inr (BR r,m,b,rows)) (by simp [qCM,qC,qE,qJ,qK,qM,qN,zC,qF,qG,qH])]
  rfl
 |k+1,i,M+1,h1,h2=>by
  have hi:i<qER.length:=by simp [qER];omega
  obtain ⟨w,hw⟩:∃w,qER[i]?=some w:=⟨_,ze hi⟩
  have hR:qRL[i]?=some [PV.s (BR w)]:=by simp [qRL,List.getElem?_map,hw]
  have hl:qRL.length=15:=rfl
  have hc:zAG [PV.s (BR w)] 0=some (BR w):=rfl
  have hp:=h w (zy hw)
  have hd:qER.drop i=w::qER.drop (i+1):=qEU hw
  have w5:IntKind.i64.wrap ((i:Int)+1)=((i+1:Nat):Int):=by rw [qU (by omega)];omega
  rw [hd]
  simp only [List.find?_cons]
  cases hq:w.isPrefixOf r with
  |true=>
   rw [qP (r:= .inl (BR w,BR r,m,b,rows)) (by
    refine qD (by simp;omega) (qD (by simp [hl];omega) (qA hR (qA hc (qA (hp.trans (congrArg some hq)) (qD rfl rfl))))))]
  |false=>
   rw [qT (v':=(15,15,((i+1:Nat):Int),qRL,BR r,m,b,rows)) (by
    refine qD (by simp;omega) (qD (by simp [hl];omega) (qA hR (qA hc (qA (hp.trans (congrArg some hq)) (qO rfl ?_)))))
    rw [w5];rfl)]
   exact qQG m b rows h k (i+1) M (by omega) (by omega)
theorem qNK (r:List UInt8) (m:Nat) (b:Bool) (rows:List (List PV)):Ev (qBk · (BR r) m b rows) (BR (sgn (tb r)),BR (tb r),m,b,rows):=by
 obtain ⟨n1,h1⟩:=qHG r m b rows
 obtain ⟨n2,h2⟩:=qAt (F:=fun w n=>qk n (BR (tb r)) (BR w)) (f:=fun w=>w.isPrefixOf (tb r)) qER (fun w _=>qRv (tb r) w)
 refine ⟨n1+n2+30,fun n hn=>?_⟩
 obtain ⟨k,rfl,hm⟩:=up1 hn
 have h1:=h1 k (by omega)
 have lp:=qQG m b rows (h2 k (by omega)) 15 0 k rfl (by omega)
 refine qA h1 (qA lp ?_)
 simp only [List.drop_zero]
 unfold sgn
 cases hq:qER.find? (fun w=>w.isPrefixOf (tb r)) with
 |some w=>rfl
 |none=>rfl
theorem qSQ (r:List UInt8):sgn r<+:r:=by
 unfold sgn
 split
 ·rename_i w hw
  have:=List.find?_some hw
  exact List.isPrefixOf_iff_prefix.1 (by simpa using this)
 ·exact List.nil_prefix
theorem qQH (w r:List UInt8) (m:Nat) (b:Bool) (rows:List (List PV)):Ev (qn · (BR w) (BR r) m b rows) (decide (sgn (tb r)=w),BR (if sgn (tb r)=w then (tb r).drop w.length else tb r),m,b,rows):=by
 obtain ⟨n1,h1⟩:=qNK r m b rows
 refine ⟨n1+1,fun n hn=>?_⟩
 obtain ⟨k,rfl,hm⟩:=up1 hn
 refine qA (h1 k (by omega)) ?_
 by_cases h:sgn (tb r)=w
 ·have hp:=(qSQ (tb r)).length_le
  rw [h] at hp
  refine qO (by simp [qAP,h]) (qD (by simp [qc];omega) ?_)
  rw [qC,qc,qc,qFr]
  simp [h]
 ·refine qD (by simp [qAP,h]) ?_
  rw [qC]
  simp [h]
theorem qSm (r:List UInt8) (m:Nat) (b:Bool) (rows:List (List PV)) (hr:r.length≤1000):Ev (qBJ · (BR r) m b rows) (BR (wd (tb r)),BR (wr (tb r)),m,b,rows):=by
 obtain ⟨n1,h1⟩:=qHG r m b rows
 obtain ⟨n2,h2⟩:=qSl (tb r)
 refine ⟨n1+n2+1,fun n hn=>?_⟩
 obtain ⟨k,rfl,hm⟩:=up1 hn
 have hb:=q8 r
 have hw:=qGn (tb r)
 have hsum:=congrArg List.length (wdr (tb r))
 simp only [List.length_append] at hsum
 have e:IntKind.i64.wrap (((tb r).length:Int)-((wr (tb r)).length:Int))=((wd (tb r)).length:Int):=by rw [qU (by omega)];omega
 refine qA (h1 k (by omega)) (qA (h2 k (by omega)) ?_)
 simp only [qc,e]
 refine qD (by simp;omega) (qD (by simp;omega) ?_)
 rw [qC]
 have t1:(wd (tb r)++wr (tb r)).take (wd (tb r)).length=wd (tb r):=List.take_left ..
 have t2:(wd (tb r)++wr (tb r)).drop (wd (tb r)).length=wr (tb r):=List.drop_left ..
 rw [wdr] at t1 t2
 simp [qFr,t1,t2]
def qFg (p:PS):BA×Nat×Bool×List (List PV):=(BR p.1,p.2.2.length,p.2.1,p.2.2.map qb)
def qGv (r:Int×PS):Int×BA×Nat×Bool×List (List PV):=(r.1,BR r.2.1,r.2.2.2.length,r.2.2.1,r.2.2.2.map qb)
def qPx (c:Nd):Prop:=(kd c).length≤2000∧c.2.2.2.2.1.size≤2000
structure Gd (p:PS):Prop where
 r:p.1.length≤1000
 n:p.2.2.length≤60
 s:∀x∈p.2.2,qPx x
theorem qNL (x:Nd) (p:PS) (h:p.2.2.length≤60):Ev (qo · x.1 x.2.1 x.2.2.1 x.2.2.2.1 x.2.2.2.2.1 x.2.2.2.2.2.1 x.2.2.2.2.2.2.1 x.2.2.2.2.2.2.2.1 x.2.2.2.2.2.2.2.2.1 x.2.2.2.2.2.2.2.2.2.1 x.2.2.2.2.2.2.2.2.2.2.1 x.2.2.2.2.2.2.2.2.2.2.2.1 x.2.2.2.2.2.2.2.2.2.2.2.2.1 ((kd x).map qBB) (BR p.1) p.2.2.length p.2.1 (p.2.2.map qb)) (qGv (qDO x p)):=by
 obtain ⟨r,b,l⟩:=p
 refine ⟨1,fun n hn=>?_⟩
 obtain ⟨m,rfl,hm⟩:=up1 hn
 replace h:l.length≤60:=h
 show qo (m+1) _ _ _ _ _ _ _ _ _ _ _ _ _ _ (BR r) l.length b (l.map qb)=_
 unfold qDO
 have w1:IntKind.i64.wrap (((l.length:Nat):Int)-1)=(l.length:Int)-1:=qU (by omega)
 have w2:IntKind.i64.wrap ((((l.length+1):Nat):Int)-1)=(l.length:Int):=by rw [qU (by omega)];omega
 cases b with
 |true=>
  rw [if_pos (.inl rfl)]
  refine qD rfl (qO rfl ?_)
  rw [qC,w1]
  rfl
 |false=>
  by_cases h6:60≤l.length
  ·rw [if_pos (.inr h6)]
   have d:decide (((l.length:Nat):Int)≥60)=true:=zD (by omega)
   refine qO rfl (qO (by rw [d];rfl) ?_)
   rw [qC,w1,d]
   rfl
  ·have hn:¬(((r,false,l):PS).2.1=true∨60≤((r,false,l):PS).2.2.length):=by
    intro hh
    rcases hh with hh|hh
    ·exact absurd hh (by simp)
    ·exact h6 hh
   rw [if_neg hn]
   have d:decide (((l.length:Nat):Int)≥60)=false:=zx (by omega)
   refine qO rfl (qD (by rw [d];rfl) (qD rfl (qD (zD ⟨by simp,by decide,by decide,by simp;omega,rfl⟩) ?_)))
   rw [qC,w2,d]
   simp only [qGv,List.map_append,List.length_append]
   rfl
theorem qJ2 (v:V3) (p:PS) (h:p.2.2.length≤60):Ev (qj · v.1 v.2.1 v.2.2 (BR p.1) p.2.2.length p.2.1 (p.2.2.map qb)) (qGv (qDO (nd1 v) p)):=by
 obtain ⟨n1,h1⟩:=qNL (nd1 v) p h
 refine ⟨n1+1,fun n hn=>?_⟩
 obtain ⟨k,rfl,hm⟩:=up1 hn
 exact qA (h1 k (by omega)) rfl
theorem qGo {x:Nd} {p:PS} (h:Gd p) (hx:qPx x):Gd (qDO x p).2:=by
 unfold qDO
 split
 ·exact ⟨h.r,h.n,h.s⟩
 ·rename_i hh
  refine ⟨h.r,?_,fun y hy=>?_⟩
  ·have:¬60≤p.2.2.length:=fun e=>hh (.inr e)
   simp;omega
  ·simp at hy
   rcases hy with hy|rfl
   ·exact h.s _ hy
   ·exact hx
theorem qCi {w:List UInt8} {p:PS} (h:Gd p):Gd (qY w p).2:=by
 have:=qIb w p
 have h2:=q8 p.1
 have h3:=h.r
 refine ⟨by omega,?_,?_⟩
 ·unfold qY;split<;>exact h.n
 ·unfold qY;split<;>exact h.s
theorem qF5 (w:List UInt8) (p:PS):Ev (qn · (BR w) (BR p.1) p.2.2.length p.2.1 (p.2.2.map qb)) ((qY w p).1,qFg (qY w p).2):=by
 obtain ⟨n1,h1⟩:=qQH w p.1 p.2.2.length p.2.1 (p.2.2.map qb)
 refine ⟨n1,fun n hn=>?_⟩
 have h1:=h1 n hn
 unfold qY
 by_cases h:sgn (tb p.1)=w
 ·simp only [h,if_true,decide_true] at h1
  rw [if_pos h];exact h1
 ·simp only [h,if_false,decide_false] at h1
  rw [if_neg h];exact h1
theorem qQq (p:PS) (h:p.1.length≤1000):Ev (qBJ · (BR p.1) p.2.2.length p.2.1 (p.2.2.map qb)) (BR (wd (tb p.1)),qFg (wr (tb p.1),p.2)):=qSm p.1 _ _ _ h
theorem qQr (r:List UInt8):(wd r).length≤r.length:=by
 have:=congrArg List.length (wdr r)
 simp only [List.length_append] at this
 omega
theorem qTI (r:List UInt8) (h:r.length≤1000):Ev (qAS · (BR (wd (tb r)))) (qAN (BR (wd (tb r)))):=qHD _ (by rw [qc];have:=qQr (tb r);have:=q8 r;omega)
theorem qUr (r:List UInt8) (h:r.length≤1000):Ev (qe · (BR (wd (tb r)))) (qi (BR (wd (tb r)))):=qHA _ (by rw [qc];have:=qQr (tb r);have:=q8 r;omega)
theorem qRM (c:UInt8) (t:List UInt8):Lib.cut (c::t) [34]=if c=34 then ([],t,true) else (c::(Lib.cut t [34]).1,(Lib.cut t [34]).2.1,(Lib.cut t [34]).2.2):=by
 by_cases h:c=34
 ·subst h
  rw [if_pos rfl]
  simp [Lib.cut,Lib.index,List.isPrefixOf]
 ·rw [if_neg h]
  have h':¬34=c:=fun e=>h e.symm
  have g:=Lib.index_ge t [34]
  unfold Lib.cut
  by_cases e:Lib.index t [34]= -1
  ·have:Lib.index (c::t) [34]= -1:=by simp [Lib.index,List.isPrefixOf,h',e]
   simp [this,e]
  ·have:Lib.index (c::t) [34]=Lib.index t [34]+1:=by simp [Lib.index,List.isPrefixOf,h',e]
   have p:0≤Lib.index t [34]:=by omega
   have p1:0≤Lib.index t [34]+1:=by omega
   have q:(Lib.index t [34]+1).toNat=(Lib.index t [34]).toNat+1:=by omega
   simp [this,p,p1,q]
theorem qUH (acc t:List UInt8):qB5 acc (34::34::t)=qB5 (acc++ [34]) t:=(qB5.eq_def acc _).trans (by simp)
theorem qUI (acc t:List UInt8) (h:t.head?≠some 34):qB5 acc (34::t)=some (acc,t):=by
 refine (qB5.eq_def acc _).trans ?_
 cases t with
 |nil=>simp
 |cons d t=>
  have:¬d=34:=fun e=>h (by rw [e];rfl)
  simp [this]
theorem qUJ (acc t:List UInt8) {c:UInt8} (h:¬c=34):qB5 acc (c::t)=qB5 (acc++ [c]) t:=(qB5.eq_def acc _).trans (by simp only [if_neg h])
theorem up3 {n n0:Nat} (h:n0+3≤n):∃m,n=m+3∧n0≤m:=⟨n-3,by omega,by omega⟩
theorem qQI:∀(r acc:List UInt8),qB5 acc r=if (Lib.cut r [34]).2.2=true then (if (Lib.cut r [34]).2.1.head?=some 34 then qB5 (acc++(Lib.cut r [34]).1++ [34]) (Lib.cut r [34]).2.1.tail else some (acc++(Lib.cut r [34]).1,(Lib.cut r [34]).2.1)) else none
 | [],acc=>by simp [qB5,Lib.cut,Lib.index]
 |c::t,acc=>by
  rw [qRM]
  by_cases h:c=34
  ·subst h
   rw [if_pos rfl]
   by_cases e:t.head?=some 34
   ·obtain ⟨u,rfl⟩:∃u,t=34::u:=by
     cases t with
     |nil=>cases e
     |cons d u=>simp at e;subst e;exact ⟨u,rfl⟩
    rw [qUH];simp
   ·rw [qUI acc t e];simp [e]
  ·simp only [if_neg h]
   rw [qUJ acc t h,qQI t (acc++ [c])]
   simp
theorem qSR:∀r:List UInt8,(Lib.cut r [34]).1.length+(Lib.cut r [34]).2.1.length≤r.length∧((Lib.cut r [34]).2.2=true→(Lib.cut r [34]).2.1.length<r.length)
 | []=>by simp [Lib.cut,Lib.index]
 |c::t=>by
  rw [qRM]
  have ih:=qSR t
  split
  ·simp
  ·simp only [List.length_cons]
   exact ⟨by omega,fun h=>by have:=ih.2 h;omega⟩
theorem qGp:∀(k:Nat) (acc r:List UInt8) {s t:List UInt8},r.length≤k→qB5 acc r=some (s,t)→s.length≤acc.length+r.length+1
 |k,acc,[],s,t,hk,h=>by simp [qB5] at h
 |0,acc,c::r,s,t,hk,h=>by simp at hk
 |k+1,acc,c::r,s,t,hk,h=>by
  simp only [List.length_cons] at hk
  unfold qB5 at h
  split at h
  ·cases r with
   |nil=>
    simp at h
    rw [←h.1];simp;omega
   |cons d r'=>
    simp only at h
    split at h
    ·have:=qGp k _ r' (by simp at hk;omega) h
     simp at this⊢;omega
    ·simp at h
     rw [←h.1];simp;omega
  ·have:=qGp k _ r (by omega) h
   simp at this⊢;omega
theorem qUK (m:Nat) (r:List UInt8) (h:r.length≤1000):qDQ (m+1) (BR r) ⟨#[34]⟩=some (BR (Lib.cut r [34]).1,BR (Lib.cut r [34]).2.1,(Lib.cut r [34]).2.2):=by
 show zAW (BR r) ⟨#[34]⟩=_
 unfold zAW
 rw [if_pos (by rw [qc];omega),←Go.Lib.toList_data (BR r),qAP]
 rfl
theorem qNZ (n:Nat) (orig:BA) (m:Nat) (b:Bool) (rows:List (List PV)):∀(k:Nat) (r acc:List UInt8) (M:Nat),r.length≤k→acc.length+r.length≤1000→k+1≤M→
  zF (qC4 (n+2)) M (BR acc,BR r,orig,m,b,rows)=some (match qB5 acc r with
   |none=> .inl (-1,orig,m,true,rows)
   |some (s,t)=> .inr (BR s,BR t,orig,m,b,rows))
 |k,r,acc,0,h1,h2,h3=>by omega
 |k,r,acc,M+1,h1,h2,h3=>by
  have hc:=qUK (n+1) r (by omega)
  have hl:=qSR r
  have hp:=qBY n (Lib.cut r [34]).2.1 [34]
  rw [qQI]
  cases hf:(Lib.cut r [34]).2.2 with
  |false=>
   rw [if_neg (by simp)]
   refine (qP (r:= .inl (-1,orig,m,true,rows)) ?_).trans rfl
   refine qA hc (qD (by simp [hf]) rfl)
  |true=>
   rw [if_pos rfl]
   have hlt:=hl.2 hf
   by_cases hh:(Lib.cut r [34]).2.1.head?=some 34
   ·rw [if_pos hh]
    have hb:List.isPrefixOf [34] (Lib.cut r [34]).2.1=true:=(qEx 34 _).2 hh
    obtain ⟨u,hu⟩:∃u,(Lib.cut r [34]).2.1=34::u:=by
     cases e:(Lib.cut r [34]).2.1 with
     |nil=>rw [e] at hh;cases hh
     |cons c u=>rw [e] at hh;simp at hh;subst hh;exact ⟨u,rfl⟩
    rw [hb] at hp
    rw [qT (v':=(BR (acc++(Lib.cut r [34]).1++ [34]),BR (Lib.cut r [34]).2.1.tail,orig,m,b,rows)) (by
     refine qA hc (qO (by simp [hf]) (qD (zD (by rw [qc,qc];omega)) (qA hp (qO rfl (qD (zD (by rw [qNJ,qc,List.length_append];show _+1≤9223372036854775807;omega)) (qD (zD ⟨by decide,by simp only [qc];rw [hu];simp;omega,by simp [qc]⟩) ?_))))))
     rw [qC]
     simp only [qNJ,qc,qFr]
     rw [hu]
     simp
     exact (qNJ (acc++(Lib.cut r [34]).1) [34]).trans (by rw [List.append_assoc]))]
    rw [hu] at hl hlt⊢
    simp only [List.length_cons] at hl hlt
    refine qNZ n orig m b rows (k-1) _ _ M (by simp;omega) (by simp;omega) (by omega)
   ·rw [if_neg hh]
    have hb:List.isPrefixOf [34] (Lib.cut r [34]).2.1=false:=by
     rw [Bool.eq_false_iff];intro e;exact hh ((qEx 34 _).1 e)
    rw [hb] at hp
    refine (qP (r:= .inr (BR (acc++(Lib.cut r [34]).1),BR (Lib.cut r [34]).2.1,orig,m,b,rows)) ?_).trans rfl
    refine qA hc (qO (by simp [hf]) (qD (zD (by rw [qc,qc];omega)) (qA hp (qD rfl ?_))))
    rw [qC,qNJ]
theorem qSn (t:List UInt8) (b:Bool) (l:List Nd) (h:t.length≤999) (hl:l.length≤60):Ev (qDc · (BR (34::t)) l.length b (l.map qb)) (qGv (match qB5 [] t with
   |none=>(-1,34::t,true,l)
   |some (s,t')=>qDO (nd1 (2,0,BR s)) (t',b,l))):=by
 have lp:=fun n M (hM:t.length+1≤M)=>qNZ n (BR (34::t)) l.length b (l.map qb) t.length t [] M (Nat.le_refl _) (by simp;omega) hM
 cases hq:qB5 [] t with
 |none=>
  refine ⟨t.length+1+3,fun n hn=>?_⟩
  obtain ⟨m,rfl,hm⟩:=up3 hn
  have lp:=lp m (m+2) (by omega)
  rw [hq] at lp
  refine qD (zD ⟨by decide,by rw [qc];simp;omega,Int.le_refl _⟩) ?_
  have e:(BR (34::t)).extract ((1:Int)).toNat ((((BR (34::t)).size:Nat):Int)).toNat=BR t:=by rw [qFr,qc];simp
  rw [e]
  exact qA lp rfl
 |some st=>
  obtain ⟨s,t'⟩:=st
  obtain ⟨n1,h1⟩:=qJ2 (2,0,BR s) (t',b,l) hl
  refine ⟨n1+t.length+1+3,fun n hn=>?_⟩
  obtain ⟨m,rfl,hm⟩:=up3 hn
  have lp:=lp m (m+2) (by omega)
  rw [hq] at lp
  refine qD (zD ⟨by decide,by rw [qc];simp;omega,Int.le_refl _⟩) ?_
  have e:(BR (34::t)).extract ((1:Int)).toNat ((((BR (34::t)).size:Nat):Int)).toNat=BR t:=by rw [qFr,qc];simp
  rw [e]
  exact qA lp (qA (h1 (m+2) (by omega)) rfl)
theorem qTv (m:Nat) (r:List UInt8) (w:BA):qAF (m+1) (BR r) w=some (BR (if w.toList.isPrefixOf r=true then r.drop w.size else r),w.toList.isPrefixOf r):=by
 show zu (BR r) w=_
 unfold zu Lib.trimPrefix Lib.hasPrefix
 rw [←Go.Lib.toList_data (BR r),←Go.Lib.toList_data w,qAP,qu]
 rfl
theorem qRN {n:Nat} (deep:Int) (r:List UInt8) (b:Bool) (l:List Nd)
  (h1:∀i,0≤i∧i≤5→qAm n i=some (qf i)) (h2:∀i,1≤i∧i≤5→qBr n i=some (4,i,em))
  (h3:∀w,qAF n (BR r) w=some (BR (if w.toList.isPrefixOf r=true then r.drop w.size else r),w.toList.isPrefixOf r))
  (h4:∀i,1≤i∧i≤5→qj n 4 i em (BR (r.drop (qf i).size)) l.length b (l.map qb)=some (qGv (qDO (nd1 (4,i,em)) (r.drop (qf i).size,b,l)))):
  ∀(k:Nat) (i:Int) (M:Nat),1≤i→i+k=6→k+1≤M→zF (qB6 n) M (deep,i,BR r,l.length,b,l.map qb)=some (match qI6 r i k with
   |some e=> .inl (qGv (qDO (nd1 (4,e,em)) (r.drop (qf e).size,b,l)))
   |none=> .inr (deep,BR r,l.length,b,l.map qb))
 |k,i,0,_,_,h=>by omega
 |0,i,M+1,hi,hk,h=>by
  rw [qP (r:= .inr (deep,BR r,l.length,b,l.map qb)) (by exact qO (zx (show ¬i≤5 by omega)) rfl)]
  rfl
 |k+1,i,M+1,hi,hk,h=>by
  have hi5:1≤i∧i≤5:=⟨hi,by omega⟩
  have c:=h3 (qf i)
  cases hq:(qf i).toList.isPrefixOf r with
  |true=>
   rw [hq,if_pos rfl] at c
   unfold qI6
   rw [if_pos hq]
   refine qP (qD (zD (show i≤5 by omega)) (qA (h1 i ⟨by omega,by omega⟩) (qA c (qD rfl (qA (h2 i hi5) (qA (h4 i hi5) rfl))))))
  |false=>
   rw [hq,if_neg (by simp)] at c
   unfold qI6
   rw [if_neg (by rw [hq];simp)]
   have w1:IntKind.i64.wrap (i+1)=i+1:=qU (by omega)
   rw [qT (v':=(deep,i+1,BR r,l.length,b,l.map qb)) (by refine qD (zD (show i≤5 by omega)) (qA (h1 i ⟨by omega,by omega⟩) (qA c (qO rfl ?_)));rw [qC,w1])]
   exact qRN deep r b l h1 h2 h3 h4 k (i+1) M (by omega) (by omega) (by omega)
theorem qUL (deep:Int) (r:List UInt8) (b:Bool) (l:List Nd) (hl:l.length≤60):∃n0,∀n,n0≤n→∀M,n0≤M→zF (qB6 n) M (deep,1,BR r,l.length,b,l.map qb)=some (match qI6 r 1 5 with
   |some e=> .inl (qGv (qDO (nd1 (4,e,em)) (r.drop (qf e).size,b,l)))
   |none=> .inr (deep,BR r,l.length,b,l.map qb)):=by
 obtain ⟨n1,h1⟩:=qF2 (F:=qAm) (f:=qf) (lo:=0) (by decide) qEu
 obtain ⟨n2,h2⟩:=qF2 (F:=qBr) (f:=fun i=>(4,i,em)) (lo:=1) (by decide) (fun i _=>qKq i)
 obtain ⟨n4,h4⟩:=qF2 (F:=fun n i=>qj n 4 i em (BR (r.drop (qf i).size)) l.length b (l.map qb)) (f:=fun i=>qGv (qDO (nd1 (4,i,em)) (r.drop (qf i).size,b,l))) (lo:=1) (by decide) (fun i _=>qJ2 (4,i,em) (r.drop (qf i).size,b,l) hl)
 refine ⟨n1+n2+n4+7,fun n hn M hM=>?_⟩
 exact qRN deep r b l (h1 n (by omega)) (h2 n (by omega)) (fun w=>by
  obtain ⟨m,rfl,_⟩:=up1 (show n1+1≤n by omega)
  exact qTv m r w) (h4 n (by omega)) 5 1 M (by omega) (by omega) (by omega)
theorem qSS {g:G_impl_reader_binary} {n:Nat} (deep:Int) (w:List UInt8) (p:PS) (res:Int→Int×PS) (h1:∀i,1≤i∧i≤10→qB9 n i=some (fnS i)):
  ∀(k:Nat) (i:Int) (M:Nat),1≤i→i+k=11→k+1≤M→(∀op,qF4 w i k=some op→g.impl_reader_call op deep (BR p.1) p.2.2.length p.2.1 (p.2.2.map qb)=some (qGv (res op)))→
   zF (qAp g n) M (deep,BR w,i,BR p.1,p.2.2.length,p.2.1,p.2.2.map qb)=some (match qF4 w i k with
   |some op=> .inl (qGv (res op))
   |none=> .inr (qFg p))
 |k,i,0,_,_,h,_=>by omega
 |0,i,M+1,hi,hk,h,_=>by
  rw [qP (r:= .inr (qFg p)) (by exact qO (zx (show ¬i≤10 by omega)) rfl)]
  rfl
 |k+1,i,M+1,hi,hk,h,hc=>by
  unfold qF4 at hc⊢
  by_cases hq:(fnS i).toList=w
  ·rw [if_pos hq] at hc⊢
   refine qP (qD (zD (show i≤10 by omega)) (qA (h1 i ⟨hi,by omega⟩) (qD (by simp [qAP,hq]) (qA (hc i rfl) rfl))))
  ·rw [if_neg hq] at hc⊢
   have w1:IntKind.i64.wrap (i+1)=i+1:=qU (by omega)
   have hq':¬w=(fnS i).toList:=fun e=>hq e.symm
   rw [qT (v':=(deep,BR w,i+1,BR p.1,p.2.2.length,p.2.1,p.2.2.map qb)) (by refine qD (zD (show i≤10 by omega)) (qA (h1 i ⟨hi,by omega⟩) (qO (by simp [qAP,hq']) ?_));rw [qC,w1])]
   exact qSS deep w p res h1 k (i+1) M (by omega) (by omega) (by omega) hc
theorem qUM:∃n0,∀n,n0≤n→∀i,1≤i∧i≤10→qB9 n i=some (fnS i):=by
 obtain ⟨n1,h1⟩:=qAt (F:=fun (i:Nat) n=>qB9 n ((i:Int)+1)) (f:=fun i=>fnS ((i:Int)+1)) (List.range 10) (fun i hi=>qJz _ (by have:=List.mem_range.1 hi;omega))
 refine ⟨n1,fun n hn i hi=>?_⟩
 have:=h1 n hn (i-1).toNat (List.mem_range.2 (by omega))
 rwa [show (((i-1).toNat:Nat):Int)+1=i by omega] at this
theorem qUN:∃n0,∀n,n0≤n→∀i,1≤i∧i≤11→qBO n i=some (qAO i):=by
 obtain ⟨n1,h1⟩:=qAt (F:=fun (i:Nat) n=>qBO n ((i:Int)+1)) (f:=fun i=>qAO ((i:Int)+1)) (List.range 11) (fun i hi=>qGm _ (by have:=List.mem_range.1 hi;omega))
 refine ⟨n1,fun n hn i hi=>?_⟩
 have:=h1 n hn (i-1).toNat (List.mem_range.2 (by omega))
 rwa [show (((i-1).toNat:Nat):Int)+1=i by omega] at this
def opF (s:List UInt8):Int→Int→Nat→Int
 |op,_,0=>op
 |op,i,k+1=>opF s (if s=(qAO i).toList then i else op) (i+1) k
theorem qUO (r:List UInt8):opF (sgn r) 0 1 11=qAy r:=by
 unfold qAy
 generalize sgn r=s
 by_cases h1:s= [43]; · subst h1;decide+kernel
 by_cases h2:s= [45]; · subst h2;decide+kernel
 by_cases h3:s= [42]; · subst h3;decide+kernel
 by_cases h4:s= [47]; · subst h4;decide+kernel
 by_cases h5:s= [38]; · subst h5;decide+kernel
 by_cases h6:s= [61]; · subst h6;decide+kernel
 by_cases h7:s= [60,62]; · subst h7;decide+kernel
 by_cases h8:s= [60]; · subst h8;decide+kernel
 by_cases h9:s= [60,61]; · subst h9;decide+kernel
 by_cases h10:s= [62]; · subst h10;decide+kernel
 by_cases h11:s= [62,61]; · subst h11;decide+kernel
 rw [if_neg h1,if_neg h2,if_neg h3,if_neg h4,if_neg h5,if_neg h6,if_neg h7,if_neg h8,if_neg h9,if_neg h10,if_neg h11]
 rw [←sg1] at h1;rw [←sg2] at h2;rw [←sg3] at h3;rw [←sg4] at h4;rw [←sg5] at h5;rw [←sg6] at h6;rw [←sg7] at h7;rw [←sg8] at h8;rw [←sg9] at h9;rw [←qTE] at h10;rw [←qTF] at h11
 simp only [opF,if_neg h1]
 simp only [show (1:Int)+1=2 from rfl,if_neg h2,show (2:Int)+1=3 from rfl,if_neg h3,show (3:Int)+1=4 from rfl,if_neg h4,show (4:Int)+1=5 from rfl,if_neg h5,show (5:Int)+1=6 from rfl,if_neg h6,show (6:Int)+1=7 from rfl,if_neg h7,show (7:Int)+1=8 from rfl,if_neg h8,show (8:Int)+1=9 from rfl,if_neg h9,show (9:Int)+1=10 from rfl,if_neg h10,show (10:Int)+1=11 from rfl,if_neg h11]
theorem qRO {n:Nat} (least deep a op i:Int) (r R:List UInt8) (m:Nat) (b:Bool) (rows:List (List PV)) (hi:1≤i∧i≤11)
  (h1:qBk n (BR r) m b rows=some (BR (sgn R),BR R,m,b,rows)) (h2:qBO n i=some (qAO i)):
  (qBE n (least,deep,a,op,i,BR r,m,b,rows)).run=some (.inl (least,deep,a,if sgn R=(qAO i).toList then i else op,i+1,BR R,m,b,rows)):=by
 have w1:IntKind.i64.wrap (i+1)=i+1:=qU (by omega)
 refine qD (zD (show i≤11 by omega)) (qA h1 (qA h2 ?_))
 by_cases hq:sgn R=(qAO i).toList
 ·rw [if_pos hq]
  exact qD (by simp [qAP,hq]) (by rw [qC,w1])
 ·rw [if_neg hq]
  exact qO (by simp [qAP,hq]) (by rw [qC,w1])
theorem qRP {n:Nat} (least deep a:Int) (R:List UInt8) (m:Nat) (b:Bool) (rows:List (List PV))
  (h1:qBk n (BR R) m b rows=some (BR (sgn R),BR R,m,b,rows)) (h2:∀i,1≤i∧i≤11→qBO n i=some (qAO i)):
  ∀(k:Nat) (op i:Int) (M:Nat),1≤i→i+k=12→k+1≤M→zF (qBE n) M (least,deep,a,op,i,BR R,m,b,rows)=some (least,deep,a,opF (sgn R) op i k,BR R,m,b,rows)
 |k,op,i,0,_,_,h=>by omega
 |0,op,i,M+1,hi,hk,h=>by
  rw [qP (r:=(least,deep,a,op,BR R,m,b,rows)) (by exact qO (zx (show ¬i≤11 by omega)) rfl)]
  rfl
 |k+1,op,i,M+1,hi,hk,h=>by
  rw [qT (qRO least deep a op i R R m b rows ⟨hi,by omega⟩ h1 (h2 i ⟨hi,by omega⟩))]
  exact qRP least deep a R m b rows h1 h2 k _ (i+1) M (by omega) (by omega) (by omega)
theorem qTw (least deep a:Int) (r:List UInt8) (m:Nat) (b:Bool) (rows:List (List PV)):∃n0,∀n,n0≤n→∀M,n0≤M→zF (qBE n) M (least,deep,a,0,1,BR r,m,b,rows)=some (least,deep,a,qAy (tb r),BR (tb r),m,b,rows):=by
 obtain ⟨n1,h1⟩:=qNK r m b rows
 obtain ⟨n2,h2⟩:=qNK (tb r) m b rows
 obtain ⟨n3,h3⟩:=qUN
 refine ⟨n1+n2+n3+20,fun n hn M hM=>?_⟩
 obtain ⟨M,rfl,hM⟩:=up1 hM
 have h2:=h2 n (by omega)
 rw [qCR] at h2
 rw [qT (qRO least deep a 0 1 r (tb r) m b rows (by omega) (h1 n (by omega)) (h3 n (by omega) 1 (by omega)))]
 rw [show (1:Int)+1=2 from rfl,qRP least deep a (tb r) m b rows h2 (h3 n (by omega)) 10 _ 2 M (by omega) (by omega) (by omega),←qUO]
 rfl
theorem qST {p:PS} (h:Gd p):Gd (qBG p).2∧(qBG p).2.1.length≤p.1.length∧∀x,(qBG p).1=some x→qPx x:=by
 have h1:=q8 p.1
 have h2:=qGn (tb p.1)
 have h0:=h.r
 unfold qBG
 simp only
 split
 ·have h3:=qIb [58] (wr (tb p.1),p.2)
  have h4:=q8 (qY [58] (wr (tb p.1),p.2)).2.1
  have h5:=qGn (tb (qY [58] (wr (tb p.1),p.2)).2.1)
  have h6:=q8 (wr (tb p.1))
  have e:(qY [58] (wr (tb p.1),p.2)).2.2.2=p.2.2:=by unfold qY;split<;>rfl
  simp only at h3
  refine ⟨⟨by simp only;omega,by rw [e];exact h.n,by rw [e];exact h.s⟩,by simp only;omega,fun x hx=>?_⟩
  cases hx
  exact ⟨by simp [kd,ndA],by simp [ndA,em];decide⟩
 ·exact ⟨h,Nat.le_refl _,fun x hx=>by cases hx⟩
theorem qTx (p:PS) (h:p.1.length≤1000):∃x:Nd,(∀y,(qBG p).1=some y→x=y)∧Ev (qDF · (BR p.1) p.2.2.length p.2.1 (p.2.2.map qb)) (x.1,x.2.1,x.2.2.1,x.2.2.2.1,x.2.2.2.2.1,x.2.2.2.2.2.1,x.2.2.2.2.2.2.1,x.2.2.2.2.2.2.2.1,x.2.2.2.2.2.2.2.2.1,x.2.2.2.2.2.2.2.2.2.1,x.2.2.2.2.2.2.2.2.2.2.1,x.2.2.2.2.2.2.2.2.2.2.2.1,x.2.2.2.2.2.2.2.2.2.2.2.2.1,(kd x).map qBB,(qBG p).1.isSome,qFg (qBG p).2):=by
 have l1:=q8 p.1
 have l2:=qGn (tb p.1)
 have l3:=qIb [58] (wr (tb p.1),p.2)
 have l6:=q8 (wr (tb p.1))
 simp only at l3
 obtain ⟨n1,h1⟩:=qQq p h
 obtain ⟨n2,h2⟩:=qTI p.1 h
 obtain ⟨n3,h3⟩:=qF5 [58] (wr (tb p.1),p.2)
 have hle:(qY [58] (wr (tb p.1),p.2)).2.1.length≤1000:=by omega
 obtain ⟨n4,h4⟩:=qQq (qY [58] (wr (tb p.1),p.2)).2 hle
 obtain ⟨n5,h5⟩:=qTI (qY [58] (wr (tb p.1),p.2)).2.1 hle
 have e:(qY [58] (wr (tb p.1),p.2)).2.2=p.2:=by unfold qY;split<;>rfl
 unfold qBG
 simp only
 by_cases hc:(qAN (BR (wd (tb p.1)))).2.2.2.2=true∧(qY [58] (wr (tb p.1),p.2)).1=true
 ·rw [if_pos hc]
  refine ⟨_,fun y hy=>by cases hy;rfl,n1+n2+n3+n4+n5+1,fun n hn=>?_⟩
  obtain ⟨k,rfl,hm⟩:=up1 hn
  refine qA (h1 k (by omega)) (qA (h2 k (by omega)) (qD hc.1 (qA (h3 k (by omega)) (qO (by simp only;rw [hc.2];rfl) (qA (h4 k (by omega)) (qA (h5 k (by omega)) ?_))))))
  cases hb:(qY [58] (wr (tb p.1),p.2)).2.2.1 with
  |true=>
   refine qD hb ?_
   rw [qC];rfl
  |false=>
   refine qO hb ?_
   rw [qC];rfl
 ·rw [if_neg hc]
  refine ⟨(0,0,0,0,⟨#[]⟩,0,0,false,false,0,0,false,false,[]),fun y hy=>(by cases hy),n1+n2+n3+1,fun n hn=>?_⟩
  obtain ⟨k,rfl,hm⟩:=up1 hn
  cases hr:(qAN (BR (wd (tb p.1)))).2.2.2.2 with
  |false=>exact qA (h1 k (by omega)) (qA (h2 k (by omega)) (qO hr rfl))
  |true=>
   have ht:(qY [58] (wr (tb p.1),p.2)).1=false:=by
    rw [Bool.eq_false_iff];exact fun e=>hc ⟨hr,e⟩
   refine qA (h1 k (by omega)) (qA (h2 k (by omega)) (qD hr (qA (h3 k (by omega)) (qD (by simp only;rw [ht];rfl) ?_))))
   rw [qC]
   simp only [qFg,e]
   rfl
theorem qJ3 {s:BA} (h:(qi s).2.2.2=true) (hk:(qi s).1=1∨(qi s).1=3):(qi s).2.2.1.size≤2000:=by
 unfold qi at h hk⊢
 split at h
 ·rename_i hc
  rw [if_pos hc] at hk⊢
  have h1:=hc.1
  unfold okV at h1
  have h2:¬(qBH s).1=2:=by
   simp only at hk
   omega
  rw [if_neg h2] at h1
  simp only [Bool.and_eq_true,beq_iff_eq] at h1
  have:=congrArg List.length h1.1
  rw [qu] at this
  have h0:(qBH s).2.2.size=0:=this
  show (qBH s).2.2.size≤2000
  omega
 ·cases h
def Kj:PJ→PS→Prop
 | .args _ _ kids,p=>kids.length+p.1.length≤1500
 |_,_=>True
theorem qKC {w:List UInt8} {p:PS} (h:Gd p):Gd (qCK w p)∧(qCK w p).1.length≤p.1.length:=by
 have h1:=qIb w p
 have h2:=q8 p.1
 unfold qCK
 split
 ·exact ⟨h,Nat.le_refl _⟩
 ·split
  ·exact ⟨qCi h,by omega⟩
  ·exact ⟨⟨(qCi h).r,(qCi h).n,(qCi h).s⟩,by show (qY w p).2.1.length≤_;omega⟩
theorem qMF {p:PS} {r:List UInt8} (h:Gd p) (hr:r.length≤p.1.length):Gd (r,p.2):=⟨by have:=h.r;simp only;omega,h.n,h.s⟩
theorem qE1:∀(f:Nat) (j:PJ) (p:PS),Gd p→Kj j p→Gd (pP f j p).2∧(pP f j p).2.1.length≤p.1.length
 |0,j,p,h,_=>⟨h,Nat.le_refl _⟩
 |f+1,.bin least deep,p,h,_=>by
  unfold pP
  have a:=qE1 f (.un deep) p h trivial
  have b:=qE1 f (.loop least deep (pP f (.un deep) p).1) (pP f (.un deep) p).2 a.1 trivial
  exact ⟨b.1,Nat.le_trans b.2 a.2⟩
 |f+1,.loop least deep a,p,h,_=>by
  have h1:=q8 p.1
  unfold pP
  split
  ·exact ⟨h,Nat.le_refl _⟩
  ·split
   ·exact ⟨qMF h h1,h1⟩
   ·have l1:((tb p.1).drop (sgn (tb p.1)).length).length≤p.1.length:=by simp;omega
    have b:=qE1 f (.bin (lvl (qAy (tb p.1))+1) deep) ((tb p.1).drop (sgn (tb p.1)).length,p.2) (qMF h l1) trivial
    simp only
    have c:=qGo (x:=ndK 5 (qAy (tb p.1)) [a,(pP f (.bin (lvl (qAy (tb p.1))+1) deep) ((tb p.1).drop (sgn (tb p.1)).length,p.2)).1]) b.1 ⟨by simp [kd,ndK],by simp [ndK,em];decide⟩
    have d:=qE1 f (.loop least deep (qDO (ndK 5 (qAy (tb p.1)) [a,(pP f (.bin (lvl (qAy (tb p.1))+1) deep) ((tb p.1).drop (sgn (tb p.1)).length,p.2)).1]) (pP f (.bin (lvl (qAy (tb p.1))+1) deep) ((tb p.1).drop (sgn (tb p.1)).length,p.2)).2).1) _ c trivial
    refine ⟨d.1,Nat.le_trans d.2 ?_⟩
    rw [qA4]
    exact Nat.le_trans b.2 l1
 |f+1,.un deep,p,h,_=>by
  have h1:=q8 p.1
  have h2:=qIb [45] p
  unfold pP
  split
  ·exact ⟨⟨h.r,h.n,h.s⟩,Nat.le_refl _⟩
  ·split
   ·simp only
    have b:=qE1 f (.un (deep+1)) (qY [45] p).2 (qCi h) trivial
    refine ⟨qGo b.1 ⟨by simp [kd,ndK],by simp [ndK,em];decide⟩,?_⟩
    rw [qA4]
    exact Nat.le_trans b.2 (by omega)
   ·have b:=qE1 f (.at deep) (qY [45] p).2 (qCi h) trivial
    exact ⟨b.1,Nat.le_trans b.2 (by omega)⟩
 |f+1,.at deep,p,h,_=>by
  have h1:=q8 p.1
  have h2:=qIb [40] p
  have h3:=qGn (tb p.1)
  have h4:=h.r
  have g2:Gd (wr (tb p.1),p.2):=qMF h (by omega)
  unfold pP
  simp only
  split
  ·split
   ·exact ⟨⟨by simp only;omega,h.n,h.s⟩,h1⟩
   ·rename_i hh _ s t hq
    have a:=qKA _ _ hq
    have b:=qGp _ _ _ (Nat.le_refl _) hq
    simp only [List.length_tail,List.length_nil] at a b
    refine ⟨qGo (qMF h (by omega)) ⟨by simp [kd,nd1],by simp only [nd1,qc];omega⟩,?_⟩
    rw [qA4];simp only;omega
  ·split
   ·refine ⟨qGo (qMF h (by simp;omega)) ⟨by simp [kd,nd1],by simp [nd1,em];decide⟩,?_⟩
    rw [qA4];simp;omega
   ·split
    ·have b:=qE1 f (.bin 1 (deep+1)) (qY [40] p).2 (qCi h) trivial
     have c:=qKC (w:= [41]) b.1
     exact ⟨c.1,Nat.le_trans c.2 (Nat.le_trans b.2 (by omega))⟩
    ·split
     ·rename_i hv
      refine ⟨qGo g2 ⟨by simp [kd,nd1],qJ3 hv.1 hv.2⟩,?_⟩
      rw [qA4];simp only;omega
     ·split
      ·refine ⟨qGo g2 ⟨by simp [kd,ndC],by simp [ndC,em];decide⟩,?_⟩
       rw [qA4];simp only;omega
      ·split
       ·rename_i op _
        have b:=qE1 f (.call op deep) (wr (tb p.1),p.2) g2 trivial
        exact ⟨b.1,Nat.le_trans b.2 (by simp only;omega)⟩
       ·exact ⟨⟨g2.r,g2.n,g2.s⟩,by show (wr (tb p.1)).length≤_;omega⟩
 |f+1,.call op deep,p,h,_=>by
  unfold pP
  have a:=qKC (w:= [40]) h
  have b:=qE1 f (.args op deep []) (qCK [40] p) a.1 (by have:=a.1.r;show 0+_≤_;omega)
  exact ⟨b.1,Nat.le_trans b.2 a.2⟩
 |f+1,.args op deep kids,p,h,hk=>by
  replace hk:kids.length+p.1.length≤1500:=hk
  unfold pP
  split
  ·refine ⟨qGo h ⟨by simp [kd,ndK];omega,by simp [ndK,em];decide⟩,?_⟩
   rw [qA4];exact Nat.le_refl _
  ·simp only
   have a:=qST h
   have qg:Gd (qEV (qBG p) (fun p=>pP f (.bin 1 (deep+1)) p)).2∧(qEV (qBG p) (fun p=>pP f (.bin 1 (deep+1)) p)).2.1.length≤p.1.length:=by
    unfold qEV
    split
    ·rename_i x hx
     refine ⟨qGo a.1 (a.2.2 x hx),?_⟩
     rw [qA4];exact a.2.1
    ·have b:=qE1 f (.bin 1 (deep+1)) (qBG p).2 a.1 trivial
     exact ⟨b.1,Nat.le_trans b.2 a.2.1⟩
   generalize qEV (qBG p) (fun p=>pP f (.bin 1 (deep+1)) p)=q at qg⊢
   have t0:=qg.2
   have t1:=q8 q.2.1
   have t2:=qIb [44] q.2
   split
   ·rename_i ht
    have t3:=qDj (by simp) ht
    have b:=qE1 f (.args op deep (kids++ [q.1])) (qY [44] q.2).2 (qCi qg.1) (by show (kids++ [q.1]).length+_≤_;simp;omega)
    exact ⟨b.1,Nat.le_trans b.2 (by omega)⟩
   ·have c:=qKC (w:= [41]) (qCi (w:= [44]) qg.1)
    refine ⟨qGo c.1 ⟨by simp [kd,ndK];omega,by simp [ndK,em];decide⟩,?_⟩
    rw [qA4]
    exact Nat.le_trans c.2 (by omega)
def Ad (f:Nat):PJ→PS→Prop
 | .bin _ _,p=>20*(tb p.1).length+6≤f
 | .loop _ _ _,p=>20*(tb p.1).length+5≤f
 | .un _,p=>20*(tb p.1).length+4≤f
 | .at _,p=>20*(tb p.1).length+3≤f∧p.2.1=false
 | .call _ _,p=>20*(tb p.1).length+9≤f
 | .args _ _ _,p=>20*(tb p.1).length+8≤f
def Jd:PJ→Prop
 | .bin _ d=>0≤d∧d≤401
 | .loop _ d _=>0≤d∧d≤401
 | .un d=>0≤d∧d≤401
 | .at d=>0≤d∧d≤400
 | .call _ d=>0≤d∧d≤400
 | .args _ d _=>0≤d∧d≤400
def Wk:PJ→PS→Int×PS→Prop
 | .bin least deep,p,r=>Ev (qCc · least deep (BR p.1) p.2.2.length p.2.1 (p.2.2.map qb)) (qGv r)
 | .loop least deep a,p,r=>∃n0,∀n,n0≤n→∀M,n0≤M→zF (qC5 (qR n) n) M (least,deep,a,qFg p)=some (qGv r)
 | .un deep,p,r=>Ev (qFx · deep (BR p.1) p.2.2.length p.2.1 (p.2.2.map qb)) (qGv r)
 | .at deep,p,r=>Ev (qGY · deep (BR p.1) p.2.2.length p.2.1 (p.2.2.map qb)) (qGv r)
 | .call op deep,p,r=>Ev (qCJ · op deep (BR p.1) p.2.2.length p.2.1 (p.2.2.map qb)) (qGv r)
 | .args op deep kids,p,r=>∃(ks:List Int) (p':PS),r=qDO (ndK 6 op ks) p'∧Gd p'∧ks.length≤1501∧∃n0,∀n,n0≤n→∀M,n0≤M→
   zF (qCN (qR n) n) M (op,deep,kids.length,kids.map qBB,qFg p)=some (op,ks.length,ks.map qBB,qFg p')
theorem qMG (w:List UInt8) {p:PS} (h:p.2.1=false):(BR (qY w p).2.1,(qY w p).2.2.2.length,!(qY w p).1,(qY w p).2.2.2.map qb)=qFg (qCK w p):=by
 have e:(qY w p).2.2=p.2:=by unfold qY;split<;>rfl
 unfold qCK
 rw [if_neg (by rw [h];simp)]
 cases hc:(qY w p).1 with
 |true=>rw [if_pos rfl];simp only [qFg,e,h];rfl
 |false=>rw [if_neg (by simp)];rfl
theorem qQs {r w:List UInt8} (hw:w≠ []) (h:w<+:r):(tb (r.drop w.length)).length<r.length:=by
 have h1:=q8 (r.drop w.length)
 have h2:=h.length_le
 have h3:0<w.length:=List.length_pos_iff.2 hw
 simp only [List.length_drop] at h1
 omega
theorem qUs {r:List UInt8} (h:qAy r≠0):1≤qAy r∧qAy r≤11∧sgn r=(qAO (qAy r)).toList∧sgn r≠ []:=by
 rcases qSP r with e|⟨a,b,c⟩
 ·exact absurd e h
 ·refine ⟨a,b,c,fun e=>h ?_⟩
  unfold qAy;rw [e];decide
def qTJ (f:Nat) (deep:Int) (w:List UInt8) (p2:PS):Int×PS:=
 if (qi (BR w)).2.2.2=true∧((qi (BR w)).1=1∨(qi (BR w)).1=3) then qDO (nd1 ((qi (BR w)).1,(qi (BR w)).2.1,(qi (BR w)).2.2.1)) p2
 else if (qAN (BR w)).2.2.2.2=true then qDO (ndC (qAN (BR w))) p2
 else match qF4 w 1 10 with
 |some op=>pP f (.call op deep) p2
 |none=>(-1,qRr p2)
def qRw (g:G_impl_reader_binary) (n:Nat) (deep:Int) (w:BA) (c:BA×Nat×Bool×List (List PV)):Tr (Int×BA×Nat×Bool×List (List PV)):=
 (.opt (qAS n w) fun r=>(.ask r.2.2.2.2
  (.opt (qo n 2 0 0 0 ⟨#[]⟩ r.1 r.2.1 r.2.2.1 r.2.2.2.1 0 0 false false [] c.1 c.2.1 c.2.2.1 c.2.2.2) fun s=> .done (s.1,s.2.1,s.2.2.1,s.2.2.2.1,s.2.2.2.2))
  (.opt (zF (qAp g n) n (deep,w,1,c.1,c.2.1,c.2.2.1,c.2.2.2)) fun s=>(.alt s (fun t=> .done (t.1,t.2.1,t.2.2.1,t.2.2.2.1,t.2.2.2.2)) (fun t=> .done (-1,t.1,t.2.1,true,t.2.2.2))))))
def qT7 (g:G_impl_reader_binary) (n:Nat) (deep:Int) (w:BA) (c:BA×Nat×Bool×List (List PV)):Tr (Int×BA×Nat×Bool×List (List PV)):=
 (.opt (qe n w) fun r=>(.ask r.2.2.2
  (.ask (r.1==1) (.opt (qj n r.1 r.2.1 r.2.2.1 c.1 c.2.1 c.2.2.1 c.2.2.2) fun s=> .done (s.1,s.2.1,s.2.2.1,s.2.2.2.1,s.2.2.2.2))
   (.ask (r.1==3) (.opt (qj n r.1 r.2.1 r.2.2.1 c.1 c.2.1 c.2.2.1 c.2.2.2) fun s=> .done (s.1,s.2.1,s.2.2.1,s.2.2.2.1,s.2.2.2.2))
    (qRw g n deep w c)))
  (qRw g n deep w c)))
theorem qSo (f:Nat) (deep:Int) (r:List UInt8) (p2:PS) (hr:r.length≤1000) (hp:p2.2.2.length≤60) (hc:∀op,qF4 (wd (tb r)) 1 10=some op→Ev (qCJ · op deep (BR p2.1) p2.2.2.length p2.2.1 (p2.2.2.map qb)) (qGv (pP f (.call op deep) p2))):
  ∃n0,∀n,n0≤n→(qRw (qR n) n deep (BR (wd (tb r))) (qFg p2)).run=some (qGv (if (qAN (BR (wd (tb r)))).2.2.2.2=true then qDO (ndC (qAN (BR (wd (tb r))))) p2 else match qF4 (wd (tb r)) 1 10 with
   |some op=>pP f (.call op deep) p2
   |none=>(-1,qRr p2))):=by
 obtain ⟨n1,h1⟩:=qTI r hr
 obtain ⟨n2,h2⟩:=qNL (ndC (qAN (BR (wd (tb r))))) p2 hp
 obtain ⟨n3,h3⟩:=qUM
 obtain ⟨n4,h4⟩:∃n4,∀n,n4≤n→∀op,qF4 (wd (tb r)) 1 10=some op→qCJ n op deep (BR p2.1) p2.2.2.length p2.2.1 (p2.2.2.map qb)=some (qGv (pP f (.call op deep) p2)):=by
  cases hf:qF4 (wd (tb r)) 1 10 with
  |none=>exact ⟨0,fun n _ op h=>by cases h⟩
  |some op=>obtain ⟨n4,h4⟩:=hc op hf;exact ⟨n4,fun n hn op' h=>by cases h;exact h4 n hn⟩
 refine ⟨n1+n2+n3+n4+12,fun n hn=>?_⟩
 have lp:=qSS (g:=qR n) deep (wd (tb r)) p2 (fun op=>pP f (.call op deep) p2) (h3 n (by omega)) 10 1 n (by omega) (by omega) (by omega) (h4 n (by omega))
 cases hb:(qAN (BR (wd (tb r)))).2.2.2.2 with
 |true=>
  rw [if_pos rfl]
  exact qA (h1 n (by omega)) (qD hb (qA (h2 n (by omega)) rfl))
 |false=>
  rw [if_neg (by simp)]
  refine qA (h1 n (by omega)) (qO hb (qA lp ?_))
  cases qF4 (wd (tb r)) 1 10<;>rfl
theorem qTK (f:Nat) (deep:Int) (r:List UInt8) (p2:PS) (hr:r.length≤1000) (hp:p2.2.2.length≤60) (hc:∀op,qF4 (wd (tb r)) 1 10=some op→Ev (qCJ · op deep (BR p2.1) p2.2.2.length p2.2.1 (p2.2.2.map qb)) (qGv (pP f (.call op deep) p2))):
  ∃n0,∀n,n0≤n→(qT7 (qR n) n deep (BR (wd (tb r))) (qFg p2)).run=some (qGv (qTJ f deep (wd (tb r)) p2)):=by
 obtain ⟨n1,h1⟩:=qUr r hr
 obtain ⟨n2,h2⟩:=qJ2 ((qi (BR (wd (tb r)))).1,(qi (BR (wd (tb r)))).2.1,(qi (BR (wd (tb r)))).2.2.1) p2 hp
 obtain ⟨n3,h3⟩:=qSo f deep r p2 hr hp hc
 refine ⟨n1+n2+n3,fun n hn=>?_⟩
 have h2:=h2 n (by omega)
 have h3:=h3 n (by omega)
 unfold qTJ
 refine qA (h1 n (by omega)) ?_
 by_cases ho:(qi (BR (wd (tb r)))).2.2.2=true
 ·refine qD ho ?_
  by_cases k1:(qi (BR (wd (tb r)))).1=1
  ·rw [if_pos ⟨ho,.inl k1⟩]
   exact qD (by rw [k1];rfl) (qA h2 rfl)
  ·refine qO (beq_eq_false_iff_ne.2 k1) ?_
   by_cases k3:(qi (BR (wd (tb r)))).1=3
   ·rw [if_pos ⟨ho,.inr k3⟩]
    exact qD (by rw [k3];rfl) (qA h2 rfl)
   ·rw [if_neg (fun h=>h.2.elim k1 k3)]
    exact qO (beq_eq_false_iff_ne.2 k3) h3
 ·rw [if_neg (fun h=>ho h.1)]
  exact qO (by rw [Bool.eq_false_iff];exact ho) h3
theorem qUt (w:List UInt8) (p:PS):qY w (tb p.1,p.2)=qY w p:=by unfold qY;simp only [qCR]
theorem qKD {c:UInt8} {r:List UInt8} (h:r.head?=some c):∃t,r=c::t:=by
 cases r with
 |nil=>cases h
 |cons d t=>simp at h;subst h;exact ⟨t,rfl⟩
theorem qFL:∀(f:Nat) (j:PJ) (p:PS),Ad f j p→Jd j→Gd p→Kj j p→Wk j p (pP f j p)
 |0,j,p,ha,_,_,_=>by cases j<;>simp [Ad] at ha
 |f+1,.bin least deep,p,ha,hj,hg,_=>by
  replace ha:20*(tb p.1).length+6≤f+1:=ha
  obtain ⟨n1,h1⟩:=qFL f (.un deep) p (by show 20*_+4≤f;omega) hj hg trivial
  have hl:=qDk f (.un deep) p
  obtain ⟨n2,h2⟩:=qFL f (.loop least deep (pP f (.un deep) p).1) (pP f (.un deep) p).2 (by show 20*_+5≤f;omega) hj (qE1 f (.un deep) p hg trivial).1 trivial
  refine ⟨n1+n2+1,fun n hn=>?_⟩
  obtain ⟨k,rfl,hm⟩:=up1 hn
  exact qA (h1 k (by omega)) (qA (h2 k (by omega) k (by omega)) rfl)
 |f+1,.loop least deep a,(r,b,l),ha,hj,hg,_=>by
  replace ha:20*(tb r).length+5≤f+1:=ha
  have hn60:l.length≤60:=hg.n
  have hr1:r.length≤1000:=hg.r
  have ht:=q8 r
  unfold pP
  cases b with
  |true=>
   rw [if_pos rfl]
   refine ⟨1,fun n hn M hM=>?_⟩
   obtain ⟨M,rfl,hM⟩:=up1 hM
   exact qP (qO rfl rfl)
  |false=>
   rw [if_neg (by simp)]
   simp only
   obtain ⟨n1,h1⟩:=qTw least deep a r l.length false (l.map qb)
   by_cases h0:qAy (tb r)=0
   ·rw [if_pos (.inl h0)]
    refine ⟨n1+1,fun n hn M hM=>?_⟩
    obtain ⟨M,rfl,hM⟩:=up1 hM
    exact qP (qD rfl (qA (h1 n (by omega) n (by omega)) (qD (by simp only;rw [h0];rfl) rfl)))
   ·obtain ⟨o1,o2,o3,o4⟩:=qUs h0
    obtain ⟨n2,h2⟩:=qKu (qAy (tb r)) ⟨o1,o2⟩
    by_cases hl:lvl (qAy (tb r))<least
    ·rw [if_pos (.inr hl)]
     refine ⟨n1+n2+1,fun n hn M hM=>?_⟩
     obtain ⟨M,rfl,hM⟩:=up1 hM
     exact qP (qD rfl (qA (h1 n (by omega) n (by omega)) (qO (beq_eq_false_iff_ne.2 h0) (qA (h2 n (by omega)) (qD (zD hl) rfl)))))
    ·rw [if_neg (fun h=>h.elim h0 hl)]
     have lv:=qRs (op:=qAy (tb r))
     have hlt:=qQs o4 (qSQ (tb r))
     have hp1:Gd ((tb r).drop (sgn (tb r)).length,false,l):=⟨by simp;omega,hn60,hg.s⟩
     obtain ⟨n3,h3⟩:=qGm (qAy (tb r)) ⟨o1,o2⟩
     obtain ⟨n4,h4⟩:=qQH (qAO (qAy (tb r))).toList (tb r) l.length false (l.map qb)
     obtain ⟨n5,h5⟩:=qFL f (.bin (lvl (qAy (tb r))+1) deep) ((tb r).drop (sgn (tb r)).length,false,l) (by show 20*_+6≤f;simp only;omega) hj hp1 trivial
     have g5:=qE1 f (.bin (lvl (qAy (tb r))+1) deep) ((tb r).drop (sgn (tb r)).length,false,l) hp1 trivial
     have l5:=qDk f (.bin (lvl (qAy (tb r))+1) deep) ((tb r).drop (sgn (tb r)).length,false,l)
     simp only at l5
     generalize pP f (.bin (lvl (qAy (tb r))+1) deep) ((tb r).drop (sgn (tb r)).length,false,l)=q at h5 g5 l5⊢
     obtain ⟨n6,h6⟩:=qNL (ndK 5 (qAy (tb r)) [a,q.1]) q.2 g5.1.n
     have g6:=qGo (x:=ndK 5 (qAy (tb r)) [a,q.1]) g5.1 ⟨by simp [kd,ndK],by simp [ndK,em];decide⟩
     have e6:=qA4 (ndK 5 (qAy (tb r)) [a,q.1]) q.2
     generalize qDO (ndK 5 (qAy (tb r)) [a,q.1]) q.2=c at h6 g6 e6⊢
     obtain ⟨n7,h7⟩:=qFL f (.loop least deep c.1) c.2 (by show 20*(tb c.2.1).length+5≤f;rw [e6];omega) hj g6 trivial
     refine ⟨n1+n2+n3+n4+n5+n6+n7+1,fun n hn M hM=>?_⟩
     obtain ⟨M,rfl,hM⟩:=up1 hM
     have w1:IntKind.i64.wrap (lvl (qAy (tb r))+1)=lvl (qAy (tb r))+1:=qU (by omega)
     have h3:=h3 n (by omega)
     have h4:=h4 n (by omega)
     have h5:=h5 n (by omega)
     rw [qI7,qCR,←o3,if_pos rfl] at h4
     rw [←w1] at h5
     rw [qT (v':=(least,deep,c.1,qFg c.2)) (by
      exact qD rfl (qA (h1 n (by omega) n (by omega)) (qO (beq_eq_false_iff_ne.2 h0) (qA (h2 n (by omega)) (qO (zx hl) (qA h3 (qA h4 (qA (h2 n (by omega)) (qA h5 (qD rfl (qA (h6 n (by omega)) rfl)))))))))))]
     exact h7 n (by omega) M (by omega)
 |f+1,.un deep,p,ha,hj,hg,_=>by
  replace ha:20*(tb p.1).length+4≤f+1:=ha
  replace hj:0≤deep∧deep≤401:=hj
  unfold pP
  by_cases hd:deep>400
  ·rw [if_pos (.inl hd)]
   refine ⟨1,fun n hn=>?_⟩
   obtain ⟨k,rfl,hm⟩:=up1 hn
   exact qD (zD hd) (qD rfl rfl)
  ·cases hb:p.2.1 with
   |true=>
    rw [if_pos (.inr rfl)]
    refine ⟨1,fun n hn=>?_⟩
    obtain ⟨k,rfl,hm⟩:=up1 hn
    refine qO (zx hd) (qD hb ?_)
    rw [qC,hb];rfl
   |false=>
    rw [if_neg (fun h=>h.elim hd (by simp))]
    obtain ⟨n1,h1⟩:=qF5 [45] p
    have t1:=qDu [45] p
    cases hc:(qY [45] p).1 with
    |true=>
     rw [if_pos rfl]
     simp only
     have t2:=qDj (by simp) hc
     have t3:=q8 (qY [45] p).2.1
     obtain ⟨n2,h2⟩:=qFL f (.un (deep+1)) (qY [45] p).2 (by show 20*_+4≤f;omega) (by show 0≤deep+1∧deep+1≤401;omega) (qCi hg) trivial
     have g2:=qE1 f (.un (deep+1)) (qY [45] p).2 (qCi hg) trivial
     generalize pP f (.un (deep+1)) (qY [45] p).2=q at h2 g2⊢
     obtain ⟨n3,h3⟩:=qNL (ndK 4 0 [q.1]) q.2 g2.1.n
     refine ⟨n1+n2+n3+1,fun n hn=>?_⟩
     obtain ⟨k,rfl,hm⟩:=up1 hn
     have w1:IntKind.i64.wrap (deep+1)=deep+1:=qU (by omega)
     have h2:=h2 k (by omega)
     rw [←w1] at h2
     exact qO (zx hd) (qO hb (qA (h1 k (by omega)) (qD hc (qA h2 (qD rfl (qA (h3 k (by omega)) rfl))))))
    |false=>
     rw [if_neg (by simp)]
     have e:(qY [45] p).2.2=p.2:=by unfold qY;split<;>rfl
     obtain ⟨n2,h2⟩:=qFL f (.at deep) (qY [45] p).2 ⟨by omega,by rw [e];exact hb⟩ (by show 0≤deep∧deep≤400;omega) (qCi hg) trivial
     refine ⟨n1+n2+1,fun n hn=>?_⟩
     obtain ⟨k,rfl,hm⟩:=up1 hn
     exact qO (zx hd) (qO hb (qA (h1 k (by omega)) (qO hc (qA (h2 k (by omega)) rfl))))
 |f+1,.at deep,(r0,b,l),ha,hj,hg,_=>by
  obtain ⟨ha,hb⟩:=ha
  replace ha:20*(tb r0).length+3≤f+1:=ha
  replace hb:b=false:=hb
  subst hb
  replace hj:0≤deep∧deep≤400:=hj
  have hn60:l.length≤60:=hg.n
  have hr1:r0.length≤1000:=hg.r
  have ht:=q8 r0
  have ett:=qCR r0
  have eit:=qUt [40] (r0,false,l)
  obtain ⟨n1,h1⟩:=qHG r0 l.length false (l.map qb)
  have wdec:∀op,qF4 (wd (tb r0)) 1 10=some op→(wr (tb r0)).length<(tb r0).length:=fun op h=>by
   have e:=congrArg List.length (wdr (tb r0))
   simp only [List.length_append] at e
   have:wd (tb r0)≠ []:=fun e=>by
    rw [e,show qF4 [] 1 10=none by decide+kernel] at h
    cases h
   have:=List.length_pos_iff.2 this
   omega
  unfold pP
  simp only at eit⊢
  rw [←eit]
  generalize tb r0=r at*
  have hw:=qGn r
  have wordEv:∃n0,∀n,n0≤n→(qT7 (qR n) n deep (BR (wd r)) (qFg (wr r,false,l))).run=some (qGv (qTJ f deep (wd r) (wr r,false,l))):=by
   have:=qTK f deep r (wr r,false,l) (by omega) hn60 (by
    rw [ett]
    intro op h
    exact qFL f (.call op deep) (wr r,false,l) (by have:=wdec op h;have:=q8 (wr r);show 20*(tb (wr r)).length+9≤f;omega) hj ⟨by simp only;omega,hn60,hg.s⟩ trivial)
   rwa [ett] at this
  obtain ⟨n9,h9⟩:=wordEv
  obtain ⟨n8,h8⟩:=qQq (r,false,l) (by simp only;omega)
  simp only [ett] at h8
  by_cases hq:r.head?=some 34
  ·rw [if_pos hq]
   obtain ⟨t,rfl⟩:=qKD hq
   simp only [List.length_cons] at ht
   obtain ⟨n2,h2⟩:=qSn t false l (by omega) hn60
   refine ⟨n1+n2+3,fun n hn=>?_⟩
   obtain ⟨k,rfl,hm⟩:=up3 hn
   refine qA (h1 (k+2) (by omega)) (qA (qBY k (34::t) [34]) (qD rfl (qA (h2 (k+2) (by omega)) ?_)))
   rw [qC]
   simp only [List.tail_cons]
   all_goals (cases qB5 [] t<;>rfl)
  ·rw [if_neg hq]
   have p34:List.isPrefixOf [34] r=false:=by rw [Bool.eq_false_iff];exact fun e=>hq ((qEx 34 r).1 e)
   by_cases hh:r.head?=some 35
   ·have p35:List.isPrefixOf [35] r=true:=(qEx 35 r).2 hh
    simp only [if_pos hh]
    obtain ⟨n2,h2⟩:=qUL deep r false l hn60
    cases he:qI6 r 1 5 with
    |some e=>
     simp only
     refine ⟨n1+n2+3,fun n hn=>?_⟩
     obtain ⟨k,rfl,hm⟩:=up3 hn
     have h2:=h2 (k+2) (by omega) (k+2) (by omega)
     rw [he] at h2
     exact qA (h1 (k+2) (by omega)) (qA (qBY k r [34]) (qO p34 (qA (qBY k r [35]) (qD p35 (qA h2 rfl)))))
    |none=>
     simp only
     rw [if_neg (fun h=>h.1 hh)]
     refine ⟨n1+n2+n8+n9+3,fun n hn=>?_⟩
     obtain ⟨k,rfl,hm⟩:=up3 hn
     have h2:=h2 (k+2) (by omega) (k+2) (by omega)
     rw [he] at h2
     exact qA (h1 (k+2) (by omega)) (qA (qBY k r [34]) (qO p34 (qA (qBY k r [35]) (qD p35 (qA h2 (qA (h8 (k+2) (by omega)) (h9 (k+2) (by omega))))))))
   ·have p35:List.isPrefixOf [35] r=false:=by rw [Bool.eq_false_iff];exact fun e=>hh ((qEx 35 r).1 e)
    simp only [if_neg hh]
    obtain ⟨n2,h2⟩:=qF5 [40] (r,false,l)
    cases hc:(qY [40] (r,false,l)).1 with
    |true=>
     rw [if_pos ⟨hh,rfl⟩]
     have t2:=qDj (by simp) hc
     have t3:=q8 (qY [40] (r,false,l)).2.1
     simp only [ett] at t2
     have g1:Gd (r,false,l):=⟨by simp only;omega,hn60,hg.s⟩
     obtain ⟨n3,h3⟩:=qFL f (.bin 1 (deep+1)) (qY [40] (r,false,l)).2 (by show 20*_+6≤f;omega) (by show 0≤deep+1∧deep+1≤401;omega) (qCi g1) trivial
     generalize pP f (.bin 1 (deep+1)) (qY [40] (r,false,l)).2=q at h3⊢
     obtain ⟨n4,h4⟩:=qF5 [41] q.2
     refine ⟨n1+n2+n3+n4+3,fun n hn=>?_⟩
     obtain ⟨k,rfl,hm⟩:=up3 hn
     have w1:IntKind.i64.wrap (deep+1)=deep+1:=qU (by omega)
     have h3:=h3 (k+2) (by omega)
     rw [←w1] at h3
     cases hbb:q.2.2.1 with
     |true=>
      refine qA (h1 (k+2) (by omega)) (qA (qBY k r [34]) (qO p34 (qA (qBY k r [35]) (qO p35 (qA (h2 (k+2) (by omega)) (qD hc (qA h3 (qD hbb ?_))))))))
      rw [qC]
      unfold qCK
      rw [if_pos hbb]
      simp only [qGv,hbb]
     |false=>
      refine qA (h1 (k+2) (by omega)) (qA (qBY k r [34]) (qO p34 (qA (qBY k r [35]) (qO p35 (qA (h2 (k+2) (by omega)) (qD hc (qA h3 (qO hbb (qA (h4 (k+2) (by omega)) ?_)))))))))
      rw [qC]
      exact congrArg (fun x=>some (q.1,x)) (qMG [41] hbb)
    |false=>
     rw [if_neg (fun h=>by simp at h)]
     have e:(qY [40] (r,false,l)).2=(r,false,l):=by
      unfold qY at hc⊢
      split at hc
      ·cases hc
      ·rename_i hne
       rw [if_neg hne];simp only [ett]
     rw [hc,e] at h2
     refine ⟨n1+n2+n8+n9+3,fun n hn=>?_⟩
     obtain ⟨k,rfl,hm⟩:=up3 hn
     exact qA (h1 (k+2) (by omega)) (qA (qBY k r [34]) (qO p34 (qA (qBY k r [35]) (qO p35 (qA (h2 (k+2) (by omega)) (qO rfl (qA (h8 (k+2) (by omega)) (h9 (k+2) (by omega)))))))))
 |f+1,.call op deep,p,ha,hj,hg,_=>by
  replace ha:20*(tb p.1).length+9≤f+1:=ha
  unfold pP
  have gm:=qKC (w:= [40]) hg
  have rm:=qJ9 [40] p
  obtain ⟨ks,p',e1,e2,e3,n2,h2⟩:=qFL f (.args op deep []) (qCK [40] p) (by show 20*_+8≤f;omega) hj gm.1 (by have:=gm.1.r;show 0+_≤_;omega)
  obtain ⟨n1,h1⟩:=qF5 [40] p
  obtain ⟨n3,h3⟩:=qNL (ndK 6 op ks) p' e2.n
  rw [e1]
  refine ⟨n1+n2+n3+1,fun n hn=>?_⟩
  obtain ⟨k,rfl,hm⟩:=up1 hn
  have h2:=h2 k (by omega) k (by omega)
  by_cases hb:p.2.1=true
  ·have em:qFg (qCK [40] p)=(BR p.1,p.2.2.length,true,p.2.2.map qb):=by
    unfold qCK;rw [if_pos hb];simp only [qFg,hb]
   rw [em] at h2
   exact qD hb (qA h2 (qD (zD (by simp)) (qA (h3 k (by omega)) rfl)))
  ·have hb:p.2.1=false:=by rw [Bool.eq_false_iff];exact hb
   have em:=qMG [40] hb
   rw [←em] at h2
   exact qO hb (qA (h1 k (by omega)) (qA h2 (qD (zD (by simp)) (qA (h3 k (by omega)) rfl))))
 |f+1,.args op deep kids,p,ha,hj,hg,hk=>by
  replace ha:20*(tb p.1).length+8≤f+1:=ha
  replace hk:kids.length+p.1.length≤1500:=hk
  replace hj:0≤deep∧deep≤400:=hj
  unfold pP
  cases hb:p.2.1 with
  |true=>
   rw [if_pos rfl]
   refine ⟨kids,p,rfl,hg,by omega,1,fun n hn M hM=>?_⟩
   obtain ⟨M,rfl,hM⟩:=up1 hM
   exact qP (qO (by show (!p.2.1)=false;rw [hb];rfl) rfl)
  |false=>
   rw [if_neg (by simp)]
   simp only
   obtain ⟨x,hx,n1,h1⟩:=qTx p hg.r
   have ga:=qST hg
   have ra:=qID p
   have tl0:=q8 p.1
   have nb:∀k:Nat,(!(qFg p).2.2.1)=true:=fun _=>by show (!p.2.1)=true;rw [hb];rfl
   cases hi:(qBG p).1 with
   |some y=>
    have hxy:=hx y hi
    subst hxy
    obtain ⟨n3,h3⟩:=qNL x (qBG p).2 ga.1.n
    have eo:qEV (qBG p) (fun p=>pP f (.bin 1 (deep+1)) p)=qDO x (qBG p).2:=by unfold qEV;rw [hi]
    rw [eo]
    have gq:Gd (qDO x (qBG p).2).2∧(qDO x (qBG p).2).2.1.length≤p.1.length∧(tb (qDO x (qBG p).2).2.1).length≤(tb p.1).length:=⟨qGo ga.1 (ga.2.2 x hi),by rw [qA4];exact ga.2.1,by rw [qA4];exact ra⟩
    have n2:=0
    generalize qDO x (qBG p).2=Q at h3 gq⊢
    obtain ⟨n4,h4⟩:=qF5 [44] Q.2
    cases hc:(qY [44] Q.2).1 with
    |true=>
     obtain ⟨ks,p',e1,e2,e3,n6,h6⟩:=qFL f (.args op deep (kids++ [Q.1])) (qY [44] Q.2).2 (by have:=qDj (by simp) hc;show 20*(tb (qY [44] Q.2).2.1).length+8≤f;have:=q8 (qY [44] Q.2).2.1;omega) ⟨hj.1,hj.2⟩ (qCi gq.1) (by have:=qDj (by simp) hc;have:=q8 Q.2.1;show (kids++ [Q.1]).length+_≤_;simp;omega)
     refine ⟨ks,p',by rw [if_pos rfl];exact e1,e2,e3,n1+n2+n3+n4+n6+1,fun k hn M hM=>?_⟩
     obtain ⟨M,rfl,hM⟩:=up1 hM
     rw [qT (v':=(op,deep,(kids++ [Q.1]).length,(kids++ [Q.1]).map qBB,qFg (qY [44] Q.2).2)) (by
      have h1:=h1 k (by omega)
      rw [hi] at h1
      refine qD (nb 0) (qA h1 (qD rfl (qA (h3 k (by omega)) (qD rfl (qD (zD ⟨by simp,by decide,by decide,by simp;omega,rfl⟩) (qA (h4 k (by omega)) ?_))))))
      refine qO (by simp only;rw [hc];rfl) ?_
      rw [qC]
      simp only [List.length_append,List.map_append]
      rfl)]
     exact h6 k (by omega) M (by omega)
    |false=>
     obtain ⟨n5,h5⟩:=qF5 [41] (qY [44] Q.2).2
     refine ⟨kids++ [Q.1],qCK [41] (qY [44] Q.2).2,by rw [if_neg (by simp)],(qKC (qCi gq.1)).1,by simp;omega,n1+n2+n3+n4+n5+1,fun k hn M hM=>?_⟩
     obtain ⟨M,rfl,hM⟩:=up1 hM
     cases hbb:(qY [44] Q.2).2.2.1 with
     |true=>
      rw [qP (r:=(op,(kids++ [Q.1]).length,(kids++ [Q.1]).map qBB,qFg (qCK [41] (qY [44] Q.2).2))) (by
       have h1:=h1 k (by omega)
       rw [hi] at h1
       refine qD (nb 0) (qA h1 (qD rfl (qA (h3 k (by omega)) (qD rfl (qD (zD ⟨by simp,by decide,by decide,by simp;omega,rfl⟩) (qA (h4 k (by omega)) ?_))))))
       refine qD (by simp only;rw [hc];rfl) (qD hbb ?_)
       rw [qC]
       unfold qCK
       rw [if_pos hbb]
       simp only [List.length_append,List.map_append,qFg,hbb]
       rfl)]
     |false=>
      rw [qP (r:=(op,(kids++ [Q.1]).length,(kids++ [Q.1]).map qBB,qFg (qCK [41] (qY [44] Q.2).2))) (by
       have h1:=h1 k (by omega)
       rw [hi] at h1
       refine qD (nb 0) (qA h1 (qD rfl (qA (h3 k (by omega)) (qD rfl (qD (zD ⟨by simp,by decide,by decide,by simp;omega,rfl⟩) (qA (h4 k (by omega)) ?_))))))
       refine qD (by simp only;rw [hc];rfl) (qO hbb (qA (h5 k (by omega)) ?_))
       rw [qC]
       simp only [List.length_append,List.map_append]
       exact congrArg (fun x=>some (Sum.inr (op,kids.length+1,kids.map qBB++ [[PV.i IntKind.i64 Q.1]],x))) (qMG [41] hbb))]
   |none=>
    have eo:qEV (qBG p) (fun p=>pP f (.bin 1 (deep+1)) p)=pP f (.bin 1 (deep+1)) (qBG p).2:=by unfold qEV;rw [hi]
    rw [eo]
    obtain ⟨n3,h3⟩:=qFL f (.bin 1 (deep+1)) (qBG p).2 (by show 20*_+6≤f;omega) (by show 0≤deep+1∧deep+1≤401;omega) ga.1 trivial
    have g3:=qE1 f (.bin 1 (deep+1)) (qBG p).2 ga.1 trivial
    have l3:=qDk f (.bin 1 (deep+1)) (qBG p).2
    have w1:IntKind.i64.wrap (deep+1)=deep+1:=qU (by omega)
    have gq:Gd (pP f (.bin 1 (deep+1)) (qBG p).2).2∧(pP f (.bin 1 (deep+1)) (qBG p).2).2.1.length≤p.1.length∧(tb (pP f (.bin 1 (deep+1)) (qBG p).2).2.1).length≤(tb p.1).length:=⟨g3.1,Nat.le_trans g3.2 ga.2.1,Nat.le_trans l3 ra⟩
    rw [←w1] at h3
    have n2:=0
    rw [w1] at h3
    generalize pP f (.bin 1 (deep+1)) (qBG p).2=Q at h3 gq⊢
    obtain ⟨n4,h4⟩:=qF5 [44] Q.2
    cases hc:(qY [44] Q.2).1 with
    |true=>
     obtain ⟨ks,p',e1,e2,e3,n6,h6⟩:=qFL f (.args op deep (kids++ [Q.1])) (qY [44] Q.2).2 (by have:=qDj (by simp) hc;show 20*(tb (qY [44] Q.2).2.1).length+8≤f;have:=q8 (qY [44] Q.2).2.1;omega) ⟨hj.1,hj.2⟩ (qCi gq.1) (by have:=qDj (by simp) hc;have:=q8 Q.2.1;show (kids++ [Q.1]).length+_≤_;simp;omega)
     refine ⟨ks,p',by rw [if_pos rfl];exact e1,e2,e3,n1+n2+n3+n4+n6+1,fun k hn M hM=>?_⟩
     obtain ⟨M,rfl,hM⟩:=up1 hM
     rw [qT (v':=(op,deep,(kids++ [Q.1]).length,(kids++ [Q.1]).map qBB,qFg (qY [44] Q.2).2)) (by
      have h1:=h1 k (by omega)
      rw [hi] at h1
      have h3:=h3 k (by omega)
      rw [←w1] at h3
      refine qD (nb 0) (qA h1 (qO rfl (qA h3 (qD rfl (qD (zD ⟨by simp,by decide,by decide,by simp;omega,rfl⟩) (qA (h4 k (by omega)) ?_))))))
      refine qO (by simp only;rw [hc];rfl) ?_
      rw [qC]
      simp only [List.length_append,List.map_append]
      rfl)]
     exact h6 k (by omega) M (by omega)
    |false=>
     obtain ⟨n5,h5⟩:=qF5 [41] (qY [44] Q.2).2
     refine ⟨kids++ [Q.1],qCK [41] (qY [44] Q.2).2,by rw [if_neg (by simp)],(qKC (qCi gq.1)).1,by simp;omega,n1+n2+n3+n4+n5+1,fun k hn M hM=>?_⟩
     obtain ⟨M,rfl,hM⟩:=up1 hM
     cases hbb:(qY [44] Q.2).2.2.1 with
     |true=>
      rw [qP (r:=(op,(kids++ [Q.1]).length,(kids++ [Q.1]).map qBB,qFg (qCK [41] (qY [44] Q.2).2))) (by
       have h1:=h1 k (by omega)
       rw [hi] at h1
       have h3:=h3 k (by omega)
       rw [←w1] at h3
       refine qD (nb 0) (qA h1 (qO rfl (qA h3 (qD rfl (qD (zD ⟨by simp,by decide,by decide,by simp;omega,rfl⟩) (qA (h4 k (by omega)) ?_))))))
       refine qD (by simp only;rw [hc];rfl) (qD hbb ?_)
       rw [qC]
       unfold qCK
       rw [if_pos hbb]
       simp only [List.length_append,List.map_append,qFg,hbb]
       rfl)]
     |false=>
      rw [qP (r:=(op,(kids++ [Q.1]).length,(kids++ [Q.1]).map qBB,qFg (qCK [41] (qY [44] Q.2).2))) (by
       have h1:=h1 k (by omega)
       rw [hi] at h1
       have h3:=h3 k (by omega)
       rw [←w1] at h3
       refine qD (nb 0) (qA h1 (qO rfl (qA h3 (qD rfl (qD (zD ⟨by simp,by decide,by decide,by simp;omega,rfl⟩) (qA (h4 k (by omega)) ?_))))))
       refine qD (by simp only;rw [hc];rfl) (qO hbb (qA (h5 k (by omega)) ?_))
       rw [qC]
       simp only [List.length_append,List.map_append]
       exact congrArg (fun x=>some (Sum.inr (op,kids.length+1,kids.map qBB++ [[PV.i IntKind.i64 Q.1]],x))) (qMG [41] hbb))]
def pos (s r:List UInt8):Int:=((s.length-r.length:Nat):Int)
def qCq (s:List UInt8) (q:PS):BA×Int×Bool×Nat×List (List PV):=(BR s,pos s q.1,q.2.1,q.2.2.length,q.2.2.map qb)
def qCS (s:List UInt8) (r:Int×PS):Int×BA×Int×Bool×Nat×List (List PV):=(r.1,qCq s r.2)
theorem qRQ {s r:List UInt8} (h:r<:+s):s.drop (s.length-r.length)=r:=by
 obtain ⟨t,rfl⟩:=h
 simp
theorem qSU (s r:List UInt8):(pos s r).toNat=s.length-r.length:=by unfold pos;simp
theorem qKw (s r:List UInt8):0≤pos s r:=by unfold pos;omega
theorem qDK {s r:List UInt8} (h:r<:+s):r.length≤s.length:=h.length_le
theorem qKE {s r t:List UInt8} {k:Nat} (h:r<:+s) (e:t=r.drop k) (hk:k≤r.length):pos s r+(k:Int)=pos s t:=by
 subst e
 have:=qDK h
 unfold pos
 simp only [List.length_drop]
 omega
theorem qMH {s r:List UInt8} (h:r<:+s):(BR s).toList[(pos s r).toNat]?=r.head?:=by
 rw [qAP,qSU,←List.head?_drop,qRQ h]
theorem qRx {s r:List UInt8} (h:r<:+s):tb r<:+s:=(List.dropWhile_suffix _).trans h
theorem qPF {s t:List UInt8} {c:UInt8} (h:(c::t)<:+s):t<:+s:=(List.suffix_cons c t).trans h
theorem qOJ {s r:List UInt8} {k:Nat} (h:r<:+s):(BR s).extract (pos s r).toNat (pos s r+(k:Int)).toNat=BR (r.take k):=by
 rw [qFr,qSU,show (pos s r+(k:Int)).toNat=(s.length-r.length)+k by unfold pos;omega,←List.take_drop,qRQ h]
theorem qDA {b:Bool} (h:b=true):(!b)=false:=by rw [h];rfl
theorem qDv {b:Bool} (h:b=false):(!b)=true:=by rw [h];rfl
theorem qQJ {s:List UInt8} (hs:s.length≤1000) (n:Nat) (b:Bool) (m:Nat) (rows:List (List PV)):∀(r:List UInt8) (M:Nat),r<:+s→r.length+1≤M→zF (qDY n) M (BR s,pos s r,b,m,rows)=some (BR s,pos s (tb r),b,m,rows)
 |r,0,_,h=>by omega
 | [],M+1,h,_=>by
  exact qP (qO (zx (show ¬pos s []<((BR s).size:Int) by rw [qc];unfold pos;simp)) rfl)
 |c::t,M+1,h,hM=>by
  have hl:=qDK h
  simp only [List.length_cons] at hl hM
  have g:=qMH h
  have p1:pos s (c::t)<((BR s).size:Int):=by rw [qc];unfold pos;simp only [List.length_cons];omega
  by_cases hc:c=32
  ·subst hc
   have w1:IntKind.i64.wrap (pos s (32::t)+1)=pos s t:=by
    have:=qKE (k:=1) h (t:=t) rfl (by simp)
    rw [qU (by unfold pos;omega)];exact this
   rw [qT (v':=(BR s,pos s t,b,m,rows)) (by
    refine qD (zD p1) (qD (zD (qKw _ _)) (qA g (qD rfl ?_)))
    rw [qC,w1])]
   have e:tb (32::t)=tb t:=by simp [tb]
   rw [e]
   exact qQJ hs n b m rows t M (qPF h) (by omega)
  ·have e:tb (c::t)=c::t:=by simp [tb,hc]
   rw [e]
   refine qP (qD (zD p1) (qD (zD (qKw _ _)) (qA g (qO ?_ rfl))))
   rw [beq_eq_false_iff_ne]
   intro e
   exact hc (UInt8.toNat_inj.1 (show c.toNat=32 by omega))
theorem qQt {s:List UInt8} (hs:s.length≤1000) (q:PS) (h:q.1<:+s):Ev (qBf · (BR s) (pos s q.1) q.2.1 q.2.2.length (q.2.2.map qb)) (qCq s (tb q.1,q.2)):=by
 have hl:=qDK h
 refine ⟨q.1.length+2,fun n hn=>?_⟩
 obtain ⟨k,rfl,hm⟩:=up1 hn
 exact qA (qQJ hs k q.2.1 q.2.2.length (q.2.2.map qb) q.1 k h (by omega)) rfl
theorem qGq {s:List UInt8} (hs:s.length≤1000) (w:List UInt8) (hw:w.length≤1000) (q:PS) (h:q.1<:+s):Ev (qAE · (BR w) (BR s) (pos s q.1) q.2.1 q.2.2.length (q.2.2.map qb)) ((sIs w q).1,qCq s (sIs w q).2):=by
 obtain ⟨n1,h1⟩:=qQt hs q h
 have ht:=qRx h
 have hl:=qDK ht
 refine ⟨n1+1,fun n hn=>?_⟩
 obtain ⟨k,rfl,hm⟩:=up1 hn
 have w1:IntKind.i64.wrap (pos s (tb q.1)+((BR w).size:Int))=pos s (tb q.1)+(w.length:Int):=by rw [qc];exact qU (by unfold pos;omega)
 unfold sIs
 cases hb:q.2.1 with
 |true=>
  rw [if_pos rfl]
  have h1:=h1 k (by omega)
  rw [hb] at h1
  refine qA h1 (qD hb ?_)
  rw [qC]
 |false=>
  have h1:=h1 k (by omega)
  rw [hb] at h1
  rw [if_neg (by simp)]
  by_cases hf:pos s (tb q.1)+(w.length:Int)>(s.length:Int)
  ·have hn:¬w.isPrefixOf (tb q.1)=true:=by
    intro e
    have:=(List.isPrefixOf_iff_prefix.1 e).length_le
    unfold pos at hf
    omega
   rw [if_neg hn]
   refine qA h1 (qO hb (qD (zD (show IntKind.i64.wrap (pos s (tb q.1)+((BR w).size:Int))>((BR s).size:Int) by rw [w1,qc];exact hf)) ?_))
   rw [qC]
  ·have hx:=qOJ (k:=w.length) ht
   have hwl:w.length≤(tb q.1).length:=by unfold pos at hf;omega
   have cmp:((BR s).extract (pos s (tb q.1)).toNat (IntKind.i64.wrap (pos s (tb q.1)+((BR w).size:Int))).toNat).toList==(BR w).toList↔w.isPrefixOf (tb q.1)=true:=by
    rw [w1,hx,qAP,qAP,beq_iff_eq,List.isPrefixOf_iff_prefix,List.prefix_iff_eq_take]
    exact ⟨fun e=>e.symm,fun e=>e.symm⟩
   refine qA h1 (qO hb (qO (zx (show ¬IntKind.i64.wrap (pos s (tb q.1)+((BR w).size:Int))>((BR s).size:Int) by rw [w1,qc];exact hf)) (qD (zD (show 0≤pos s (tb q.1)∧pos s (tb q.1)≤IntKind.i64.wrap (pos s (tb q.1)+((BR w).size:Int))∧IntKind.i64.wrap (pos s (tb q.1)+((BR w).size:Int))≤((BR s).size:Int) by rw [w1,qc];exact ⟨qKw _ _,by omega,by omega⟩)) ?_)))
   by_cases hp:w.isPrefixOf (tb q.1)=true
   ·rw [if_pos hp]
    refine qO (qDA (cmp.2 hp)) ?_
    rw [qC]
    show some (true,BR s,IntKind.i64.wrap (pos s (tb q.1)+((BR w).size:Int)),q.2.1,q.2.2.length,q.2.2.map qb)=_
    rw [w1,qKE ht rfl hwl]
    rfl
   ·rw [if_neg hp]
    refine qD (qDv (by rw [Bool.eq_false_iff];exact fun e=>hp (cmp.1 e))) ?_
    rw [qC]
theorem qJ4 {s:List UInt8} (x:Nd) (q:PS) (h:q.2.2.length≤5000) (hx:qPx x):Ev (qr · x.1 x.2.1 x.2.2.1 x.2.2.2.1 x.2.2.2.2.1 x.2.2.2.2.2.1 x.2.2.2.2.2.2.1 x.2.2.2.2.2.2.2.1 x.2.2.2.2.2.2.2.2.1 x.2.2.2.2.2.2.2.2.2.1 x.2.2.2.2.2.2.2.2.2.2.1 x.2.2.2.2.2.2.2.2.2.2.2.1 x.2.2.2.2.2.2.2.2.2.2.2.2.1 ((kd x).map qBB) (BR s) (pos s q.1) q.2.1 q.2.2.length (q.2.2.map qb)) (qCS s (qD8 x q)):=by
 obtain ⟨n1,h1⟩:=qIA x (by have:=hx.2;omega)
 refine ⟨n1+1,fun n hn=>?_⟩
 obtain ⟨k,rfl,hm⟩:=up1 hn
 have w2:IntKind.i64.wrap ((((q.2.2.length+1):Nat):Int)-1)=(q.2.2.length:Int):=by rw [qU (by omega)];omega
 refine qD rfl (qD (zD ⟨by simp,by decide,by decide,by simp;omega,rfl⟩) ?_)
 unfold qD8
 by_cases h6:60<q.2.2.length+1
 ·rw [if_pos (.inl h6)]
  refine qD (zD (by omega)) ?_
  rw [qC,w2]
  simp only [qCS,qCq,List.map_append,List.length_append]
  rfl
 ·refine qO (zx (by omega)) (qA (h1 k (by omega)) ?_)
  cases ho:qE0 x with
  |true=>
   rw [if_neg (fun e=>e.elim h6 (by simp))]
   refine qO rfl ?_
   rw [qC,w2]
   simp only [qCS,qCq,List.map_append,List.length_append]
   rfl
  |false=>
   rw [if_pos (.inr rfl)]
   refine qD rfl ?_
   rw [qC,w2]
   simp only [qCS,qCq,List.map_append,List.length_append]
   rfl
theorem qNa {s:List UInt8} (hs:s.length≤1000) (n:Nat) (at0:Int) (b:Bool) (m:Nat) (rows:List (List PV)):∀(r:List UInt8) (M:Nat),r<:+s→r.length+1≤M→zF (qBz n) M (at0,BR s,pos s r,b,m,rows)=some (at0,BR s,pos s (wr r),b,m,rows)
 |r,0,_,h=>by omega
 | [],M+1,h,_=>by
  exact qP (qO (zx (show ¬pos s []<((BR s).size:Int) by rw [qc];unfold pos;simp)) rfl)
 |c::t,M+1,h,hM=>by
  have hl:=qDK h
  simp only [List.length_cons] at hl hM
  have g:=qMH h
  have p1:pos s (c::t)<((BR s).size:Int):=by rw [qc];unfold pos;simp only [List.length_cons];omega
  have p0:decide (0≤pos s (c::t))=true:=zD (qKw _ _)
  have w1:IntKind.i64.wrap (pos s (c::t)+1)=pos s t:=by
   have:=qKE (k:=1) h (t:=t) rfl (by simp)
   rw [qU (by unfold pos;omega)];exact this
  have yes:(wch c=true)→(qBz n (at0,BR s,pos s (c::t),b,m,rows)).run=some (.inl (at0,BR s,pos s t,b,m,rows)):=fun hc=>by
   have fin:some (Sum.inl (at0,BR s,IntKind.i64.wrap (pos s (c::t)+1),b,m,rows))=(some (Sum.inl (at0,BR s,pos s t,b,m,rows)):Option (_⊕(Int×BA×Int×Bool×Nat×List (List PV)))):=by rw [w1]
   refine qD (zD p1) (qD p0 (qA g ?_))
   by_cases a1:(c.toNat:Int)≥65
   ·refine qD (zD a1) (qD p0 (qA g ?_))
    by_cases a2:(c.toNat:Int)≤90
    ·exact qD (zD a2) fin
    ·refine qO (zx a2) (qD p0 (qA g ?_))
     by_cases a3:(c.toNat:Int)≥48
     ·refine qD (zD a3) (qD p0 (qA g ?_))
      by_cases a4:(c.toNat:Int)≤57
      ·exact qD (zD a4) fin
      ·refine qO (zx a4) (qD p0 (qA g ?_))
       have a5:c=36:=by
        unfold wch at hc
        simp only [Bool.or_eq_true,Bool.and_eq_true,decide_eq_true_eq,beq_iff_eq] at hc
        rcases hc with hc|hc|hc
        ·omega
        ·omega
        ·exact hc
       exact qD (by rw [a5];rfl) fin
     ·omega
   ·refine qO (zx a1) (qD p0 (qA g ?_))
    by_cases a3:(c.toNat:Int)≥48
    ·refine qD (zD a3) (qD p0 (qA g ?_))
     by_cases a4:(c.toNat:Int)≤57
     ·exact qD (zD a4) fin
     ·refine qO (zx a4) (qD p0 (qA g ?_))
      have a5:c=36:=by
       unfold wch at hc
       simp only [Bool.or_eq_true,Bool.and_eq_true,decide_eq_true_eq,beq_iff_eq] at hc
       rcases hc with hc|hc|hc
       ·omega
       ·omega
       ·exact hc
      exact qD (by rw [a5];rfl) fin
    ·refine qO (zx a3) (qD p0 (qA g ?_))
     have a5:c=36:=by
      unfold wch at hc
      simp only [Bool.or_eq_true,Bool.and_eq_true,decide_eq_true_eq,beq_iff_eq] at hc
      rcases hc with hc|hc|hc
      ·omega
      ·omega
      ·exact hc
     exact qD (by rw [a5];rfl) fin
  have no:(wch c=false)→(qBz n (at0,BR s,pos s (c::t),b,m,rows)).run=some (.inr (at0,BR s,pos s (c::t),b,m,rows)):=fun hc=>by
   have hc':¬((65≤c.toNat∧c.toNat≤90)∨(48≤c.toNat∧c.toNat≤57)∨c=36):=fun e=>by
    have:wch c=true:=by
     unfold wch
     simp only [Bool.or_eq_true,Bool.and_eq_true,decide_eq_true_eq,beq_iff_eq]
     exact e
    rw [hc] at this;cases this
   have a5:((c.toNat:Int)==36)=false:=by
    rw [beq_eq_false_iff_ne];intro e
    exact hc' (.inr (.inr (UInt8.toNat_inj.1 (show c.toNat=36 by omega))))
   refine qD (zD p1) (qD p0 (qA g ?_))
   by_cases a1:(c.toNat:Int)≥65
   ·have a2:¬(c.toNat:Int)≤90:=fun e=>hc' (.inl ⟨by omega,by omega⟩)
    refine qD (zD a1) (qD p0 (qA g (qO (zx a2) ?_)))
    refine qD p0 (qA g (qD (zD (show (c.toNat:Int)≥48 by omega)) ?_))
    exact qD p0 (qA g (qO (zx (show ¬(c.toNat:Int)≤57 by omega)) (qD p0 (qA g (qO a5 rfl)))))
   ·refine qO (zx a1) (qD p0 (qA g ?_))
    by_cases a3:(c.toNat:Int)≥48
    ·have a4:¬(c.toNat:Int)≤57:=fun e=>hc' (.inr (.inl ⟨by omega,by omega⟩))
     exact qD (zD a3) (qD p0 (qA g (qO (zx a4) (qD p0 (qA g (qO a5 rfl))))))
    ·exact qO (zx a3) (qD p0 (qA g (qO a5 rfl)))
  cases hc:wch c with
  |true=>
   rw [qT (yes hc),show wr (c::t)=wr t by simp [wr,hc]]
   exact qNa hs n at0 b m rows t M (qPF h) (by omega)
  |false=>
   rw [qP (no hc),show wr (c::t)=c::t by simp [wr,hc]]
theorem qPG {s:List UInt8} (hs:s.length≤1000) (q:PS) (h:q.1<:+s):Ev (qCz · (BR s) (pos s q.1) q.2.1 q.2.2.length (q.2.2.map qb)) (BR (wd q.1),qCq s (wr q.1,q.2)):=by
 have hl:=qDK h
 have hw:=qGn q.1
 have hd:=congrArg List.length (wdr q.1)
 simp only [List.length_append] at hd
 refine ⟨q.1.length+2,fun n hn=>?_⟩
 obtain ⟨k,rfl,hm⟩:=up1 hn
 refine qA (qNa hs k (pos s q.1) q.2.1 q.2.2.length (q.2.2.map qb) q.1 k h (by omega)) (qD (zD ⟨qKw _ _,by unfold pos;simp only;omega,by rw [qc];unfold pos;simp only;omega⟩) ?_)
 rw [qC]
 have e:(pos s (wr q.1))=pos s q.1+((wd q.1).length:Int):=by unfold pos;omega
 have x:=qOJ (k:=(wd q.1).length) h
 rw [←e] at x
 have t:q.1.take (wd q.1).length=wd q.1:=by
  have:=List.take_left (l₁:=wd q.1) (l₂:=wr q.1)
  rwa [wdr] at this
 rw [t] at x
 show some ((BR s).extract (pos s q.1).toNat (pos s (wr q.1)).toNat,_)=_
 rw [x]
 rfl
theorem qHH {s:List UInt8} (hs:s.length≤1000) {n:Nat} (b:Bool) (l:List Nd) (res:Int×PS):∀(k:Nat) (r acc:List UInt8) (M:Nat),r.length≤k→r<:+s→acc.length+r.length≤1001→r.length+1≤M→
  (∀w t,qB5 acc r=some (w,t)→qr n 1 0 2 0 (BR w) 0 0 false false 0 0 false false [] (BR s) (pos s t) b l.length (l.map qb)=some (qCS s res))→
  zF (qDx n) M (BR acc,BR s,pos s r,b,l.length,l.map qb)=some (match qB5 acc r with
   |none=> .inr (BR s,pos s [],b,l.length,l.map qb)
   |some _=> .inl (qCS s res))
 |k,r,acc,0,_,_,_,h,_=>by omega
 |k,[],acc,M+1,_,h,_,_,_=>by
  exact qP (qO (zx (show ¬pos s []<((BR s).size:Int) by rw [qc];unfold pos;simp)) rfl)
 |0,c::t,acc,M+1,hk,_,_,_,_=>by simp at hk
 |k+1,c::t,acc,M+1,hk,h,ha,hM,hr=>by
  have hl:=qDK h
  simp only [List.length_cons] at hl hM hk ha
  have g:=qMH h
  have p1:pos s (c::t)<((BR s).size:Int):=by rw [qc];unfold pos;simp only [List.length_cons];omega
  have p0:decide (0≤pos s (c::t))=true:=zD (qKw _ _)
  have pa:=qKE (k:=1) h (t:=t) rfl (by simp)
  have w1:IntKind.i64.wrap (pos s (c::t)+1)=pos s t:=by rw [qU (by unfold pos;omega)];exact pa
  by_cases hc:c=34
  ·subst hc
   have ht:=qPF h
   by_cases hq:t.head?=some 34
   ·obtain ⟨u,rfl⟩:=qKD hq
    simp only [List.length_cons] at hl hM hk ha
    rw [qUH] at hr⊢
    have g2:=qMH ht
    have pb:=qKE (k:=1) ht (t:=u) rfl (by simp)
    have w2:IntKind.i64.wrap (pos s (34::u)+1)=pos s u:=by rw [qU (by unfold pos;omega)];exact pb
    rw [qT (v':=(BR (acc++ [34]),BR s,pos s u,b,l.length,l.map qb)) (by
     refine qD (zD p1) (qD p0 (qA g (qO rfl (qO (zx (show ¬IntKind.i64.wrap (pos s (34::34::u)+1)≥((BR s).size:Int) by rw [w1,qc];unfold pos;simp only [List.length_cons];omega)) (qD (zD (show 0≤IntKind.i64.wrap (pos s (34::34::u)+1) by rw [w1];exact qKw _ _)) (qA (x:=34) (by show (BR s).toList[(IntKind.i64.wrap (pos s (34::34::u)+1)).toNat]?=_;rw [w1];exact g2) (qO rfl (qD (zD (show (BR acc).size+1≤9223372036854775807 by rw [qc];omega)) ?_))))))))
     rw [qC]
     show some (Sum.inl (BR acc++BR [34],BR s,IntKind.i64.wrap (IntKind.i64.wrap (pos s (34::34::u)+1)+1),b,l.length,l.map qb))=_
     rw [w1,w2,qNJ])]
    exact qHH hs b l res k u _ M (by omega) (qPF ht) (by simp;omega) (by omega) hr
   ·rw [qUI acc t hq] at hr⊢
    have hr:=hr acc t rfl
    refine qP (qD (zD p1) (qD p0 (qA g (qO rfl ?_))))
    cases t with
    |nil=>
     refine qD (zD (show IntKind.i64.wrap (pos s [34]+1)≥((BR s).size:Int) by rw [w1,qc];unfold pos;simp)) ?_
     rw [←w1] at hr
     exact qA hr rfl
    |cons d u=>
     have g2:=qMH ht
     have hd:¬d=34:=fun e=>hq (by rw [e];rfl)
     refine qO (zx (show ¬IntKind.i64.wrap (pos s (34::d::u)+1)≥((BR s).size:Int) by rw [w1,qc];unfold pos;simp only [List.length_cons] at hl⊢;omega)) (qD (zD (show 0≤IntKind.i64.wrap (pos s (34::d::u)+1) by rw [w1];exact qKw _ _)) (qA (x:=d) (by show (BR s).toList[(IntKind.i64.wrap (pos s (34::d::u)+1)).toNat]?=_;rw [w1];exact g2) (qD ?_ ?_)))
     ·rw [bne_iff_ne]
      intro e
      exact hd (UInt8.toNat_inj.1 (show d.toNat=34 by omega))
     ·rw [←w1] at hr
      exact qA hr rfl
  ·rw [qUJ acc t hc] at hr⊢
   have hx:=qOJ (k:=1) h
   rw [show ((1:Nat):Int)=1 from rfl] at hx pa
   have hx:(BR s).extract (pos s (c::t)).toNat (IntKind.i64.wrap (pos s (c::t)+1)).toNat=BR [c]:=by
    rw [w1,←pa];exact hx
   rw [qT (v':=(BR (acc++ [c]),BR s,pos s t,b,l.length,l.map qb)) (by
    refine qD (zD p1) (qD p0 (qA g (qD ?_ (qD (zD (show 0≤pos s (c::t)∧pos s (c::t)≤IntKind.i64.wrap (pos s (c::t)+1)∧IntKind.i64.wrap (pos s (c::t)+1)≤((BR s).size:Int) by rw [w1,qc];exact ⟨qKw _ _,by unfold pos;simp only [List.length_cons];omega,by unfold pos;omega⟩)) (qD (zD (show (BR acc).size+((BR s).extract (pos s (c::t)).toNat (IntKind.i64.wrap (pos s (c::t)+1)).toNat).size≤9223372036854775807 by rw [hx,qc,qc];simp;omega)) ?_)))))
    ·rw [bne_iff_ne]
     intro e
     exact hc (UInt8.toNat_inj.1 (show c.toNat=34 by omega))
    ·rw [qC]
     show some (Sum.inl (BR acc++(BR s).extract (pos s (c::t)).toNat (IntKind.i64.wrap (pos s (c::t)+1)).toNat,BR s,IntKind.i64.wrap (pos s (c::t)+1),b,l.length,l.map qb))=_
     rw [hx,qNJ,w1])]
   exact qHH hs b l res k t _ M (by omega) (qPF h) (by simp;omega) (by omega) hr
theorem qTL {s:List UInt8} (hs:s.length≤1000) (q:PS) (h:q.1<:+s) (hn:q.2.2.length≤5000):Ev (qE4 · (BR s) (pos s q.1) q.2.1 q.2.2.length (q.2.2.map qb)) (qCS s (match qB5 [] q.1 with
  |none=>(0,[],true,q.2.2)
  |some (w,t)=>qD8 (nd1 (2,0,BR w)) (t,q.2))):=by
 have hl:=qDK h
 cases hq:qB5 [] q.1 with
 |none=>
  refine ⟨q.1.length+2,fun n hn=>?_⟩
  obtain ⟨k,rfl,hm⟩:=up1 hn
  have lp:=qHH hs (n:=k) q.2.1 q.2.2 (0,q) q.1.length q.1 [] k (Nat.le_refl _) h (by simp;omega) (by omega) (fun w t e=>by rw [hq] at e;cases e)
  rw [hq] at lp
  exact qA lp rfl
 |some wt=>
  obtain ⟨w,t⟩:=wt
  have hw:=qGp _ _ _ (Nat.le_refl _) hq
  simp only [List.length_nil] at hw
  obtain ⟨n1,h1⟩:=qJ4 (s:=s) (nd1 (2,0,BR w)) (t,q.2) hn ⟨by simp [kd,nd1],by simp only [nd1,qc];omega⟩
  refine ⟨n1+q.1.length+2,fun n hn=>?_⟩
  obtain ⟨k,rfl,hm⟩:=up1 hn
  have lp:=qHH hs (n:=k) q.2.1 q.2.2 (qD8 (nd1 (2,0,BR w)) (t,q.2)) q.1.length q.1 [] k (Nat.le_refl _) h (by simp;omega) (by omega) (fun w' t' e=>by rw [hq] at e;cases e;exact h1 k (by omega))
  rw [hq] at lp
  exact qA lp rfl
theorem qQu:∀o∈qB8,(qAO o).toList≠ []∧(qAO o).size≤2:=by decide+kernel
theorem qTM:∀o∈qB8,1≤o∧o≤11:=by decide
def opR:List (List PV):=qB8.map qBB
def rsL (level:Int) (r:List UInt8):List Int→List UInt8
 | []=>r
 |o::l=>if lvl o=level then rsL level (tb r) l else rsL level r l
theorem qNM {s:List UInt8} (hs:s.length≤1000) {n:Nat} (level:Int) (R:List UInt8) (hR:tb R=R) (m:Nat) (rows:List (List PV))
  (h1:∀o∈qB8,qCH n o=some (lvl o)) (h2:∀o∈qB8,qCj n o=some (qAO o)):
  ∀(k i:Nat) (r:List UInt8) (M:Nat),i+k=11→k+1≤M→tb r=R→
  (∀r',tb r'=R→(r'=r∨r'=R)→∀o∈qB8,qAE n (qAO o) (BR s) (pos s r') false m rows=some (if (qAO o).toList.isPrefixOf R=true then (true,BR s,pos s (R.drop (qAO o).size),false,m,rows) else (false,BR s,pos s R,false,m,rows)))→
  zF (qEd n) M (level,11,(i:Int),opR,BR s,pos s r,false,m,rows)=some (if qDt level R (qB8.drop i)=0 then .inr (BR s,pos s (rsL level r (qB8.drop i)),false,m,rows) else .inl (qDt level R (qB8.drop i),BR s,pos s (R.drop (qAO (qDt level R (qB8.drop i))).size),false,m,rows))
 |k,i,r,0,_,h,_,_=>by omega
 |0,i,r,M+1,hk,_,_,_=>by
  have hi:i=11:=by omega
  subst hi
  exact qP (qO rfl rfl)
 |k+1,i,r,M+1,hk,hM,hr,h3=>by
  have hi:i<qB8.length:=by simp [qB8];omega
  obtain ⟨o,ho⟩:∃o,qB8[i]?=some o:=⟨_,ze hi⟩
  have hin:=zy ho
  have hR2:opR[i]?=some [PV.i .i64 o]:=by simp [opR,List.getElem?_map,ho,qBB]
  have hc:zI .i64 [PV.i .i64 o] 0=some o:=rfl
  have hd:qB8.drop i=o::qB8.drop (i+1):=qEU ho
  have w5:IntKind.i64.wrap ((i:Int)+1)=((i+1:Nat):Int):=by rw [qU (by omega)];omega
  have g1:decide ((i:Int)<((11:Nat):Int))=true:=zD (by omega)
  have g2:decide (11=opR.length∧0≤(i:Int)∧(i:Int)<((11:Nat):Int))=true:=zD ⟨rfl,by omega,by omega⟩
  have h0:o≠0:=by have:=qTM o hin;omega
  rw [hd]
  by_cases hl:lvl o=level
  ·have is:=h3 r hr (.inl rfl) o hin
   by_cases hp:(qAO o).toList.isPrefixOf R=true
   ·have e:qDt level R (o::qB8.drop (i+1))=o:=by unfold qDt;rw [if_pos ⟨hl,hp⟩]
    rw [e,if_neg h0]
    rw [if_pos hp] at is
    exact qP (qD g1 (qD g2 (qA hR2 (qA hc (qA (h1 o hin) (qD (beq_iff_eq.2 hl) (qD g2 (qA hR2 (qA hc (qA (h2 o hin) (qA is (qD rfl (qD g2 (qA hR2 (qA hc rfl)))))))))))))))
   ·have e:qDt level R (o::qB8.drop (i+1))=qDt level R (qB8.drop (i+1)):=by
     conv=>lhs;unfold qDt
     rw [if_neg (fun h=>hp h.2)]
    have e2:rsL level r (o::qB8.drop (i+1))=rsL level R (qB8.drop (i+1)):=by
     conv=>lhs;unfold rsL
     rw [if_pos hl,hr]
    rw [e,e2]
    rw [if_neg hp] at is
    rw [qT (v':=(level,11,((i+1:Nat):Int),opR,BR s,pos s R,false,m,rows)) (by
     refine qD g1 (qD g2 (qA hR2 (qA hc (qA (h1 o hin) (qD (beq_iff_eq.2 hl) (qD g2 (qA hR2 (qA hc (qA (h2 o hin) (qA is (qO rfl ?_)))))))))))
     rw [qC,w5])]
    exact qNM hs level R hR m rows h1 h2 k (i+1) R M (by omega) (by omega) hR (fun r' a b=>h3 r' a (.inr (b.elim id id)))
  ·have e:qDt level R (o::qB8.drop (i+1))=qDt level R (qB8.drop (i+1)):=by
    conv=>lhs;unfold qDt
    rw [if_neg (fun h=>hl h.1)]
   have e2:rsL level r (o::qB8.drop (i+1))=rsL level r (qB8.drop (i+1)):=by
    conv=>lhs;unfold rsL
    rw [if_neg hl]
   rw [e,e2]
   rw [qT (v':=(level,11,((i+1:Nat):Int),opR,BR s,pos s r,false,m,rows)) (by
    refine qD g1 (qD g2 (qA hR2 (qA hc (qA (h1 o hin) (qO (beq_eq_false_iff_ne.2 hl) ?_)))))
    rw [qC,w5])]
   exact qNM hs level R hR m rows h1 h2 k (i+1) r M (by omega) (by omega) hr h3
theorem qUP {level:Int} (h:1≤level∧level≤4) (r:List UInt8):rsL level r qB8=tb r:=by
 have c:level=1∨level=2∨level=3∨level=4:=by omega
 rcases c with rfl|rfl|rfl|rfl<;>simp [rsL,qB8,lvl,qCR]
theorem qUQ {s:List UInt8} (hs:s.length≤1000) {level:Int} (hl:1≤level∧level≤4) (q:PS) (hb:q.2.1=false) (h:q.1<:+s):Ev (qEe · level (BR s) (pos s q.1) q.2.1 q.2.2.length (q.2.2.map qb)) (qCS s (sOp level q)):=by
 obtain ⟨n1,h1⟩:=qAt (F:=fun o n=>qCH n o) (f:=lvl) qB8 (fun o _=>qI5 o)
 obtain ⟨n2,h2⟩:=qAt (F:=fun o n=>qCj n o) (f:=qAO) qB8 (fun o ho=>qJy o (qTM o ho))
 obtain ⟨n3,h3⟩:=qAt (F:=fun o n=>qAE n (qAO o) (BR s) (pos s q.1) q.2.1 q.2.2.length (q.2.2.map qb)) (f:=fun o=>((sIs (qAO o).toList q).1,qCq s (sIs (qAO o).toList q).2)) qB8 (fun o ho=>by
  have:=qGq hs (qAO o).toList (by rw [qu];have:=(qQu o ho).2;omega) q h
  rwa [qI7] at this)
 obtain ⟨n4,h4⟩:=qAt (F:=fun o n=>qAE n (qAO o) (BR s) (pos s (tb q.1)) q.2.1 q.2.2.length (q.2.2.map qb)) (f:=fun o=>((sIs (qAO o).toList (tb q.1,q.2)).1,qCq s (sIs (qAO o).toList (tb q.1,q.2)).2)) qB8 (fun o ho=>by
  have:=qGq hs (qAO o).toList (by rw [qu];have:=(qQu o ho).2;omega) (tb q.1,q.2) (qRx h)
  rwa [qI7] at this)
 refine ⟨n1+n2+n3+n4+13,fun n hn=>?_⟩
 obtain ⟨k,rfl,hm⟩:=up1 hn
 have lp:=qNM hs (n:=k) level (tb q.1) (qCR q.1) q.2.2.length (q.2.2.map qb) (h1 k (by omega)) (h2 k (by omega)) 11 0 q.1 k (by omega) (by omega) rfl (fun r' _ hr' o ho=>by
  rcases hr' with rfl|rfl
  ·have:=h3 k (by omega) o ho
   rw [hb] at this
   refine this.trans ?_
   unfold sIs
   rw [if_neg (by rw [hb];simp)]
   by_cases hp:(qAO o).toList.isPrefixOf (tb q.1)=true
   ·rw [if_pos hp,if_pos hp,qu];simp only [qCq,hb]
   ·rw [if_neg hp,if_neg hp];simp only [qCq,hb]
  ·have:=h4 k (by omega) o ho
   rw [hb] at this
   refine this.trans ?_
   unfold sIs
   rw [if_neg (by rw [hb];simp)]
   simp only [qCR]
   by_cases hp:(qAO o).toList.isPrefixOf (tb q.1)=true
   ·rw [if_pos hp,if_pos hp,qu];simp only [qCq,hb]
   ·rw [if_neg hp,if_neg hp];simp only [qCq,hb])
 rw [List.drop_zero,qUP hl] at lp
 unfold sOp
 rw [if_neg (by rw [hb];simp)]
 show qEe (k+1) level (BR s) (pos s q.1) q.2.1 q.2.2.length (q.2.2.map qb)=_
 rw [hb]
 by_cases h0:qDt level (tb q.1) qB8=0
 ·rw [if_pos h0] at lp
  rw [if_pos h0]
  refine qA lp ?_
  simp only [qCS,qCq,hb,h0]
  rfl
 ·rw [if_neg h0] at lp
  rw [if_neg h0]
  refine qA lp ?_
  simp only [qCS,qCq,hb]
  rfl
theorem qPH {s:List UInt8} (hs:s.length≤1000) {n:Nat} (r:List UInt8) (hr:r<:+s) (b:Bool) (l:List Nd)
  (h1:∀i,1≤i∧i≤5→qBN n i=some (qf i)) (h2:∀i,1≤i∧i≤5→qCy n i=some (4,i,em))
  (h4:∀i,1≤i∧i≤5→qr n 1 0 4 i em 0 0 false false 0 0 false false [] (BR s) (pos s (r.drop ((qf i).size-1))) b l.length (l.map qb)=some (qCS s (qD8 (nd1 (4,i,em)) (r.drop ((qf i).size-1),b,l)))):
  ∀(k:Nat) (i:Int) (M:Nat),1≤i→i+k=6→k+1≤M→zF (qCW n) M (i,BR s,pos s r,b,l.length,l.map qb)=some (match qRF r i k with
   |some e=> .inl (qCS s (qD8 (nd1 (4,e,em)) (r.drop ((qf e).size-1),b,l)))
   |none=> .inr (BR s,pos s r,b,l.length,l.map qb))
 |k,i,0,_,_,h=>by omega
 |0,i,M+1,hi,hk,h=>by
  exact qP (qO (zx (show ¬i≤5 by omega)) rfl)
 |k+1,i,M+1,hi,hk,h=>by
  have hi5:1≤i∧i≤5:=⟨hi,by omega⟩
  have hsz:1≤(qf i).size∧(qf i).size≤7:=by
   have c:i=1∨i=2∨i=3∨i=4∨i=5:=by omega
   rcases c with rfl|rfl|rfl|rfl|rfl<;>decide+kernel
  have hx:(qf i).extract ((1:Int)).toNat (((qf i).size:Nat):Int).toNat=BR (qf i).toList.tail:=by
   conv=>lhs;rw [←qI7 (qf i)]
   rw [qFr,qc,qu]
   congr 1
   rw [Int.toNat_natCast,List.take_of_length_le (by rw [qu];omega)]
   exact List.drop_one
  have hxs:((qf i).extract ((1:Int)).toNat (((qf i).size:Nat):Int).toNat).size=(qf i).size-1:=by
   rw [hx,qc,List.length_tail,qu]
  have hl:=qDK hr
  have w1:IntKind.i64.wrap (pos s r+(((qf i).extract ((1:Int)).toNat (((qf i).size:Nat):Int).toNat).size:Int))=pos s r+(((qf i).size-1:Nat):Int):=by
   rw [hxs];exact qU (by unfold pos;omega)
  have w2:IntKind.i64.wrap (i+1)=i+1:=qU (by omega)
  have ih:=qPH hs r hr b l h1 h2 h4 k (i+1) M (by omega) (by omega) (by omega)
  unfold qRF
  by_cases hf:pos s r+(((qf i).size-1:Nat):Int)≤(s.length:Int)
  ·have hk2:(qf i).size-1≤r.length:=by unfold pos at hf;omega
   have cmp:(((BR s).extract (pos s r).toNat (IntKind.i64.wrap (pos s r+(((qf i).extract ((1:Int)).toNat (((qf i).size:Nat):Int).toNat).size:Int))).toNat).toList==((qf i).extract ((1:Int)).toNat (((qf i).size:Nat):Int).toNat).toList)=true↔(qf i).toList.tail.isPrefixOf r=true:=by
    rw [w1,qOJ hr,hx,qAP,qAP,beq_iff_eq,List.isPrefixOf_iff_prefix,List.prefix_iff_eq_take,List.length_tail,qu]
    exact ⟨fun e=>e.symm,fun e=>e.symm⟩
   have g1:decide (IntKind.i64.wrap (pos s r+(((qf i).extract ((1:Int)).toNat (((qf i).size:Nat):Int).toNat).size:Int))≤((BR s).size:Int))=true:=zD (by rw [w1,qc];exact hf)
   have g2:decide (0≤pos s r∧pos s r≤IntKind.i64.wrap (pos s r+(((qf i).extract ((1:Int)).toNat (((qf i).size:Nat):Int).toNat).size:Int))∧IntKind.i64.wrap (pos s r+(((qf i).extract ((1:Int)).toNat (((qf i).size:Nat):Int).toNat).size:Int))≤((BR s).size:Int))=true:=zD (by rw [w1,qc];exact ⟨qKw _ _,by omega,hf⟩)
   by_cases hp:(qf i).toList.tail.isPrefixOf r=true
   ·rw [if_pos hp]
    have h4:=h4 i hi5
    rw [←qKE hr rfl hk2,←w1] at h4
    exact qP (qD (zD (show i≤5 by omega)) (qA (h1 i hi5) (qD (zD ⟨by decide,by omega,Int.le_refl _⟩) (qD g1 (qD g2 (qD (cmp.2 hp) (qA (h2 i hi5) (qA h4 rfl))))))))
   ·rw [if_neg hp]
    rw [qT (v':=(i+1,BR s,pos s r,b,l.length,l.map qb)) (by
     refine qD (zD (show i≤5 by omega)) (qA (h1 i hi5) (qD (zD ⟨by decide,by omega,Int.le_refl _⟩) (qD g1 (qD g2 (qO (by rw [Bool.eq_false_iff];exact fun e=>hp (cmp.1 e)) ?_)))))
     rw [qC,w2])]
    exact ih
  ·have hp:¬(qf i).toList.tail.isPrefixOf r=true:=by
    intro e
    have:=(List.isPrefixOf_iff_prefix.1 e).length_le
    rw [List.length_tail,qu] at this
    unfold pos at hf
    omega
   rw [if_neg hp]
   rw [qT (v':=(i+1,BR s,pos s r,b,l.length,l.map qb)) (by
    refine qD (zD (show i≤5 by omega)) (qA (h1 i hi5) (qD (zD ⟨by decide,by omega,Int.le_refl _⟩) (qO (zx (by rw [w1,qc];exact hf)) ?_)))
    rw [qC,w2])]
   exact ih
theorem qTy {s:List UInt8} (hs:s.length≤1000) (r:List UInt8) (hr:r<:+s) (b:Bool) (l:List Nd) (hl:l.length≤5000):∃n0,∀n,n0≤n→∀M,n0≤M→zF (qCW n) M (1,BR s,pos s r,b,l.length,l.map qb)=some (match qRF r 1 5 with
   |some e=> .inl (qCS s (qD8 (nd1 (4,e,em)) (r.drop ((qf e).size-1),b,l)))
   |none=> .inr (BR s,pos s r,b,l.length,l.map qb)):=by
 obtain ⟨n1,h1⟩:=qF2 (F:=qBN) (f:=qf) (lo:=1) (by decide) (fun i hi=>qGj i ⟨by omega,hi.2⟩)
 obtain ⟨n2,h2⟩:=qF2 (F:=qCy) (f:=fun i=>(4,i,em)) (lo:=1) (by decide) (fun i _=>qOB i)
 obtain ⟨n4,h4⟩:=qF2 (F:=fun n i=>qr n 1 0 4 i em 0 0 false false 0 0 false false [] (BR s) (pos s (r.drop ((qf i).size-1))) b l.length (l.map qb)) (f:=fun i=>qCS s (qD8 (nd1 (4,i,em)) (r.drop ((qf i).size-1),b,l))) (lo:=1) (by decide) (fun i _=>qJ4 (s:=s) (nd1 (4,i,em)) (r.drop ((qf i).size-1),b,l) hl ⟨by simp [kd,nd1],by simp [nd1,em];decide⟩)
 exact ⟨n1+n2+n4+7,fun n hn M hM=>qPH hs r hr b l (h1 n (by omega)) (h2 n (by omega)) (h4 n (by omega)) 5 1 M (by omega) (by omega) (by omega)⟩
theorem qTz:∃n0,∀n,n0≤n→∀i,1≤i∧i≤10→qCV n i=some (fnS i):=by
 obtain ⟨n1,h1⟩:=qAt (F:=fun (i:Nat) n=>qCV n ((i:Int)+1)) (f:=fun i=>fnS ((i:Int)+1)) (List.range 10) (fun i hi=>qL9 _ (by have:=List.mem_range.1 hi;omega))
 refine ⟨n1,fun n hn i hi=>?_⟩
 have:=h1 n hn (i-1).toNat (List.mem_range.2 (by omega))
 rwa [show (((i-1).toNat:Nat):Int)+1=i by omega] at this
theorem qUR {i j:Int} (hi:1≤i∧i≤10) (hj:1≤j∧j≤10) (h:(fnS i).toList=(fnS j).toList):i=j:=by
 have t:∀a:Fin 10,∀b:Fin 10,(fnS (((a.val:Nat):Int)+1)).toList=(fnS (((b.val:Nat):Int)+1)).toList→a=b:=by decide+kernel
 have:=t ⟨(i-1).toNat,by omega⟩ ⟨(j-1).toNat,by omega⟩ (by
  simp only
  rw [show (((i-1).toNat:Nat):Int)+1=i by omega,show (((j-1).toNat:Nat):Int)+1=j by omega]
  exact h)
 have:=congrArg Fin.val this
 simp only at this
 omega
theorem qQK {g:G_spec_l3Rd_row} {n:Nat} {s:List UInt8} (w:List UInt8) (q:PS) (h1:∀i,1≤i∧i≤10→qCV n i=some (fnS i)):
  ∀(k:Nat) (i:Int) (M:Nat),1≤i→i+k=11→k+1≤M→(∀j,i≤j∧j≤10→(fnS j).toList≠w)→zF (qDD g n) M (BR w,i,qCq s q)=some (.inr (BR w,qCq s q))
 |k,i,0,_,_,h,_=>by omega
 |0,i,M+1,hi,hk,h,_=>qP (qO (zx (show ¬i≤10 by omega)) rfl)
 |k+1,i,M+1,hi,hk,h,hn=>by
  have w1:IntKind.i64.wrap (i+1)=i+1:=qU (by omega)
  rw [qT (v':=(BR w,i+1,qCq s q)) (by
   refine qD (zD (show i≤10 by omega)) (qA (h1 i ⟨hi,by omega⟩) (qO (by rw [beq_eq_false_iff_ne];show (fnS i).toList≠(BR w).toList;rw [qAP];exact hn i ⟨Int.le_refl _,by omega⟩) ?_))
   rw [qC,w1])]
  exact qQK w q h1 k (i+1) M (by omega) (by omega) (by omega) (fun j hj=>hn j ⟨by omega,hj.2⟩)
theorem qKF {g:G_spec_l3Rd_row} {n:Nat} {s:List UInt8} (w:List UInt8) (q:PS) (res:Int→Int×PS) (h1:∀i,1≤i∧i≤10→qCV n i=some (fnS i))
  (h2:qAE n ⟨#[40]⟩ (BR s) (pos s q.1) q.2.1 q.2.2.length (q.2.2.map qb)=some ((sIs [40] q).1,qCq s (sIs [40] q).2)):
  ∀(k:Nat) (i:Int) (M:Nat),1≤i→i+k=11→k+1≤M→(∀op,qF4 w i k=some op→(sIs [40] q).1=true→g.spec_l3Rd_call op (BR s) (pos s (sIs [40] q).2.1) (sIs [40] q).2.2.1 (sIs [40] q).2.2.2.length ((sIs [40] q).2.2.2.map qb)=some (qCS s (res op)))→
   zF (qDD g n) M (BR w,i,qCq s q)=some (match qF4 w i k with
   |some op=>if (sIs [40] q).1=true then .inl (qCS s (res op)) else .inr (BR w,qCq s (sIs [40] q).2)
   |none=> .inr (BR w,qCq s q))
 |k,i,0,_,_,h,_=>by omega
 |0,i,M+1,hi,hk,h,_=>qP (qO (zx (show ¬i≤10 by omega)) rfl)
 |k+1,i,M+1,hi,hk,h,hc=>by
  have w1:IntKind.i64.wrap (i+1)=i+1:=qU (by omega)
  unfold qF4 at hc⊢
  by_cases hq:(fnS i).toList=w
  ·rw [if_pos hq] at hc⊢
   have hqb:((fnS i).toList==(BR w).toList)=true:=by rw [beq_iff_eq,qAP];exact hq
   simp only
   cases hi2:(sIs [40] q).1 with
   |true=>
    rw [if_pos rfl]
    exact qP (qD (zD (show i≤10 by omega)) (qA (h1 i ⟨hi,by omega⟩) (qD hqb (qA h2 (qD hi2 (qA (hc i rfl hi2) rfl))))))
   |false=>
    rw [if_neg (by simp)]
    rw [qT (v':=(BR w,i+1,qCq s (sIs [40] q).2)) (by
     refine qD (zD (show i≤10 by omega)) (qA (h1 i ⟨hi,by omega⟩) (qD hqb (qA h2 (qO hi2 ?_))))
     rw [qC,w1])]
    exact qQK w _ h1 k (i+1) M (by omega) (by omega) (by omega) (fun j hj e=>by
     have:=qUR (i:=i) (j:=j) ⟨hi,by omega⟩ ⟨by omega,hj.2⟩ (hq.trans e.symm)
     omega)
  ·rw [if_neg hq] at hc⊢
   rw [qT (v':=(BR w,i+1,qCq s q)) (by
    refine qD (zD (show i≤10 by omega)) (qA (h1 i ⟨hi,by omega⟩) (qO (by rw [beq_eq_false_iff_ne];show (fnS i).toList≠(BR w).toList;rw [qAP];exact hq) ?_))
    rw [qC,w1])]
   exact qKF w q res h1 h2 k (i+1) M (by omega) (by omega) (by omega) hc
structure Go (k:Nat) (q q':PS):Prop where
 suf:q'.1<:+q.1
 sum:q'.2.2.length+q'.1.length+k≤q.2.2.length+q.1.length
 sm:(∀x∈q.2.2,qPx x)→∀x∈q'.2.2,qPx x
theorem Go.refl (q:PS):Go 0 q q:=⟨List.suffix_rfl,Nat.le_refl _,id⟩
theorem Go.trans {a b:Nat} {p q r:PS} (h:Go a p q) (h':Go b q r):Go (a+b) p r:=⟨h'.suf.trans h.suf,by have:=h.sum;have:=h'.sum;omega,fun e=>h'.sm (h.sm e)⟩
theorem Go.tr0 {p q r:PS} (h:Go 0 p q) (h':Go 0 q r):Go 0 p r:=h.trans h'
theorem Go.add {p q:PS} {x:Nd} (h:Go 1 p q) (hx:qPx x):Go 0 p (qD8 x q).2:=by
 refine ⟨h.suf,?_,fun e y hy=>?_⟩
 ·have:=h.sum
  simp only [qD8,List.length_append,List.length_singleton]
  omega
 ·simp only [qD8,List.mem_append,List.mem_singleton] at hy
  rcases hy with hy|rfl
  ·exact h.sm e y hy
  ·exact hx
theorem Go.weak {k:Nat} {p q:PS} (h:Go k p q):Go 0 p q:=⟨h.suf,by have:=h.sum;omega,h.sm⟩
theorem Go.of (q:PS) {r:List UInt8} (b:Bool) {k:Nat} (h:r<:+q.1) (hk:r.length+k≤q.1.length):Go k q (r,b,q.2.2):=⟨h,by simp only;omega,id⟩
theorem qMI (q:PS):Go 0 q (tb q.1,q.2):=⟨List.dropWhile_suffix _,by have:=q8 q.1;simp only;omega,id⟩
theorem qQL (q:PS):Go 0 q (wr (tb q.1),q.2):=⟨(List.dropWhile_suffix _).trans (List.dropWhile_suffix _),by have:=q8 q.1;have:=qGn (tb q.1);simp only;omega,id⟩
theorem qTN (q:PS) (h:wd (tb q.1)≠ []):Go 1 q (wr (tb q.1),q.2):=⟨(List.dropWhile_suffix _).trans (List.dropWhile_suffix _),by
 have:=q8 q.1
 have e:=congrArg List.length (wdr (tb q.1))
 have:=List.length_pos_iff.2 h
 simp only [List.length_append] at e
 simp only;omega,id⟩
theorem qKx {w:List UInt8} {q:PS} (h:(sIs w q).1=true):w<+:tb q.1∧(sIs w q).2=((tb q.1).drop w.length,q.2)∧q.2.1=false:=by
 unfold sIs at h⊢
 split at h
 ·cases h
 ·rename_i hb
  rw [if_neg hb]
  split at h
  ·rename_i hp
   rw [if_pos hp]
   exact ⟨List.isPrefixOf_iff_prefix.1 hp,rfl,by rw [Bool.eq_false_iff];exact hb⟩
  ·cases h
theorem qQM {w:List UInt8} {q:PS} (h:(sIs w q).1=false):(sIs w q).2=(tb q.1,q.2):=by
 unfold sIs at h⊢
 split at h
 ·rename_i hb;rw [if_pos hb]
 ·rename_i hb
  rw [if_neg hb]
  split at h
  ·cases h
  ·rename_i hp;rw [if_neg hp]
theorem qJ5 (w:List UInt8) (q:PS):Go 0 q (sIs w q).2:=by
 cases h:(sIs w q).1 with
 |true=>
  obtain ⟨_,h2,_⟩:=qKx h
  rw [h2]
  exact Go.tr0 (qMI q) ⟨List.drop_suffix _ _,by simp,id⟩
 |false=>rw [qQM h];exact qMI q
theorem qEy {w:List UInt8} (hw:w≠ []) {q:PS} (h:(sIs w q).1=true):Go 1 q (sIs w q).2:=by
 obtain ⟨h1,h2,_⟩:=qKx h
 rw [h2]
 have l1:=h1.length_le
 have l2:=List.length_pos_iff.2 hw
 have:=q8 q.1
 exact ⟨(List.drop_suffix _ _).trans (List.dropWhile_suffix _),by simp;omega,id⟩
theorem qPI {k:Nat} {p q:PS} (h:Go k p q):Go k p (qLW q):=⟨h.suf,h.sum,h.sm⟩
theorem qTO:∀(t r:List UInt8),(tb r).length≤(tb (t++r)).length
 | [],r=>Nat.le_refl _
 |c::t,r=>by
  have ih:=qTO t r
  have:=q8 (t++r)
  by_cases hc:c=32
  ·rw [show tb (c::t++r)=tb (t++r) by simp [tb,hc]];exact ih
  ·rw [show tb (c::t++r)=c::(t++r) by simp [tb,hc]]
   simp only [List.length_cons];omega
theorem Go.tb {k:Nat} {p q:PS} (h:Go k p q):(tb q.1).length≤(tb p.1).length:=by
 obtain ⟨t,ht⟩:=h.suf
 rw [←ht];exact qTO t q.1
theorem qSV {w:List UInt8} (hw:w≠ []) {q:PS} (h:(sIs w q).1=true):(tb (sIs w q).2.1).length<(tb q.1).length:=by
 obtain ⟨h1,h2,_⟩:=qKx h
 rw [h2]
 exact qQs hw h1
theorem qSW (level:Int) (r:List UInt8):∀l:List Int,qDt level r l≠0→qDt level r l∈l∧(qAO (qDt level r l)).toList<+:r
 | [],h=>absurd rfl h
 |o::l,h=>by
  unfold qDt at h⊢
  split at h
  ·rename_i hc
   rw [if_pos hc]
   exact ⟨List.mem_cons_self ..,List.isPrefixOf_iff_prefix.1 hc.2⟩
  ·rename_i hc
   rw [if_neg hc]
   have:=qSW level r l h
   exact ⟨List.mem_cons_of_mem _ this.1,this.2⟩
theorem qT8 (level:Int) (q:PS):Go 0 q (sOp level q).2∧((sOp level q).1≠0→Go 1 q (sOp level q).2∧(tb (sOp level q).2.1).length<(tb q.1).length):=by
 unfold sOp
 split
 ·exact ⟨qMI q,fun h=>absurd rfl h⟩
 ·simp only
  by_cases h:qDt level (tb q.1) qB8=0
  ·rw [if_pos h]
   exact ⟨qMI q,fun e=>absurd h e⟩
  ·rw [if_neg h]
   obtain ⟨h1,h2⟩:=qSW level (tb q.1) qB8 h
   have ne:=(qQu _ h1).1
   have l1:=h2.length_le
   have l2:=List.length_pos_iff.2 ne
   rw [qu] at l1 l2
   have l3:=q8 q.1
   have g:Go 1 q ((tb q.1).drop (qAO (qDt level (tb q.1) qB8)).size,q.2):=⟨(List.drop_suffix _ _).trans (List.dropWhile_suffix _),by simp;omega,id⟩
   have t:=qQs ne h2
   rw [qu] at t
   exact ⟨g.weak,fun _=>⟨g,t⟩⟩
theorem qNN:∀(k:Nat) (acc r:List UInt8) {w t:List UInt8},r.length≤k→qB5 acc r=some (w,t)→t<:+r
 |k,acc,[],w,t,hk,h=>by simp [qB5] at h
 |0,acc,c::r,w,t,hk,h=>by simp at hk
 |k+1,acc,c::r,w,t,hk,h=>by
  simp only [List.length_cons] at hk
  by_cases hc:c=34
  ·subst hc
   by_cases hq:r.head?=some 34
   ·obtain ⟨u,rfl⟩:=qKD hq
    rw [qUH] at h
    simp only [List.length_cons] at hk
    have:=qNN k _ u (by omega) h
    exact this.trans ((List.suffix_cons 34 u).trans (List.suffix_cons 34 _))
   ·rw [qUI acc r hq] at h
    cases h
    exact List.suffix_cons 34 _
  ·rw [qUJ acc r hc] at h
   exact (qNN k _ r (by omega) h).trans (List.suffix_cons c _)
def Ks:SJ→PS→Prop
 | .call _ kids,q=>q.2.1=true∨kids.length+q.1.length≤1500
 |_,_=>True
theorem qIe {k op:Int} {kids:List Int} (h:kids.length≤2000):qPx (ndK k op kids):=⟨h,by simp [ndK,em];decide⟩
theorem qBu {k:Nat} {p q:PS} (h:Go k p q):q.1.length≤p.1.length:=h.suf.length_le
theorem qE2 (H:RdOK):∀(f:Nat) (j:SJ) (q:PS),q.1.length≤1000→Ks j q→Go 0 q (sP f j q).2
 |0,j,q,_,_=>Go.refl q
 |f+1,.row level,q,hr,_=>by
  unfold sP
  split
  ·exact Go.refl q
  ·split
   ·exact qE2 H f .one q hr trivial
   ·have a:=qE2 H f (.row (level+1)) q hr trivial
    exact a.tr0 (qE2 H f (.rl level _) _ (Nat.le_trans (qBu a) hr) trivial)
 |f+1,.rl level a,q,hr,_=>by
  unfold sP
  split
  ·exact Go.refl q
  ·simp only
   have o:=qT8 level q
   split
   ·exact o.1
   ·rename_i h0
    have o1:=(o.2 h0).1
    have b:=qE2 H f (.row (level+1)) (sOp level q).2 (Nat.le_trans (qBu o1) hr) trivial
    have c:=Go.add (x:=ndK 5 (sOp level q).1 [a,(sP f (.row (level+1)) (sOp level q).2).1]) (o1.trans b) (qIe (by simp))
    exact c.tr0 (qE2 H f (.rl level _) _ (Nat.le_trans (qBu c) hr) trivial)
 |f+1,.one,q,hr,_=>by
  unfold sP
  split
  ·rename_i h
   have a:=qEy (by simp) h
   have b:=qE2 H f (.row 5) (sIs [45] q).2 (Nat.le_trans (qBu a) hr) trivial
   exact Go.add (a.trans b) (qIe (by simp))
  ·have a:=qJ5 [45] q
   split
   ·rename_i h
    have c:=a.tr0 (qEy (by simp) h).weak
    have b:=qE2 H f (.row 1) (sIs [40] (sIs [45] q).2).2 (Nat.le_trans (qBu c) hr) trivial
    have d:=(c.tr0 b).tr0 (qJ5 [41] _)
    simp only
    split
    ·exact d
    ·exact qPI d
   ·simp only
    have t:=qMI q
    split
    ·rename_i h
     have c:=qEy (by simp) h
     obtain ⟨_,e,_⟩:=qKx h
     split
     ·exact ⟨List.nil_suffix,by simp,id⟩
     ·rename_i w u hq
      have d:=qNN _ _ _ (Nat.le_refl _) hq
      have d2:=d.length_le
      have dz:=qGp _ _ _ (Nat.le_refl _) hq
      have g:=t.trans c
      have l:=qBu g
      have sg:=g.sum
      have eq:(sIs [34] (tb q.1,q.2)).2.2=q.2:=by rw [e]
      rw [eq] at sg
      simp only [List.length_nil] at dz
      exact Go.add (q:=(u,q.2)) ⟨d.trans g.suf,by simp only;omega,id⟩ ⟨by simp [kd,nd1],by simp only [nd1,qc];omega⟩
    ·split
     ·rename_i h
      have c:=qEy (by simp) h
      obtain ⟨_,e,_⟩:=qKx h
      have g:=t.trans c
      have l:=qBu g
      have sg:=g.sum
      have eq:(sIs [35] (tb q.1,q.2)).2.2=q.2:=by rw [e]
      rw [eq] at sg
      split
      ·exact Go.add (q:=(_,q.2)) ⟨(List.drop_suffix _ _).trans g.suf,by simp;omega,id⟩ ⟨by simp [kd,nd1],by simp [nd1,em];decide⟩
      ·exact ⟨g.suf,by simp only;omega,id⟩
     ·have w:=qQL q
      split
      ·split
       ·have c:=w.tr0 (qJ5 [40] _)
        exact c.tr0 (qE2 H f (.call _ []) _ (Nat.le_trans (qBu c) hr) (.inr (by have:=qBu c;simp only [List.length_nil];omega)))
       ·exact qPI (w.tr0 (qJ5 [40] _))
      ·split
       ·rename_i hv
        exact Go.add (qTN q hv.2) ⟨by simp [kd,nd1],qJ3 hv.1 (H.v _ (qRt _) hv.2 hv.1)⟩
       ·split
        ·rename_i hp
         exact Go.add (qTN q (fun e=>by rw [e,H.p0] at hp;cases hp)) ⟨by simp [kd,ndC],by simp [ndC,em];decide⟩
        ·exact qPI w
 |f+1,.call op kids,q,hr,hk=>by
  unfold sP
  split
  ·exact Go.refl q
  ·rename_i hb
   have hk:kids.length+q.1.length≤1500:=hk.elim (fun h=>absurd h hb) id
   have a:=qE2 H f .arg q hr trivial
   simp only
   split
   ·rename_i h
    exact Go.add (a.trans (qEy (by simp) h)) (qIe (by simp;omega))
   ·have c:=a.tr0 (qJ5 [41] _)
    split
    ·rename_i h
     have d:=c.trans (qEy (by simp) h)
     obtain ⟨e1,e2,_⟩:=qKx h
     have l:=e1.length_le
     have l2:=qBu c
     have l3:=q8 (sIs [41] (sP f .arg q).2).2.1
     simp only [List.length_cons,List.length_nil] at l
     exact d.weak.tr0 (qE2 H f (.call op _) _ (Nat.le_trans (qBu d) hr) (.inr (by rw [e2];simp;omega)))
    ·have d:=qPI (c.tr0 (qJ5 [44] _))
     exact d.tr0 (qE2 H f (.call op _) _ (Nat.le_trans (qBu d) hr) (.inl rfl))
 |f+1,.arg,q,hr,_=>by
  unfold sP
  simp only
  have w:=qQL q
  split
  ·rename_i h
   have c:=w.trans (qEy (by simp) h.2)
   have d:=c.trans (qQL _)
   split
   ·exact Go.add d ⟨by simp [kd,ndA],by simp [ndA,em];decide⟩
   ·exact ⟨d.suf,by have:=d.sum;simp only at this⊢;omega,d.sm⟩
  ·have t:=qMI q
   exact t.tr0 (qE2 H f (.row 1) _ (Nat.le_trans (qBu t) hr) trivial)
def As (f:Nat):SJ→PS→Prop
 | .row level,q=>((20*(tb q.1).length+10:Nat):Int)-level≤f∧1≤level∧level≤5
 | .rl level _,q=>20*(tb q.1).length+5≤f∧1≤level∧level≤4
 | .one,q=>20*(tb q.1).length+4≤f∧q.2.1=false
 | .call _ _,q=>(q.2.1=true∧1≤f)∨20*(tb q.1).length+12≤f
 | .arg,q=>20*(tb q.1).length+10≤f
def Iv (s:List UInt8) (q:PS):Prop:=q.1<:+s∧q.2.2.length+q.1.length≤2000
theorem Iv.go {s:List UInt8} {k:Nat} {q q':PS} (h:Iv s q) (g:Go k q q'):Iv s q':=⟨g.suf.trans h.1,by have:=g.sum;have:=h.2;omega⟩
def Ws (s:List UInt8):SJ→PS→Int×PS→Prop
 | .row level,q,r=>Ev (qEC · level (BR s) (pos s q.1) q.2.1 q.2.2.length (q.2.2.map qb)) (qCS s r)
 | .rl level a,q,r=>∃x,(x= .inl (qCS s r)∨x= .inr (qCS s r))∧∃n0,∀n,n0≤n→∀M,n0≤M→zF (qEI (qd n) n) M (level,a,qCq s q)=some x
 | .one,q,r=>Ev (qIp · (BR s) (pos s q.1) q.2.1 q.2.2.length (q.2.2.map qb)) (qCS s r)
 | .call op kids,q,r=>∃x,(x= .inl (qCS s r)∨(x= .inr (qCq s r.2)∧r.1=0))∧∃n0,∀n,n0≤n→∀M,n0≤M→zF (qDy (qd n) n) M (op,kids.length,kids.map qBB,qCq s q)=some x
 | .arg,q,r=>Ev (qIq · (BR s) (pos s q.1) q.2.1 q.2.2.length (q.2.2.map qb)) (qCS s r)
theorem srp (r:List UInt8) (h:r.length≤1000):Ev (qAQ · (BR (wd r))) (qAN (BR (wd r))):=qHC _ (by rw [qc];have:=qQr r;omega)
theorem srv (r:List UInt8) (h:r.length≤1000):Ev (qAH · (BR (wd r))) (qi (BR (wd r))):=qHB _ (by rw [qc];have:=qQr r;omega)
theorem qUu {r:List UInt8} (h:wd r≠ []):(tb (wr r)).length<r.length:=by
 have e:=congrArg List.length (wdr r)
 have:=List.length_pos_iff.2 h
 have:=q8 (wr r)
 simp only [List.length_append] at e
 omega
def qQv (n:Nat) (w:BA) (c:BA×Int×Bool×Nat×List (List PV)):Tr (Int×BA×Int×Bool×Nat×List (List PV)):=
 (.opt (qAQ n w) fun r=>(.ask (!r.2.2.2.2) (.done (0,c.1,c.2.1,true,c.2.2.2.1,c.2.2.2.2))
  (.opt (qr n 2 0 0 0 ⟨#[]⟩ r.1 r.2.1 r.2.2.1 r.2.2.2.1 0 0 false false [] c.1 c.2.1 c.2.2.1 c.2.2.2.1 c.2.2.2.2) fun t=> .done (t.1,t.2.1,t.2.2.1,t.2.2.2.1,t.2.2.2.2.1,t.2.2.2.2.2))))
def qUS (n:Nat) (w:BA) (c:BA×Int×Bool×Nat×List (List PV)):Tr (Int×BA×Int×Bool×Nat×List (List PV)):=
 (.opt (qAH n w) fun r=>(.ask r.2.2.2
  (.ask (!(w.toList==(⟨#[]⟩:BA).toList))
   (.opt (qr n 1 0 r.1 r.2.1 r.2.2.1 0 0 false false 0 0 false false [] c.1 c.2.1 c.2.2.1 c.2.2.2.1 c.2.2.2.2) fun t=> .done (t.1,t.2.1,t.2.2.1,t.2.2.2.1,t.2.2.2.2.1,t.2.2.2.2.2))
   (qQv n w c))
  (qQv n w c)))
def qPJ (w:List UInt8) (q3:PS):Int×PS:=
 if (qi (BR w)).2.2.2=true∧w≠ [] then qD8 (nd1 ((qi (BR w)).1,(qi (BR w)).2.1,(qi (BR w)).2.2.1)) q3
 else if (qAN (BR w)).2.2.2.2=true then qD8 (ndC (qAN (BR w))) q3
 else (0,qLW q3)
theorem qQN (H:RdOK) {s:List UInt8} (r:List UInt8) (q:PS) (hr:r.length≤1000) (hn:q.2.2.length≤5000):∃n0,∀n,n0≤n→(qUS n (BR (wd r)) (qCq s q)).run=some (qCS s (qPJ (wd r) q)):=by
 obtain ⟨n1,h1⟩:=srv r hr
 obtain ⟨n2,h2⟩:=srp r hr
 obtain ⟨n4,h4⟩:=qJ4 (s:=s) (ndC (qAN (BR (wd r)))) q hn ⟨by simp [kd,ndC],by simp [ndC,em];decide⟩
 have place:∃n0,∀n,n0≤n→(qQv n (BR (wd r)) (qCq s q)).run=some (qCS s (if (qAN (BR (wd r))).2.2.2.2=true then qD8 (ndC (qAN (BR (wd r)))) q else (0,qLW q))):=by
  refine ⟨n2+n4,fun n hn=>?_⟩
  cases hp:(qAN (BR (wd r))).2.2.2.2 with
  |true=>rw [if_pos rfl];exact qA (h2 n (by omega)) (qO (qDA hp) (qA (h4 n (by omega)) rfl))
  |false=>rw [if_neg (by simp)];exact qA (h2 n (by omega)) (qD (qDv hp) rfl)
 obtain ⟨n5,h5⟩:=place
 by_cases hv:(qi (BR (wd r))).2.2.2=true∧wd r≠ []
 ·obtain ⟨n3,h3⟩:=qJ4 (s:=s) (nd1 ((qi (BR (wd r))).1,(qi (BR (wd r))).2.1,(qi (BR (wd r))).2.2.1)) q hn ⟨by simp [kd,nd1],qJ3 hv.1 (H.v _ (qRt _) hv.2 hv.1)⟩
  refine ⟨n1+n3,fun n hn=>?_⟩
  unfold qPJ
  rw [if_pos hv]
  exact qA (h1 n (by omega)) (qD hv.1 (qD (qDv (by rw [beq_eq_false_iff_ne,qAP,qp];exact hv.2)) (qA (h3 n (by omega)) rfl)))
 ·refine ⟨n1+n5,fun n hn=>?_⟩
  unfold qPJ
  rw [if_neg hv]
  refine qA (h1 n (by omega)) ?_
  by_cases ho:(qi (BR (wd r))).2.2.2=true
  ·have e:wd r= []:=Classical.byContradiction fun e=>hv ⟨ho,e⟩
   exact qD ho (qO (qDA (by rw [beq_iff_eq,qAP,qp];exact e)) (h5 n (by omega)))
  ·exact qO (by rw [Bool.eq_false_iff];exact ho) (h5 n (by omega))
theorem qFM (H:RdOK) {s:List UInt8} (hs:s.length≤1000):∀(f:Nat) (j:SJ) (q:PS),As f j q→Iv s q→Ks j q→Ws s j q (sP f j q)
 |0,j,q,ha,_,_=>by cases j<;>simp [As] at ha<;>omega
 |f+1,.row level,q,ha,hi,_=>by
  obtain ⟨ha,hl1,hl5⟩:=ha
  have hr:q.1.length≤1000:=Nat.le_trans (qDK hi.1) hs
  unfold sP
  by_cases hb:q.2.1=true
  ·rw [if_pos hb]
   refine ⟨1,fun n hn=>?_⟩
   obtain ⟨k,rfl,hm⟩:=up1 hn
   exact qD hb rfl
  ·have hb:q.2.1=false:=by rw [Bool.eq_false_iff];exact hb
   rw [if_neg (by rw [hb];simp)]
   by_cases h5:level=5
   ·rw [if_pos h5]
    obtain ⟨n1,h1⟩:=qFM H hs f .one q ⟨by omega,hb⟩ hi trivial
    refine ⟨n1+1,fun n hn=>?_⟩
    obtain ⟨k,rfl,hm⟩:=up1 hn
    exact qO hb (qD (beq_iff_eq.2 h5) (qA (h1 k (by omega)) rfl))
   ·rw [if_neg h5]
    have g:=qE2 H f (.row (level+1)) q hr trivial
    have gl:=g.tb
    obtain ⟨n1,h1⟩:=qFM H hs f (.row (level+1)) q ⟨by omega,by omega,by omega⟩ hi trivial
    generalize sP f (.row (level+1)) q=Q at g gl h1⊢
    obtain ⟨x,hx,n2,h2⟩:=qFM H hs f (.rl level Q.1) Q.2 ⟨by omega,by omega,by omega⟩ (hi.go g) trivial
    refine ⟨n1+n2+1,fun n hn=>?_⟩
    obtain ⟨k,rfl,hm⟩:=up1 hn
    have w1:IntKind.i64.wrap (level+1)=level+1:=qU (by omega)
    have h1:=h1 k (by omega)
    rw [←w1] at h1
    have h2:=h2 k (by omega) k (by omega)
    rcases hx with rfl|rfl
    ·exact qO hb (qO (beq_eq_false_iff_ne.2 h5) (qA h1 (qA h2 rfl)))
    ·exact qO hb (qO (beq_eq_false_iff_ne.2 h5) (qA h1 (qA h2 rfl)))
 |f+1,.rl level a,q,ha,hi,_=>by
  obtain ⟨ha,hl1,hl4⟩:=ha
  have hr:q.1.length≤1000:=Nat.le_trans (qDK hi.1) hs
  unfold sP
  by_cases hb:q.2.1=true
  ·rw [if_pos hb]
   refine ⟨.inr (qCS s (a,q)),.inr rfl,1,fun n hn M hM=>?_⟩
   obtain ⟨M,rfl,hM⟩:=up1 hM
   exact qP (qO (qDA hb) rfl)
  ·have hb:q.2.1=false:=by rw [Bool.eq_false_iff];exact hb
   rw [if_neg (by rw [hb];simp)]
   simp only
   obtain ⟨n1,h1⟩:=qUQ hs (level:=level) ⟨hl1,hl4⟩ q hb hi.1
   have o:=qT8 level q
   generalize sOp level q=O at h1 o⊢
   by_cases h0:O.1=0
   ·rw [if_pos h0]
    refine ⟨.inl (qCS s (a,O.2)),.inl rfl,n1+1,fun n hn M hM=>?_⟩
    obtain ⟨M,rfl,hM⟩:=up1 hM
    exact qP (qD (qDv hb) (qA (h1 n (by omega)) (qD (beq_iff_eq.2 h0) rfl)))
   ·rw [if_neg h0]
    obtain ⟨o1,o2⟩:=o.2 h0
    have b:=qE2 H f (.row (level+1)) O.2 (Nat.le_trans (qBu o1) hr) trivial
    obtain ⟨n2,h2⟩:=qFM H hs f (.row (level+1)) O.2 ⟨by omega,by omega,by omega⟩ (hi.go o1) trivial
    have ib:=(hi.go o1).go b
    have tbb:=b.tb
    have c:=Go.add (x:=ndK 5 O.1 [a,(sP f (.row (level+1)) O.2).1]) (o1.trans b) (qIe (by simp))
    generalize sP f (.row (level+1)) O.2=Q at h2 b ib tbb c⊢
    obtain ⟨n3,h3⟩:=qJ4 (s:=s) (ndK 5 O.1 [a,Q.1]) Q.2 (by have:=ib.2;omega) (qIe (by simp))
    have rest:(qD8 (ndK 5 O.1 [a,Q.1]) Q.2).2.1=Q.2.1:=rfl
    generalize qD8 (ndK 5 O.1 [a,Q.1]) Q.2=C at h3 c rest⊢
    obtain ⟨x,hx,n4,h4⟩:=qFM H hs f (.rl level C.1) C.2 ⟨by rw [rest];omega,hl1,hl4⟩ (hi.go c) trivial
    refine ⟨x,hx,n1+n2+n3+n4+1,fun n hn M hM=>?_⟩
    obtain ⟨M,rfl,hM⟩:=up1 hM
    have w1:IntKind.i64.wrap (level+1)=level+1:=qU (by omega)
    have h2:=h2 n (by omega)
    rw [←w1] at h2
    rw [qT (v':=(level,C.1,qCq s C.2)) (by
     exact qD (qDv hb) (qA (h1 n (by omega)) (qO (beq_eq_false_iff_ne.2 h0) (qA h2 (qD rfl (qA (h3 n (by omega)) rfl))))))]
    exact h4 n (by omega) M (by omega)
 |f+1,.one,q,ha,hi,_=>by
  obtain ⟨ha,hb⟩:=ha
  have hr:q.1.length≤1000:=Nat.le_trans (qDK hi.1) hs
  unfold sP
  obtain ⟨n1,h1⟩:=qGq hs [45] (by simp) q hi.1
  cases c1:(sIs [45] q).1 with
  |true=>
   rw [if_pos rfl]
   have a:=qEy (by simp) c1
   have al:=qSV (by simp) c1
   have b:=qE2 H f (.row 5) (sIs [45] q).2 (Nat.le_trans (qBu a) hr) trivial
   obtain ⟨n2,h2⟩:=qFM H hs f (.row 5) (sIs [45] q).2 ⟨by omega,by omega,by omega⟩ (hi.go a) trivial
   have ib:=(hi.go a).go b
   simp only
   generalize sP f (.row 5) (sIs [45] q).2=Q at h2 ib⊢
   obtain ⟨n3,h3⟩:=qJ4 (s:=s) (ndK 4 0 [Q.1]) Q.2 (by have:=ib.2;omega) (qIe (by simp))
   refine ⟨n1+n2+n3+1,fun n hn=>?_⟩
   obtain ⟨k,rfl,hm⟩:=up1 hn
   exact qA (h1 k (by omega)) (qD c1 (qA (h2 k (by omega)) (qD rfl (qA (h3 k (by omega)) rfl))))
  |false=>
   rw [if_neg (by simp)]
   have a:=qJ5 [45] q
   obtain ⟨n2,h2⟩:=qGq hs [40] (by simp) (sIs [45] q).2 (hi.go a).1
   cases c2:(sIs [40] (sIs [45] q).2).1 with
   |true=>
    rw [if_pos rfl]
    have b:=qEy (by simp) c2
    have al:=qSV (by simp) c2
    have atb:=a.tb
    have g1:=a.trans b
    have b2:=qE2 H f (.row 1) (sIs [40] (sIs [45] q).2).2 (Nat.le_trans (qBu g1) hr) trivial
    obtain ⟨n3,h3⟩:=qFM H hs f (.row 1) (sIs [40] (sIs [45] q).2).2 ⟨by omega,by omega,by omega⟩ (hi.go g1) trivial
    have ib:=(hi.go g1).go b2
    simp only
    generalize sP f (.row 1) (sIs [40] (sIs [45] q).2).2=Q at h3 ib⊢
    obtain ⟨n4,h4⟩:=qGq hs [41] (by simp) Q.2 ib.1
    refine ⟨n1+n2+n3+n4+1,fun n hn=>?_⟩
    obtain ⟨k,rfl,hm⟩:=up1 hn
    refine qA (h1 k (by omega)) (qO c1 (qA (h2 k (by omega)) (qD c2 (qA (h3 k (by omega)) (qA (h4 k (by omega)) ?_)))))
    cases c3:(sIs [41] Q.2).1 with
    |true=>rw [if_pos rfl];exact qO rfl rfl
    |false=>rw [if_neg (by simp)];exact qD rfl rfl
   |false=>
    rw [if_neg (by simp)]
    have e2:(sIs [40] (sIs [45] q).2).2=(tb q.1,q.2):=by
     rw [qQM c2,qQM c1];simp only [qCR]
    rw [e2] at h2
    have t:=qMI q
    have it:=hi.go t
    obtain ⟨n3,h3⟩:=qGq hs [34] (by simp) (tb q.1,q.2) it.1
    simp only
    cases c3:(sIs [34] (tb q.1,q.2)).1 with
    |true=>
     rw [if_pos rfl]
     have b:=qEy (by simp) c3
     have ib:=it.go b
     have eq2:(sIs [34] (tb q.1,q.2)).2.2=q.2:=by obtain ⟨_,e,_⟩:=qKx c3;rw [e]
     obtain ⟨n4,h4⟩:=qTL hs (sIs [34] (tb q.1,q.2)).2 ib.1 (by have:=ib.2;omega)
     refine ⟨n1+n2+n3+n4+1,fun n hn=>?_⟩
     obtain ⟨k,rfl,hm⟩:=up1 hn
     refine qA (h1 k (by omega)) (qO c1 (qA (h2 k (by omega)) (qO c2 (qA (h3 k (by omega)) (qD c3 (qA (h4 k (by omega)) ?_))))))
     rw [qC,eq2]
     all_goals (cases qB5 [] (sIs [34] (tb q.1,q.2)).2.1<;>rfl)
    |false=>
     rw [if_neg (by simp)]
     have e3:(sIs [34] (tb q.1,q.2)).2=(tb q.1,q.2):=by rw [qQM c3];simp only [qCR]
     rw [e3] at h3
     obtain ⟨n4,h4⟩:=qGq hs [35] (by simp) (tb q.1,q.2) it.1
     cases c4:(sIs [35] (tb q.1,q.2)).1 with
     |true=>
      rw [if_pos rfl]
      have b:=qEy (by simp) c4
      have ib:=it.go b
      have eq2:(sIs [35] (tb q.1,q.2)).2.2=q.2:=by obtain ⟨_,e,_⟩:=qKx c4;rw [e]
      obtain ⟨n5,h5⟩:=qTy hs (sIs [35] (tb q.1,q.2)).2.1 ib.1 q.2.1 q.2.2 (by have:=hi.2;omega)
      have h4:=fun k hk=>h4 k hk
      refine ⟨n1+n2+n3+n4+n5+1,fun n hn=>?_⟩
      obtain ⟨k,rfl,hm⟩:=up1 hn
      have h4:=h4 k (by omega)
      have h5:=h5 k (by omega) k (by omega)
      have e4:qCq s (sIs [35] (tb q.1,q.2)).2=(BR s,pos s (sIs [35] (tb q.1,q.2)).2.1,q.2.1,q.2.2.length,q.2.2.map qb):=by unfold qCq;rw [eq2]
      rw [e4] at h4
      refine qA (h1 k (by omega)) (qO c1 (qA (h2 k (by omega)) (qO c2 (qA (h3 k (by omega)) (qO c3 (qA h4 (qD c4 (qA h5 ?_))))))))
      cases qRF (sIs [35] (tb q.1,q.2)).2.1 1 5<;>rfl
     |false=>
      rw [if_neg (by simp)]
      have e4:(sIs [35] (tb q.1,q.2)).2=(tb q.1,q.2):=by rw [qQM c4];simp only [qCR]
      rw [e4] at h4
      obtain ⟨n5,h5⟩:=qPG hs (tb q.1,q.2) it.1
      have w:=qQL q
      have iw:=hi.go w
      have htl:=q8 q.1
      obtain ⟨n6,h6⟩:=qGq hs [40] (by simp) (wr (tb q.1),q.2) iw.1
      obtain ⟨n7,h7⟩:=qTz
      obtain ⟨n9,h9⟩:=qQN H (s:=s) (tb q.1) (wr (tb q.1),q.2) (by omega) (by have:=hi.2;simp only;omega)
      have gi:=qJ5 [40] (wr (tb q.1),q.2)
      cases hf:qF4 (wd (tb q.1)) 1 10 with
      |none=>
       simp only
       refine ⟨n1+n2+n3+n4+n5+n6+n7+n9+12+1,fun n hn=>?_⟩
       obtain ⟨k,rfl,hm⟩:=up1 hn
       have lp:=qKF (g:=qd k) (s:=s) (wd (tb q.1)) (wr (tb q.1),q.2) (fun _=>(0,q)) (h7 k (by omega)) (h6 k (by omega)) 10 1 k (by omega) (by omega) (by omega) (fun op h=>by rw [hf] at h;cases h)
       rw [hf] at lp
       exact qA (h1 k (by omega)) (qO c1 (qA (h2 k (by omega)) (qO c2 (qA (h3 k (by omega)) (qO c3 (qA (h4 k (by omega)) (qO c4 (qA (h5 k (by omega)) (qA lp (h9 k (by omega)))))))))))
      |some op=>
       have wne:wd (tb q.1)≠ []:=fun e=>by rw [e,H.f0] at hf;cases hf
       have wlt:=qUu wne
       simp only
       cases c5:(sIs [40] (wr (tb q.1),q.2)).1 with
       |true=>
        rw [if_pos rfl]
        have il:=qSV (by simp) c5
        simp only at il
        obtain ⟨x,hx,n8,h8⟩:=qFM H hs f (.call op []) (sIs [40] (wr (tb q.1),q.2)).2 (.inr (by omega)) (iw.go gi) (.inr (by have:=qBu (w.tr0 gi);simp only [List.length_nil];omega))
        have hcall:Ev (qHq · op (BR s) (pos s (sIs [40] (wr (tb q.1),q.2)).2.1) (sIs [40] (wr (tb q.1),q.2)).2.2.1 (sIs [40] (wr (tb q.1),q.2)).2.2.2.length ((sIs [40] (wr (tb q.1),q.2)).2.2.2.map qb)) (qCS s (sP f (.call op []) (sIs [40] (wr (tb q.1),q.2)).2)):=by
         refine ⟨n8+1,fun n hn=>?_⟩
         obtain ⟨k,rfl,hm⟩:=up1 hn
         have h8:=h8 k (by omega) k (by omega)
         rcases hx with rfl|⟨rfl,hz⟩
         ·exact qA h8 rfl
         ·refine qA h8 ?_
          show some ((0:Int),qCq s _)=some (_,qCq s _)
          rw [hz]
        obtain ⟨n10,h10⟩:=hcall
        refine ⟨n1+n2+n3+n4+n5+n6+n7+n10+12+1,fun n hn=>?_⟩
        obtain ⟨k,rfl,hm⟩:=up1 hn
        have lp:=qKF (g:=qd k) (s:=s) (wd (tb q.1)) (wr (tb q.1),q.2) (fun op=>sP f (.call op []) (sIs [40] (wr (tb q.1),q.2)).2) (h7 k (by omega)) (h6 k (by omega)) 10 1 k (by omega) (by omega) (by omega) (fun op' h _=>by rw [hf] at h;cases h;exact h10 k (by omega))
        rw [hf] at lp
        simp only at lp
        rw [if_pos c5] at lp
        exact qA (h1 k (by omega)) (qO c1 (qA (h2 k (by omega)) (qO c2 (qA (h3 k (by omega)) (qO c3 (qA (h4 k (by omega)) (qO c4 (qA (h5 k (by omega)) (qA lp rfl)))))))))
       |false=>
        rw [if_neg (by simp)]
        obtain ⟨v1,v2⟩:=H.f _ _ hf
        obtain ⟨n9,h9⟩:=qQN H (s:=s) (tb q.1) (sIs [40] (wr (tb q.1),q.2)).2 (by omega) (by have:=(iw.go gi).2;omega)
        have er:qPJ (wd (tb q.1)) (sIs [40] (wr (tb q.1),q.2)).2=(0,qLW (sIs [40] (wr (tb q.1),q.2)).2):=by
         unfold qPJ
         rw [if_neg (fun h=>by rw [v1] at h;cases h.1),if_neg (by rw [v2];simp)]
        rw [er] at h9
        refine ⟨n1+n2+n3+n4+n5+n6+n7+n9+12+1,fun n hn=>?_⟩
        obtain ⟨k,rfl,hm⟩:=up1 hn
        have lp:=qKF (g:=qd k) (s:=s) (wd (tb q.1)) (wr (tb q.1),q.2) (fun _=>(0,q)) (h7 k (by omega)) (h6 k (by omega)) 10 1 k (by omega) (by omega) (by omega) (fun op' h h'=>by rw [c5] at h';cases h')
        rw [hf] at lp
        simp only at lp
        rw [if_neg (by rw [c5];simp)] at lp
        exact qA (h1 k (by omega)) (qO c1 (qA (h2 k (by omega)) (qO c2 (qA (h3 k (by omega)) (qO c3 (qA (h4 k (by omega)) (qO c4 (qA (h5 k (by omega)) (qA lp (h9 k (by omega)))))))))))
 |f+1,.call op kids,q,ha,hi,hk=>by
  have hr:q.1.length≤1000:=Nat.le_trans (qDK hi.1) hs
  unfold sP
  by_cases hb:q.2.1=true
  ·rw [if_pos hb]
   refine ⟨.inr (qCq s q),.inr ⟨rfl,rfl⟩,1,fun n hn M hM=>?_⟩
   obtain ⟨M,rfl,hM⟩:=up1 hM
   exact qP (qO (qDA hb) rfl)
  ·have hk:kids.length+q.1.length≤1500:=hk.elim (fun h=>absurd h hb) id
   have ha:20*(tb q.1).length+12≤f+1:=ha.elim (fun h=>absurd h.1 hb) id
   have hb:q.2.1=false:=by rw [Bool.eq_false_iff];exact hb
   rw [if_neg (by rw [hb];simp)]
   simp only
   have a:=qE2 H f .arg q hr trivial
   obtain ⟨n1,h1⟩:=qFM H hs f .arg q (by show 20*_+10≤f;omega) hi trivial
   generalize sP f .arg q=A at a h1⊢
   have ia:=hi.go a
   have ta:=a.tb
   have ra:=qBu a
   obtain ⟨n2,h2⟩:=qGq hs [41] (by simp) A.2 ia.1
   have kl:decide (kids.length=(kids.map qBB).length∧0<1∧0<8∧(kids.length+([[(PV.i .i64 A.1)]]:List (List PV)).length)*8≤140737488355328∧([[(PV.i .i64 A.1)]]:List (List PV)).all (fun e=>e.length==1)=true)=true:=zD ⟨by simp,by decide,by decide,by simp;omega,rfl⟩
   have k1:(kids++ [A.1]).length=kids.length+1:=by simp
   have k2:(kids++ [A.1]).map qBB=kids.map qBB++ [[PV.i .i64 A.1]]:=by simp [qBB]
   cases c1:(sIs [41] A.2).1 with
   |true=>
    rw [if_pos rfl]
    have g:=a.trans (qEy (by simp) c1)
    obtain ⟨n3,h3⟩:=qJ4 (s:=s) (ndK 6 op (kids++ [A.1])) (sIs [41] A.2).2 (by have:=(hi.go g).2;omega) (qIe (by simp;omega))
    refine ⟨.inl (qCS s (qD8 (ndK 6 op (kids++ [A.1])) (sIs [41] A.2).2)),.inl rfl,n1+n2+n3+1,fun n hn M hM=>?_⟩
    obtain ⟨M,rfl,hM⟩:=up1 hM
    have h3:_=some _:=h3 n (by omega)
    simp only [ndK,kd] at h3
    rw [k2] at h3
    exact qP (qD (qDv hb) (qA (h1 n (by omega)) (qD rfl (qD kl (qA (h2 n (by omega)) (qD c1 (qD (zD (by simp)) (qA h3 rfl))))))))
   |false=>
    rw [if_neg (by simp)]
    have g:=a.tr0 (qJ5 [41] A.2)
    have gt:=(qJ5 [41] A.2).tb
    have i2:=hi.go g
    obtain ⟨n3,h3⟩:=qGq hs [44] (by simp) (sIs [41] A.2).2 i2.1
    cases c2:(sIs [44] (sIs [41] A.2).2).1 with
    |true=>
     rw [if_pos rfl]
     have b:=qEy (by simp) c2
     have bl:=qSV (by simp) c2
     have bs:=qBu (g.trans b)
     have b1:=b.sum
     have eq3:(sIs [44] (sIs [41] A.2).2).2.2=(sIs [41] A.2).2.2:=by obtain ⟨_,e,_⟩:=qKx c2;rw [e]
     rw [eq3] at b1
     have g0:=qBu g
     obtain ⟨x,hx,n4,h4⟩:=qFM H hs f (.call op (kids++ [A.1])) (sIs [44] (sIs [41] A.2).2).2 (.inr (by omega)) (i2.go b) (.inr (by rw [k1];omega))
     refine ⟨x,hx,n1+n2+n3+n4+1,fun n hn M hM=>?_⟩
     obtain ⟨M,rfl,hM⟩:=up1 hM
     have h4:=h4 n (by omega) M (by omega)
     rw [k1,k2] at h4
     rw [qT (v':=(op,kids.length+1,kids.map qBB++ [[PV.i .i64 A.1]],qCq s (sIs [44] (sIs [41] A.2).2).2)) (by
      exact qD (qDv hb) (qA (h1 n (by omega)) (qD rfl (qD kl (qA (h2 n (by omega)) (qO c1 (qA (h3 n (by omega)) (qO (qDA c2) rfl))))))))]
     exact h4
    |false=>
     rw [if_neg (by simp)]
     have b:=qJ5 [44] (sIs [41] A.2).2
     obtain ⟨x,hx,n4,h4⟩:=qFM H hs f (.call op (kids++ [A.1])) (qLW (sIs [44] (sIs [41] A.2).2).2) (.inl ⟨rfl,by omega⟩) (i2.go (qPI b)) (.inl rfl)
     refine ⟨x,hx,n1+n2+n3+n4+1,fun n hn M hM=>?_⟩
     obtain ⟨M,rfl,hM⟩:=up1 hM
     have h4:=h4 n (by omega) M (by omega)
     rw [k1,k2] at h4
     rw [qT (v':=(op,kids.length+1,kids.map qBB++ [[PV.i .i64 A.1]],qCq s (qLW (sIs [44] (sIs [41] A.2).2).2))) (by
      exact qD (qDv hb) (qA (h1 n (by omega)) (qD rfl (qD kl (qA (h2 n (by omega)) (qO c1 (qA (h3 n (by omega)) (qD (qDv c2) rfl))))))))]
     exact h4
 |f+1,.arg,q,ha,hi,_=>by
  replace ha:20*(tb q.1).length+10≤f+1:=ha
  have hr:q.1.length≤1000:=Nat.le_trans (qDK hi.1) hs
  have htl:=q8 q.1
  unfold sP
  simp only
  have t:=qMI q
  have it:=hi.go t
  have w:=qQL q
  have iw:=hi.go w
  obtain ⟨n1,h1⟩:=qQt hs q hi.1
  obtain ⟨n2,h2⟩:=qPG hs (tb q.1,q.2) it.1
  obtain ⟨n3,h3⟩:=srp (tb q.1) (by omega)
  obtain ⟨n4,h4⟩:=qGq hs [58] (by simp) (wr (tb q.1),q.2) iw.1
  have eq2:(sIs [58] (wr (tb q.1),q.2)).2.2=q.2:=by
   cases c:(sIs [58] (wr (tb q.1),q.2)).1 with
   |true=>obtain ⟨_,e,_⟩:=qKx c;rw [e]
   |false=>rw [qQM c]
  by_cases hc:(qAN (BR (wd (tb q.1)))).2.2.2.2=true∧(sIs [58] (wr (tb q.1),q.2)).1=true
  ·rw [if_pos hc]
   have g:=w.trans (qEy (by simp) hc.2)
   have ig:=hi.go g
   have rg:=qBu g
   generalize sIs [58] (wr (tb q.1),q.2)=I at*
   have gt:=qMI I.2
   have gw:=qQL I.2
   have il:=q8 I.2.1
   obtain ⟨n5,h5⟩:=qQt hs I.2 ig.1
   obtain ⟨n6,h6⟩:=qPG hs (tb I.2.1,I.2.2) (ig.go gt).1
   obtain ⟨n7,h7⟩:=srp (tb I.2.1) (by omega)
   cases hp:(qAN (BR (wd (tb I.2.1)))).2.2.2.2 with
   |true=>
    rw [if_pos rfl]
    obtain ⟨n8,h8⟩:=qJ4 (s:=s) (ndA (qAN (BR (wd (tb q.1)))) (qAN (BR (wd (tb I.2.1))))) (wr (tb I.2.1),I.2.2) (by have:=(ig.go gw).2;simp only at this⊢;omega) ⟨by simp [kd,ndA],by simp [ndA,em];decide⟩
    refine ⟨n1+n2+n3+n4+n5+n6+n7+n8+1,fun n hn=>?_⟩
    obtain ⟨k,rfl,hm⟩:=up1 hn
    exact qA (h1 k (by omega)) (qA (h2 k (by omega)) (qA (h3 k (by omega)) (qD hc.1 (qA (h4 k (by omega)) (qD hc.2 (qA (h5 k (by omega)) (qA (h6 k (by omega)) (qA (h7 k (by omega)) (qO (qDA hp) (qA (h8 k (by omega)) rfl))))))))))
   |false=>
    rw [if_neg (by simp)]
    refine ⟨n1+n2+n3+n4+n5+n6+n7+1,fun n hn=>?_⟩
    obtain ⟨k,rfl,hm⟩:=up1 hn
    exact qA (h1 k (by omega)) (qA (h2 k (by omega)) (qA (h3 k (by omega)) (qD hc.1 (qA (h4 k (by omega)) (qD hc.2 (qA (h5 k (by omega)) (qA (h6 k (by omega)) (qA (h7 k (by omega)) (qD (qDv hp) rfl)))))))))
  ·rw [if_neg hc]
   obtain ⟨n5,h5⟩:=qFM H hs f (.row 1) (tb q.1,q.2) ⟨by simp only [qCR];omega,by omega,by omega⟩ it trivial
   refine ⟨n1+n2+n3+n4+n5+1,fun n hn=>?_⟩
   obtain ⟨k,rfl,hm⟩:=up1 hn
   cases hp:(qAN (BR (wd (tb q.1)))).2.2.2.2 with
   |true=>
    have ht:(sIs [58] (wr (tb q.1),q.2)).1=false:=by rw [Bool.eq_false_iff];exact fun e=>hc ⟨hp,e⟩
    have h4:=h4 k (by omega)
    have e4:qCq s (sIs [58] (wr (tb q.1),q.2)).2=(BR s,pos s (sIs [58] (wr (tb q.1),q.2)).2.1,q.2.1,q.2.2.length,q.2.2.map qb):=by unfold qCq;rw [eq2]
    rw [e4] at h4
    exact qA (h1 k (by omega)) (qA (h2 k (by omega)) (qA (h3 k (by omega)) (qD hp (qA h4 (qO ht (qA (h5 k (by omega)) rfl))))))
   |false=>exact qA (h1 k (by omega)) (qA (h2 k (by omega)) (qA (h3 k (by omega)) (qO hp (qA (h5 k (by omega)) rfl))))
theorem qSp {w:List UInt8} (h:w.all wch=true) (hn:w≠ []):(qBH (BR w)).1=1∨(qBH (BR w)).1=3:=by
 cases w with
 |nil=>exact absurd rfl hn
 |cons c t=>
  simp only [List.all_cons,Bool.and_eq_true] at h
  have h39:¬(c::t).head?=some 39:=by
   intro e;simp at e;rw [e] at h;exact absurd h.1 (by decide)
  have h35:¬(c::t).head?=some 35:=by
   intro e;simp at e;rw [e] at h;exact absurd h.1 (by decide)
  unfold qBH
  rw [qAP,if_neg h39]
  split
  ·exact .inr rfl
  ·split
   ·exact .inr rfl
   ·exact .inl rfl
theorem qUT:RdOK where
 v:=fun w h hn ho=>by
  have c:=qSp h hn
  unfold qi at ho⊢
  split at ho
  ·rename_i hc;rw [if_pos hc];exact c
  ·cases ho
 v0:=by
  have:(qi (BR [])).1=0:=by
   have:(qi ⟨#[]⟩).1=0:=by decide+kernel
   exact this
  rw [this];decide
 p0:=by
  have:(qAN ⟨#[]⟩).2.2.2.2=false:=by decide+kernel
  exact this
 f:=fun w op h=>by
  have t:∀a:Fin 10,(qi (fnS (((a.val:Nat):Int)+1))).2.2.2=false∧(qAN (fnS (((a.val:Nat):Int)+1))).2.2.2.2=false:=by decide+kernel
  have e:∀(k:Nat) (i:Int),1≤i→i+k≤11→qF4 w i k=some op→∃j:Int,1≤j∧j≤10∧(fnS j).toList=w:=by
   intro k
   induction k with
   |zero=>intro i _ _ h;cases h
   |succ k ih=>
    intro i h1 h2 h
    unfold qF4 at h
    split at h
    ·rename_i hq;exact ⟨i,h1,by omega,hq⟩
    ·exact ih (i+1) (by omega) (by omega) h
  obtain ⟨j,j1,j2,rfl⟩:=e 10 1 (by omega) (by omega) h
  rw [qI7]
  have:=t ⟨(j-1).toNat,by omega⟩
  simp only at this
  rwa [show (((j-1).toNat:Nat):Int)+1=j by omega] at this
 f0:=by decide+kernel
 n:=fun n hn=>by
  have c:n=1∨n=2∨n=3∨n=4∨n=5:=by omega
  rcases c with rfl|rfl|rfl|rfl|rfl
  ·exact ⟨[68,73,86,33],by decide+kernel⟩
  ·exact ⟨[84,89,80,69,33],by decide+kernel⟩
  ·exact ⟨[82,69,70,33],by decide+kernel⟩
  ·exact ⟨[79,86,69,82,33],by decide+kernel⟩
  ·exact ⟨[67,89,67,76,69,33],by decide+kernel⟩
def qQO (s:BA):PS:=(pP 4050 (.bin 1 0) (s.toList,false,[])).2
def qBZ (s:BA):List Nd×Bool:=
 if qBd s 200=true∧(qQO s).2.1=false∧tb (qQO s).1= []∧qFe (qQO s).2.2=true then ((qQO s).2.2,true) else ([],false)
theorem qKG {s:BA} (h:qBd s 200=true):s.toList.length≤200:=by
 unfold qBd at h
 simp only [Bool.and_eq_true,decide_eq_true_eq] at h
 rw [qu];omega
theorem qRy {s:BA} (h:qBd s 200=true):Gd (s.toList,false,[]):=⟨by have:=qKG h;simp only;omega,by simp,fun x hx=>by cases hx⟩
theorem qKH {l:List Nd} (h:∀x∈l,qPx x):∀c∈l,(kd c).length≤140737488351232∧c.2.2.2.2.1.size≤140737488351232:=fun c hc=>by
 have:=h c hc
 exact ⟨by have:=this.1;omega,by have:=this.2;omega⟩
theorem qKh (s:BA) (hb:s.size≤140737488351232):Ev (qEM · s) ((qBZ s).1.map qb,(qBZ s).2):=by
 obtain ⟨n1,h1⟩:=qJs s 200 hb
 by_cases hp:qBd s 200=true
 ·have hl:=qKG hp
  have htb:=q8 s.toList
  have hg:=qRy hp
  obtain ⟨n2,h2⟩:=qFL 4050 (.bin 1 0) (s.toList,false,[]) (by show 20*(tb s.toList).length+6≤4050;omega) ⟨by decide,by decide⟩ hg trivial
  have g:=(qE1 4050 (.bin 1 0) (s.toList,false,[]) hg trivial).1
  have e0:(pP 4050 (.bin 1 0) (s.toList,false,[])).2=qQO s:=rfl
  rw [e0] at g
  generalize pP 4050 (.bin 1 0) (s.toList,false,[])=P at h2 e0
  rw [qI7] at h2
  unfold qBZ
  rw [←e0] at g⊢
  obtain ⟨n3,h3⟩:=qHG P.2.1 P.2.2.2.length P.2.2.1 (P.2.2.2.map qb)
  obtain ⟨n4,h4⟩:=qHF P.2.2.2 (by have:=g.n;omega) (qKH g.s)
  refine ⟨n1+n2+n3+n4+1,fun n hn=>?_⟩
  obtain ⟨k,rfl,hm⟩:=up1 hn
  have h1:=h1 k (by omega)
  rw [hp] at h1
  refine qA h1 (qO rfl (qA (h2 k (by omega)) (qA (h3 k (by omega)) ?_)))
  by_cases hbad:P.2.2.1=true
  ·rw [if_neg (fun h=>by rw [hbad] at h;cases h.2.1)]
   exact qD hbad (qD rfl rfl)
  ·have hbad:P.2.2.1=false:=by rw [Bool.eq_false_iff];exact hbad
   refine qO hbad ?_
   by_cases hr:tb P.2.1= []
   ·refine qO (qDA (by rw [beq_iff_eq,qp];show (BR (tb P.2.1)).toList= [];rw [qAP];exact hr)) (qD (zD (by simp)) (qA (h4 k (by omega)) (qD (qF _) ?_)))
    cases ho:qFe P.2.2.2 with
    |true=>
     rw [if_pos ⟨hp,hbad,hr,rfl⟩]
     exact qO rfl (qD (zD (by simp)) rfl)
    |false=>
     rw [if_neg (fun h=>by cases h.2.2.2)]
     exact qD rfl (qD rfl rfl)
   ·rw [if_neg (fun h=>hr h.2.2.1)]
    exact qD (qDv (by rw [beq_eq_false_iff_ne,qp];show (BR (tb P.2.1)).toList≠ [];rw [qAP];exact hr)) (qD rfl rfl)
 ·refine ⟨n1+1,fun n hn=>?_⟩
  obtain ⟨k,rfl,hm⟩:=up1 hn
  unfold qBZ
  rw [if_neg (fun h=>hp h.1)]
  exact qA (h1 k (by omega)) (qD (qDv (by rw [Bool.eq_false_iff];exact hp)) (qD rfl rfl))
theorem qSq {l:List Nd} (h:∃x∈l,qE0 x=false):qFe l=false:=by
 obtain ⟨x,hx,hb⟩:=h
 rw [Bool.eq_false_iff]
 intro ho
 unfold qFe at ho
 simp only [Bool.and_eq_true] at ho
 obtain ⟨i,hi⟩:=List.mem_iff_getElem?.1 hx
 have hil:=(List.getElem?_eq_some_iff.1 hi).1
 have:=(qFd.1 ho.2.1 (i:Int) (by omega) (by omega)).1
 unfold qF3 at this
 have e:ndi l (i:Int)=x:=by unfold ndi;simp [hi]
 rw [e,hb] at this
 cases this
theorem qKi (s:BA) (hb:s.size≤140737488351232):Ev (qEJ · s) ((qBZ s).1.map qb,(qBZ s).2):=by
 obtain ⟨n1,h1⟩:=qI1 s hb
 by_cases hp:qBd s 200=true
 ·have hl:=qKG hp
  have hs:s.toList.length≤1000:=by omega
  have htb:=q8 s.toList
  have hg:=qRy hp
  have gi:=(qE1 4050 (.bin 1 0) (s.toList,false,[]) hg trivial).1
  have sim:=(qTu qUT (tb s.toList).length).2.2.1 (s.toList,false,[]) (s.toList,false,[]) 0 4 4050 4050 (by omega) ⟨rfl,rfl,rfl,rfl⟩ rfl (by omega) (by omega) (by omega) (by omega)
  rw [show (5:Int)-((4:Nat):Int)=1 from rfl] at sim
  have iv:Iv s.toList (s.toList,false,[]):=⟨List.suffix_rfl,by simp;omega⟩
  obtain ⟨n2,h2⟩:=qFM qUT hs 4050 (.row 1) (s.toList,false,[]) ⟨by simp only;omega,by omega,by omega⟩ iv trivial
  have g:=qE2 qUT 4050 (.row 1) (s.toList,false,[]) hs trivial
  have e0:(pP 4050 (.bin 1 0) (s.toList,false,[])).2=qQO s:=rfl
  generalize pP 4050 (.bin 1 0) (s.toList,false,[])=P at sim e0 gi
  generalize sP 4050 (.row 1) (s.toList,false,[])=Q at sim h2 g
  unfold qBZ
  rw [←e0]
  obtain ⟨n3,h3⟩:=qQt hs Q.2 (iv.go g).1
  obtain ⟨n4,h4⟩:=qHE Q.2.2.2 (qKH (g.sm (fun x hx=>by cases hx)))
  have p0:pos s.toList s.toList=0:=by unfold pos;simp
  simp only [qI7,p0] at h2 h3
  have g2:=(qRx (iv.go g).1)
  refine ⟨n1+n2+n3+n4+1,fun n hn=>?_⟩
  obtain ⟨k,rfl,hm⟩:=up1 hn
  have h1:=h1 k (by omega)
  rw [hp] at h1
  have h2:=h2 k (by omega)
  have h3:=h3 k (by omega)
  have e1:qCS s.toList Q=(Q.1,s,pos s.toList Q.2.1,Q.2.2.1,Q.2.2.2.length,Q.2.2.2.map qb):=by unfold qCS qCq;rw [qI7]
  have e2:qCq s.toList (tb Q.2.1,Q.2.2)=(s,pos s.toList (tb Q.2.1),Q.2.2.1,Q.2.2.2.length,Q.2.2.2.map qb):=by unfold qCq;rw [qI7]
  rw [e1] at h2
  rw [e2] at h3
  refine qA h1 (qO rfl (qA h2 (qA h3 ?_)))
  rcases sim with ⟨_,hk,_⟩|⟨hbad,hd⟩
  ·obtain ⟨k1,k2,k3,k4⟩:=hk
   rw [k1,k3,k4]
   refine qO k2 ?_
   by_cases hr:tb Q.2.1= []
   ·refine qO (zx (show ¬pos s.toList (tb Q.2.1)<(s.size:Int) by rw [hr];unfold pos;simp [qu])) (qD (zD (by simp)) (qA (h4 k (by omega)) (qD (qF _) ?_)))
    cases ho:qFe Q.2.2.2 with
    |true=>
     rw [if_pos ⟨hp,rfl,hr,rfl⟩]
     exact qO rfl (qD (zD (by simp)) rfl)
    |false=>
     rw [if_neg (fun h=>by cases h.2.2.2)]
     exact qD rfl (qD rfl rfl)
   ·rw [if_neg (fun h=>hr h.2.2.1)]
    have hlp:=List.length_pos_iff.2 hr
    have hsl:=qDK g2
    exact qD (zD (show pos s.toList (tb Q.2.1)<(s.size:Int) by rw [qu] at hsl;unfold pos;rw [qu];omega)) (qD rfl rfl)
  ·rw [if_neg (fun h=>by
    rcases hd with hd|hd
    ·rw [hd] at h;cases h.2.1
    ·rw [qSq hd] at h;cases h.2.2.2)]
   exact qD hbad (qD rfl rfl)
 ·refine ⟨n1+1,fun n hn=>?_⟩
  obtain ⟨k,rfl,hm⟩:=up1 hn
  unfold qBZ
  rw [if_neg (fun h=>hp h.1)]
  exact qA (h1 k (by omega)) (qD (qDv (by rw [Bool.eq_false_iff];exact hp)) (qD rfl rfl))
theorem qMJ (s:BA):(qBZ s).1.length≤60∧∀x∈(qBZ s).1,qPx x:=by
 unfold qBZ
 split
 ·rename_i h
  have g:=(qE1 4050 (.bin 1 0) (s.toList,false,[]) (qRy h.1) trivial).1
  exact ⟨g.n,g.s⟩
 ·exact ⟨by simp,fun x hx=>by cases hx⟩
theorem qPK:∀(l:List UInt8) (acc:Nat) {u:Nat},l.all qAr=true→Lib.parseUintM (2^64-1) acc l= .ok u→u=qAk acc l
 | [],acc,u,_,h=>by simp only [Lib.parseUintM] at h;cases h;rfl
 |c::r,acc,u,hd,h=>by
  simp only [List.all_cons,Bool.and_eq_true] at hd
  have hc:=hd.1
  simp only [qAr,Bool.and_eq_true,decide_eq_true_eq] at hc
  unfold Lib.parseUintM at h
  rw [qDs]
  rw [if_pos hc] at h
  by_cases h1:1844674407370955162≤acc
  ·rw [if_pos h1] at h;cases h
  ·rw [if_neg h1] at h
   by_cases h2:2^64-1<acc*10+(c.toNat-48)
   ·rw [if_pos h2] at h;cases h
   ·rw [if_neg h2] at h
    exact qPK r _ hd.2 h
theorem qRz {p:UInt8→Bool}:∀l:List UInt8,(l.dropWhile p= [])↔l.all p=true
 | []=>by simp
 |c::r=>by
  rw [List.dropWhile_cons,List.all_cons]
  by_cases h:p c=true
  ·rw [if_pos h,h,Bool.true_and];exact qRz r
  ·rw [if_neg h];simp [h]
theorem qSX {p:UInt8→Bool}:∀(l:List UInt8) {a:UInt8} {r:List UInt8},l.dropWhile p=a::r→p a=false
 | [],a,r,h=>by simp at h
 |c::l,a,r,h=>by
  rw [List.dropWhile_cons] at h
  by_cases hc:p c=true
  ·rw [if_pos hc] at h;exact qSX l h
  ·rw [if_neg hc] at h
   cases h
   rw [Bool.eq_false_iff];exact hc
theorem qTP:∀i:Fin 256,((⟨#[48,49,50,51,52,53,54,55,56,57]⟩:BA).data.toList.contains (UInt8.ofNat i.val))=qAr (UInt8.ofNat i.val):=by decide+kernel
theorem qRR {p:UInt8→Bool} {t:List UInt8}:((t.reverse.dropWhile p).reverse.dropWhile p= [])↔t.all p=true:=by
 rw [qRz]
 constructor
 ·intro h
  cases hx:t.reverse.dropWhile p with
  |nil=>
   rw [qRz] at hx
   rw [List.all_eq_true] at hx⊢
   exact fun x hx'=>hx x (by simpa using hx')
  |cons a r=>
   rw [List.all_eq_true] at h
   have h1:=h a (by rw [hx];simp)
   rw [qSX _ hx] at h1
   cases h1
 ·intro h
  rw [List.all_eq_true] at h⊢
  intro x hx
  rw [List.mem_reverse] at hx
  exact h x (by simpa using (List.dropWhile_suffix p).subset hx)
def qGw (s:List UInt8):List UInt8:=if s.head?=some 45 then s.tail else s
def qJ6 (s:List UInt8):Int:=if s.head?=some 45 then-((qAk 0 (qGw s):Nat):Int) else ((qAk 0 (qGw s):Nat):Int)
def qPy (s:List UInt8):Bool:=decide (qGw s≠ [])&&(qGw s).all qAr
def qEz (s:List UInt8):Bool:=qPy s&&okV 1 (qJ6 s) em
theorem qTQ (s:List UInt8):(qGw s).length≤s.length:=by unfold qGw;split<;>simp
theorem qRS (s:List UInt8) (h:s.length≤1000):Ev (qEF · (BR s)) (qPy s):=by
 refine ⟨10,fun n hn=>?_⟩
 obtain ⟨k,rfl⟩:∃k,n=k+5:=⟨n-5,by omega⟩
 have tp:qDf (k+4) (BR s) ⟨#[45]⟩=some (BR (qGw s)):=by
  have hp:qAA (k+2) (BR s) ⟨#[45]⟩=some (List.isPrefixOf [45] s):=by
   have:=qBY (k+1) s [45]
   simp only [qk,qB0,qC,qE,qJ,qK,qM,qN,zC,qF,qG,qH] at this
   have e:∀o:Option Bool,(o.bind fun x=>some x)=o:=fun o=>by cases o<;>rfl
   rw [e] at this
   exact this
  have inner:qBM (k+3) (BR s) ⟨#[45]⟩=some (BR (qGw s)):=by
   by_cases hh:s.head?=some 45
   ·rw [(qEx 45 s).2 hh] at hp
    obtain ⟨t,rfl⟩:=qKD hh
    unfold qGw
    rw [if_pos hh]
    refine qA hp (qD rfl (qD (zD ⟨by decide,by rw [qc];show (1:Int)≤_;simp;omega,Int.le_refl _⟩) ?_))
    rw [qC]
    show some ((BR (45::t)).extract 1 ((((BR (45::t)).size:Nat):Int)).toNat)=_
    rw [qFr,qc]
    simp
   ·have e:List.isPrefixOf [45] s=false:=by rw [Bool.eq_false_iff];exact fun e=>hh ((qEx 45 s).1 e)
    rw [e] at hp
    unfold qGw
    rw [if_neg hh]
    exact qA hp (qO rfl rfl)
  exact qA inner rfl
 have tl:=qTQ s
 unfold qPy
 generalize qGw s=t at tp tl⊢
 refine qA tp ?_
 by_cases ht:t= []
 ·subst ht
  refine qO (qDA (by rw [qAP,qp];rfl)) ?_
  rfl
 ·refine qD (qDv (by rw [beq_eq_false_iff_ne,qAP,qp];exact ht)) ?_
  have tr:qGd (k+4) (BR t) ⟨#[48,49,50,51,52,53,54,55,56,57]⟩=some (BR (((t.reverse.dropWhile qAr).reverse).dropWhile qAr)):=by
   show zAr (BR t) ⟨#[48,49,50,51,52,53,54,55,56,57]⟩=_
   unfold zAr
   rw [if_pos ⟨by rw [qc];omega,by decide,by decide+kernel⟩]
   unfold Lib.trimS Lib.trimLeftS Lib.trimRightS
   have:(fun c=>(⟨#[48,49,50,51,52,53,54,55,56,57]⟩:BA).data.toList.contains c)=qAr:=funext (qRu qTP)
   rw [this,←Go.Lib.toList_data (BR t),qAP]
   rfl
  refine qA tr ?_
  rw [qC]
  congr 1
  have dt:decide (t≠ [])=true:=zD ht
  rw [dt,Bool.true_and,qAP,qp]
  by_cases ha:t.all qAr=true
  ·rw [qRR.2 ha,ha];rfl
  ·have hx:¬(t.reverse.dropWhile qAr).reverse.dropWhile qAr= []:=fun e=>ha (qRR.1 e)
   rw [beq_eq_false_iff_ne.2 hx,Bool.eq_false_iff.2 ha]
theorem qUU {n:Int}:okV 1 n em=true↔-1000000000000000≤n∧n≤1000000000000000:=by
 simp [okV,em,qp]
theorem qNO {s:List UInt8} (h:qPy s=true):(∀n,Lib.parseIntB 64 s= .ok n→n=qJ6 s)∧(qEz s=true→Lib.parseIntB 64 s= .ok (qJ6 s)):=by
 have hd:=h
 unfold qPy at hd
 simp only [Bool.and_eq_true,decide_eq_true_eq] at hd
 obtain ⟨h1,h2⟩:=hd
 have p:(2:Nat)^(64-1)=9223372036854775808:=by decide
 have hne:s≠ []:=fun e=>h1 (by rw [e];rfl)
 obtain ⟨c,r,rfl⟩:∃c r,s=c::r:=by
  cases s with
  |nil=>exact absurd rfl hne
  |cons c r=>exact ⟨c,r,rfl⟩
 have c45:(c.toNat=45)↔c=45:=⟨fun e=>UInt8.toNat_inj.1 (show c.toNat=(45:UInt8).toNat from e),fun e=>by rw [e];rfl⟩
 have nt:qGw (c::r)=if c.toNat=43∨c.toNat=45 then r else c::r:=by
  unfold qGw
  by_cases hc:c=45
  ·subst hc;simp
  ·have hc2:¬c.toNat=45:=fun e=>hc (c45.1 e)
   have ht:qGw (c::r)=c::r:=by unfold qGw;rw [if_neg (by simpa using hc)]
   rw [ht] at h2
   simp only [List.all_cons,Bool.and_eq_true,qAr,decide_eq_true_eq] at h2
   rw [if_neg (by simpa using hc),if_neg (by omega)]
 have nv:qJ6 (c::r)=if c.toNat=45 then-((qAk 0 (qGw (c::r)):Nat):Int) else ((qAk 0 (qGw (c::r)):Nat):Int):=by
  unfold qJ6
  by_cases hc:c=45
  ·subst hc;rfl
  ·rw [if_neg (by simpa using hc),if_neg (fun e=>hc (c45.1 e))]
 unfold Lib.parseIntB
 simp only
 rw [←nt]
 unfold Lib.parseUintB
 rw [if_neg h1]
 constructor
 ·intro n hn
  rcases hq:Lib.parseUintM (2^64-1) 0 (qGw (c::r)) with u|_|_
  rotate_left
  ·rw [hq] at hn;cases hn
  ·rw [hq] at hn;cases hn
  ·have hu:=qPK _ 0 h2 hq
   rw [hq] at hn
   simp only at hn
   split at hn
   ·cases hn
   ·split at hn
    ·cases hn
    ·injection hn with hn
     rw [nv,←hu,←hn]
 ·intro ho
  unfold qEz at ho
  simp only [Bool.and_eq_true] at ho
  have hb:=qUU.1 ho.2
  have hv:qAk 0 (qGw (c::r))≤1000000000000000:=by
   rw [nv] at hb
   split at hb<;>omega
  rw [qNA _ 0 h2 (by omega)]
  simp only
  rw [if_neg (by rw [p];omega),if_neg (by rw [p];omega),nv]
def szL:List UInt8→List UInt8
 | []=> []
 |c::t=>if t≠ []∧c=48 then szL t else c::t
theorem qOK:∀l:List UInt8,qAk 0 (szL l)=qAk 0 l
 | []=>rfl
 |c::t=>by
  unfold szL
  split
  ·rename_i h
   rw [qOK t,qDs,h.2]
   rfl
  ·rfl
theorem qQw:∀l:List UInt8,(szL l).all qAr=l.all qAr
 | []=>rfl
 |c::t=>by
  unfold szL
  split
  ·rename_i h
   rw [qQw t,List.all_cons,h.2]
   simp [qAr]
  ·rfl
theorem qT9:∀l:List UInt8,l≠ []→szL l≠ []
 | [],h=>absurd rfl h
 |c::t,_=>by
  unfold szL
  split
  ·rename_i h;exact qT9 t h.1
  ·simp
theorem qQx:∀l:List UInt8,(szL l).head?=some 48→(szL l).length=1
 | [],h=>by cases h
 |c::t,h=>by
  unfold szL at h⊢
  split at h
  ·rename_i hc;rw [if_pos hc];exact qQx t h
  ·rename_i hc
   rw [if_neg hc]
   have h48:c=48:=by simpa using h
   have:t= []:=Classical.byContradiction fun e=>hc ⟨e,h48⟩
   rw [this];rfl
theorem qTR {l:List UInt8} (h:l≠ []):qFy (szL l)=l.all qAr:=by
 unfold qFy
 rw [qQw]
 have h1:(szL l== [])=false:=beq_eq_false_iff_ne.2 (qT9 l h)
 rw [h1]
 by_cases e:(szL l).head?=some 48
 ·rw [qQx l e];simp
 ·rw [beq_eq_false_iff_ne.2 e];simp
theorem qRT:∀(l:List UInt8) (acc:Nat),acc*10^l.length≤qAk acc l
 | [],acc=>by rw [qGi];simp
 |c::r,acc=>by
  have:=qRT r (acc*10+(c.toNat-48))
  rw [qDs,List.length_cons,Nat.pow_succ]
  refine Nat.le_trans ?_ this
  rw [show acc*(10^r.length*10)=acc*10*10^r.length by rw [Nat.mul_comm (10^r.length) 10,Nat.mul_assoc]]
  exact Nat.mul_le_mul_right _ (by omega)
theorem qUV {l:List UInt8} (hd:l.all qAr=true) (h:16<(szL l).length):10000000000000000≤qAk 0 l:=by
 rw [←qOK]
 rw [←qQw] at hd
 have hh:=qQx l
 cases hz:szL l with
 |nil=>rw [hz] at h;simp at h
 |cons c r=>
  rw [hz] at h hd hh
  simp only [List.length_cons] at h
  have hc:¬c=48:=fun e=>by
   have:=hh (by rw [e];rfl)
   simp only [List.length_cons] at this
   omega
  simp only [List.all_cons,Bool.and_eq_true,qAr,decide_eq_true_eq] at hd
  have hc2:¬c.toNat=48:=fun e=>hc (UInt8.toNat_inj.1 (show c.toNat=(48:UInt8).toNat from e))
  rw [qDs]
  have a:=qRT r (0*10+(c.toNat-48))
  have p:10^16≤10^r.length:=Nat.pow_le_pow_right (by decide) (by omega)
  have p16:(10:Nat)^16=10000000000000000:=by decide
  have:1*10^r.length≤(0*10+(c.toNat-48))*10^r.length:=Nat.mul_le_mul_right _ (by omega)
  omega
theorem qMK (n:Nat) (neg:Bool) (a b:Int) (e:BA):∀(l:List UInt8) (M:Nat),l.length≤1000→l.length+1≤M→zF (qBi n) M (BR l,neg,a,b,e)=some (BR (szL l),neg,a,b,e)
 |l,0,_,h=>by omega
 | [],M+1,_,_=>qP (qO (zx (show ¬((BR []).size:Int)>1 by rw [qc];decide)) rfl)
 |c::t,M+1,hl,h=>by
  simp only [List.length_cons] at h hl
  unfold szL
  by_cases ht:t= []
  ·rw [if_neg (fun h=>h.1 ht)]
   subst ht
   exact qP (qO (zx (show ¬((BR [c]).size:Int)>1 by rw [qc];simp)) rfl)
  ·have hpos:=List.length_pos_iff.2 ht
   have g0:decide (((BR (c::t)).size:Int)>1)=true:=zD (by rw [qc];simp only [List.length_cons];omega)
   have g1:(BR (c::t)).toList[((0:Int)).toNat]?=some c:=by rw [qAP];rfl
   by_cases hc:c=48
   ·rw [if_pos ⟨ht,hc⟩]
    subst hc
    rw [qT (v':=(BR t,neg,a,b,e)) (by
     refine qD g0 (qD rfl (qA g1 (qD rfl (qD (zD ⟨by decide,by rw [qc];simp only [List.length_cons];omega,Int.le_refl _⟩) ?_))))
     rw [qC]
     show some (Sum.inl ((BR (48::t)).extract 1 ((((BR (48::t)).size:Nat):Int)).toNat,neg,a,b,e))=_
     rw [qFr,qc]
     simp)]
    exact qMK n neg a b e t M (by omega) (by omega)
   ·rw [if_neg (fun h=>hc h.2)]
    refine qP (qD g0 (qD rfl (qA g1 (qO ?_ rfl))))
    rw [beq_eq_false_iff_ne]
    intro e
    exact hc (UInt8.toNat_inj.1 (show c.toNat=48 by omega))
theorem qUW {l:List UInt8} (h:l≠ []):l1I (szL l) 16=if (szL l).length≤16∧l.all qAr=true then (((qAk 0 l:Nat):Int),true) else (0,false):=by
 unfold l1I
 rw [qTR h,qOK]
 by_cases hh:(szL l).length≤16∧l.all qAr=true
 ·rw [if_pos hh,if_pos ⟨by have:=hh.1;omega,hh.2⟩]
 ·rw [if_neg hh,if_neg (fun e=>hh ⟨by have:=e.1;omega,e.2⟩)]
theorem qRU (neg:Bool) (t:List UInt8) (ht:t≠ []) (hl:t.length≤1000):∃r:Int×Int×BA×Bool,(r.2.2.2=(t.all qAr&&okV 1 (if neg=true then-((qAk 0 t:Nat):Int) else ((qAk 0 t:Nat):Int)) em))∧(r.2.2.2=true→r=(1,(if neg=true then-((qAk 0 t:Nat):Int) else ((qAk 0 t:Nat):Int)),em,true))∧
  ∃n0,∀n,n0≤n→∃v:BA×Bool×Int×Int×BA,zF (qBi n) n (BR t,neg,0,0,⟨#[]⟩)=some v∧
   (Tr.opt (qm n v.1 16) fun r221=>(.ask (v.2.1)
    (.ask (r221.2) (.opt (qZ n 1 (IntKind.i64.wrap (0-r221.1)) ⟨#[]⟩) fun r222=>(.done ((1:Int),(IntKind.i64.wrap (0-r221.1)),(⟨#[]⟩:BA),r222))) (.done ((1:Int),(IntKind.i64.wrap (0-r221.1)),(⟨#[]⟩:BA),false)))
    (.ask (r221.2) (.opt (qZ n 1 r221.1 ⟨#[]⟩) fun r223=>(.done ((1:Int),r221.1,(⟨#[]⟩:BA),r223))) (.done ((1:Int),r221.1,(⟨#[]⟩:BA),false))))).run=some r:=by
 have hi:=qDR (BR (szL t)) 16 (by decide)
 rw [qAP,qUW ht] at hi
 obtain ⟨n1,h1⟩:=hi
 by_cases hh:(szL t).length≤16∧t.all qAr=true
 ·have hv:qAk 0 t<10^(0+(szL t).length):=by
   have:=qQg (szL t) 0 0 (by rw [qQw];exact hh.2) (by decide)
   rwa [qOK] at this
  have hp:10^(0+(szL t).length)≤10^16:=Nat.pow_le_pow_right (by decide) (by omega)
  have p16:(10:Nat)^16=10000000000000000:=by decide
  have w1:IntKind.i64.wrap (0-((qAk 0 t:Nat):Int))= -((qAk 0 t:Nat):Int):=by rw [qU (by omega)];omega
  cases neg with
  |true=>
   obtain ⟨n2,h2⟩:=qAD 1 (-((qAk 0 t:Nat):Int)) em (by decide)
   refine ⟨(1,-((qAk 0 t:Nat):Int),em,okV 1 (-((qAk 0 t:Nat):Int)) em),by rw [hh.2];simp,fun e=>?_,n1+n2+t.length+1,fun n hn=>⟨_,qMK n true 0 0 _ t n hl (by omega),?_⟩⟩
   ·simp only at e;rw [e];rfl
   ·have h1:=h1 n (by omega)
    rw [if_pos hh] at h1
    have h2:=h2 n (by omega)
    rw [←w1] at h2
    refine qA h1 (qD rfl (qD rfl (qA h2 ?_)))
    rw [qC,w1];rfl
  |false=>
   obtain ⟨n2,h2⟩:=qAD 1 ((qAk 0 t:Nat):Int) em (by decide)
   refine ⟨(1,((qAk 0 t:Nat):Int),em,okV 1 ((qAk 0 t:Nat):Int) em),by rw [hh.2];simp,fun e=>?_,n1+n2+t.length+1,fun n hn=>⟨_,qMK n false 0 0 _ t n hl (by omega),?_⟩⟩
   ·simp only at e;rw [e];rfl
   ·have h1:=h1 n (by omega)
    rw [if_pos hh] at h1
    exact qA h1 (qO rfl (qD rfl (qA (h2 n (by omega)) rfl)))
 ·have hno:(t.all qAr&&okV 1 (if neg=true then-((qAk 0 t:Nat):Int) else ((qAk 0 t:Nat):Int)) em)=false:=by
   rw [Bool.eq_false_iff]
   intro e
   simp only [Bool.and_eq_true] at e
   have hb:=qUU.1 e.2
   have:16<(szL t).length:=by
    have:¬(szL t).length≤16:=fun h=>hh ⟨h,e.1⟩
    omega
   have:=qUV e.1 this
   split at hb<;>omega
  cases neg with
  |true=>
   refine ⟨(1,IntKind.i64.wrap (0-0),em,false),hno.symm,(fun e=>by cases e),n1+t.length+1,fun n hn=>⟨_,qMK n true 0 0 _ t n hl (by omega),?_⟩⟩
   have h1:=h1 n (by omega)
   rw [if_neg hh] at h1
   exact qA h1 (qD rfl (qO rfl rfl))
  |false=>
   refine ⟨(1,0,em,false),hno.symm,(fun e=>by cases e),n1+t.length+1,fun n hn=>⟨_,qMK n false 0 0 _ t n hl (by omega),?_⟩⟩
   have h1:=h1 n (by omega)
   rw [if_neg hh] at h1
   exact qA h1 (qO rfl (qO rfl rfl))
theorem qRV (s:List UInt8) (hs:s≠ []) (hl:s.length≤1000):∃r:Int×Int×BA×Bool,r.2.2.2=qEz s∧(qEz s=true→r=(1,qJ6 s,em,true))∧Ev (qFl · (BR s)) r:=by
 obtain ⟨c,t,rfl⟩:∃c t,s=c::t:=by
  cases s with
  |nil=>exact absurd rfl hs
  |cons c t=>exact ⟨c,t,rfl⟩
 simp only [List.length_cons] at hl
 have g0:decide (((BR (c::t)).size:Int)>0)=true:=zD (by rw [qc];simp only [List.length_cons];omega)
 have g1:(BR (c::t)).toList[((0:Int)).toNat]?=some c:=by rw [qAP];rfl
 by_cases hc:c=45
 ·subst hc
  have ext:(BR (45::t)).extract ((1:Int)).toNat ((((BR (45::t)).size:Nat):Int)).toNat=BR t:=by rw [qFr,qc];simp
  have g2:decide (0≤(1:Int)∧(1:Int)≤((BR (45::t)).size:Int)∧((BR (45::t)).size:Int)≤((BR (45::t)).size:Int))=true:=zD ⟨by decide,by rw [qc];simp only [List.length_cons];omega,Int.le_refl _⟩
  have nt:qGw (45::t)=t:=rfl
  have nv:qJ6 (45::t)= -((qAk 0 t:Nat):Int):=rfl
  by_cases ht:t= []
  ·subst ht
   refine ⟨(0,0,⟨#[]⟩,false),by decide+kernel,(fun e=>by revert e;decide+kernel),1,fun n hn=>?_⟩
   obtain ⟨k,rfl,hm⟩:=up1 hn
   exact qD g0 (qD rfl (qA g1 (qD rfl (qD g2 (qD (by rw [ext,qAP,qp];rfl) rfl)))))
  ·obtain ⟨r,r1,r2,n0,h0⟩:=qRU true t ht (by omega)
   have e:qEz (45::t)=(t.all qAr&&okV 1 (-((qAk 0 t:Nat):Int)) em):=by
    unfold qEz qPy
    rw [nt,nv,zD ht,Bool.true_and]
   rw [if_pos rfl] at r1 r2
   refine ⟨r,by rw [e];exact r1,fun h=>by rw [nv];exact r2 (by rw [r1,←e];exact h),n0+1,fun n hn=>?_⟩
   obtain ⟨k,rfl,hm⟩:=up1 hn
   obtain ⟨v,lp,fin⟩:=h0 k (by omega)
   rw [←ext] at lp
   exact qD g0 (qD rfl (qA g1 (qD rfl (qD g2 (qO (by rw [ext,beq_eq_false_iff_ne,qAP,qp];exact ht) (qA lp fin))))))
 ·have c45:((c.toNat:Int)==45)=false:=by
   rw [beq_eq_false_iff_ne];intro e
   exact hc (UInt8.toNat_inj.1 (show c.toNat=45 by omega))
  have hh:¬(c::t).head?=some 45:=by simpa using hc
  have nt:qGw (c::t)=c::t:=by unfold qGw;rw [if_neg hh]
  have nv:qJ6 (c::t)=((qAk 0 (c::t):Nat):Int):=by unfold qJ6;rw [if_neg hh,nt]
  obtain ⟨r,r1,r2,n0,h0⟩:=qRU false (c::t) (by simp) (by simp only [List.length_cons];omega)
  have e:qEz (c::t)=((c::t).all qAr&&okV 1 (((qAk 0 (c::t):Nat):Int)) em):=by
   unfold qEz qPy
   rw [nt,nv,zD (by simp),Bool.true_and]
  rw [if_neg (by simp)] at r1 r2
  refine ⟨r,by rw [e];exact r1,fun h=>by rw [nv];exact r2 (by rw [r1,←e];exact h),n0+1,fun n hn=>?_⟩
  obtain ⟨k,rfl,hm⟩:=up1 hn
  obtain ⟨v,lp,fin⟩:=h0 k (by omega)
  rw [←c45] at lp
  exact qD g0 (qD rfl (qA g1 (qO c45 (qO (by rw [beq_eq_false_iff_ne,qAP,qp];simp) (qA lp fin)))))
def qDU (s:BA):BA×Bool:=
 if qBd s 200=false then (⟨#[]⟩,false) else if s.toList= [] then (⟨#[]⟩,true) else
 if s.toList.head?=some 61 then (if (qBZ (BR s.toList.tail)).2=true∧(qDC (qBZ (BR s.toList.tail)).1).toList≠ []∧(qDC (qBZ (BR s.toList.tail)).1).size<200 then (⟨#[61]⟩++qDC (qBZ (BR s.toList.tail)).1,true) else (⟨#[]⟩,false)) else
 if qEz s.toList=true then (qC9 (qJ6 s.toList),true) else
 if (qi s).2.2.2=true then (s,true) else
 if s.size=200 then (⟨#[]⟩,false) else (⟨#[39]⟩++s,true)
theorem qR0 (t:BA):Ev (qBh · ((qBZ t).1.map qb)) (qDC (qBZ t).1):=qKf _ (by have:=(qMJ t).1;omega) (qKH (qMJ t).2)
theorem qR1 (t:BA):Ev (qBn · ((qBZ t).1.map qb)) (qDC (qBZ t).1):=qKg _ (by have:=(qMJ t).1;omega) (qKH (qMJ t).2)
theorem qPL (l:List Nd):(qDC l).size≤200:=by
 unfold qDC
 split
 ·split
  ·decide
  ·omega
 ·decide
theorem qGr {s:BA} (h:s.toList≠ []):(s.toList==(⟨#[]⟩:BA).toList)=false:=by rw [qp];exact beq_eq_false_iff_ne.2 h
theorem qPM {s:BA} (h:s.toList= []):(s.toList==(⟨#[]⟩:BA).toList)=true:=by rw [qp];exact beq_iff_eq.2 h
theorem qRW {s:BA} (h:(qi s).2.2.2=true):okV (qi s).1 (qi s).2.1 (qi s).2.2.1=true∧(qB4 (qi s).1 (qi s).2.1 (qi s).2.2.1)=s:=by
 unfold qi at h⊢
 split at h
 ·rename_i hc
  rw [if_pos hc]
  exact ⟨hc.1,qDT hc.2⟩
 ·cases h
theorem qU1 {s:BA} (h:qBd s 200=true):okV 2 0 s=true:=by
 unfold okV
 rw [if_pos rfl,h]
 rfl
theorem qIf {s:BA} (h:qBd s 200=true):s.size≤200:=by have:=qKG h;rw [qu] at this;exact this
theorem qTS (s:BA):(qB4 2 0 s).size=s.size+1:=by
 have e:qB4 2 0 s=⟨#[39]⟩++s:=rfl
 rw [e,zh]
 show 1+s.size=_
 omega
theorem qSr {s:BA} (h:(qi s).2.2.2=true):(qi s).2.2.1.size≤1000:=by
 obtain ⟨h1,h2⟩:=qRW h
 unfold okV at h1
 split at h1
 ·simp only [Bool.and_eq_true] at h1
  have:=qIf h1.2;omega
 ·simp only [Bool.and_eq_true,beq_iff_eq] at h1
  have:=congrArg List.length h1.1
  rw [qu] at this
  simp only [List.length_nil] at this
  omega
theorem qI8 (s:BA) (hb:s.size≤140737488355328):Ev (qC2 · s) (qDU s):=by
 obtain ⟨n1,h1⟩:=qH8 s hb
 unfold qDU
 cases hp:qBd s 200 with
 |false=>
  rw [if_pos rfl]
  refine ⟨n1+1,fun n hn=>?_⟩
  obtain ⟨k,rfl,hm⟩:=up1 hn
  exact qA (h1 k (by omega)) (qD (qDv hp) rfl)
 |true=>
  rw [if_neg (by simp)]
  have hsz:=qIf hp
  by_cases h0:s.toList= []
  ·rw [if_pos h0]
   refine ⟨n1+1,fun n hn=>?_⟩
   obtain ⟨k,rfl,hm⟩:=up1 hn
   exact qA (h1 k (by omega)) (qO (qDA hp) (qD (qPM h0) rfl))
  ·rw [if_neg h0]
   obtain ⟨c,t,hct⟩:∃c t,s.toList=c::t:=by
    cases h:s.toList with
    |nil=>exact absurd h h0
    |cons c t=>exact ⟨c,t,rfl⟩
   have g1:s.toList[((0:Int)).toNat]?=some c:=by rw [hct];rfl
   have hl:s.size=t.length+1:=by rw [←qu,hct];rfl
   by_cases h61:s.toList.head?=some 61
   ·rw [if_pos h61]
    have hc:c=61:=by rw [hct] at h61;simpa using h61
    subst hc
    have ext:s.extract ((1:Int)).toNat (((s.size:Nat):Int)).toNat=BR s.toList.tail:=by
     conv=>lhs;rw [←qI7 s]
     rw [qFr,qc,hct]
     simp
    obtain ⟨n2,h2⟩:=qKi (BR s.toList.tail) (by rw [qc,hct];simp;omega)
    obtain ⟨n3,h3⟩:=qR0 (BR s.toList.tail)
    rw [←ext] at h2 h3⊢
    have fz:=qPL (qBZ (s.extract ((1:Int)).toNat (((s.size:Nat):Int)).toNat)).1
    have w1:IntKind.i64.wrap (((qDC (qBZ (s.extract ((1:Int)).toNat (((s.size:Nat):Int)).toNat)).1).size:Int)+1)=((qDC (qBZ (s.extract ((1:Int)).toNat (((s.size:Nat):Int)).toNat)).1).size:Int)+1:=qU (by omega)
    refine ⟨n1+n2+n3+1,fun n hn=>?_⟩
    obtain ⟨k,rfl,hm⟩:=up1 hn
    refine qA (h1 k (by omega)) (qO (qDA hp) (qO (qGr h0) (qD rfl (qA g1 (qD rfl (qD (zD ⟨by decide,by omega,Int.le_refl _⟩) (qA (h2 k (by omega)) (qA (h3 k (by omega)) ?_))))))))
    by_cases hr:(qBZ (s.extract ((1:Int)).toNat (((s.size:Nat):Int)).toNat)).2=true
    ·refine qO (qDA hr) ?_
     by_cases he:(qDC (qBZ (s.extract ((1:Int)).toNat (((s.size:Nat):Int)).toNat)).1).toList= []
     ·rw [if_neg (fun h=>h.2.1 he)]
      exact qD (qPM he) rfl
     ·refine qO (qGr he) ?_
      by_cases hz:(qDC (qBZ (s.extract ((1:Int)).toNat (((s.size:Nat):Int)).toNat)).1).size<200
      ·rw [if_pos ⟨hr,he,hz⟩]
       exact qO (zx (by rw [w1];omega)) (qD (zD (by show 1+(qDC (qBZ (s.extract ((1:Int)).toNat (((s.size:Nat):Int)).toNat)).1).size≤9223372036854775807;omega)) rfl)
      ·rw [if_neg (fun h=>hz h.2.2)]
       exact qD (zD (by rw [w1];omega)) rfl
    ·rw [if_neg (fun h=>hr h.1)]
     exact qD (qDv (by rw [Bool.eq_false_iff];exact hr)) rfl
   ·rw [if_neg h61]
    have hc:((c.toNat:Int)==61)=false:=by
     rw [beq_eq_false_iff_ne];intro e
     refine h61 ?_
     rw [hct,show c=61 from UInt8.toNat_inj.1 (show c.toNat=61 by omega)];rfl
    obtain ⟨r,r1,r2,n2,h2⟩:=qRV s.toList h0 (by rw [qu];omega)
    rw [qI7] at h2
    obtain ⟨n3,h3⟩:=qHB s (by omega)
    cases hn:qEz s.toList with
    |true=>
     rw [if_pos rfl]
     have er:=r2 hn
     subst er
     have hok:okV 1 (qJ6 s.toList) em=true:=by unfold qEz at hn;simp only [Bool.and_eq_true] at hn;exact hn.2
     obtain ⟨n4,h4⟩:=qDV 1 (qJ6 s.toList) em (by decide)
     rw [if_pos hok] at h4
     refine ⟨n1+n2+n4+1,fun n hn=>?_⟩
     obtain ⟨k,rfl,hm⟩:=up1 hn
     exact qA (h1 k (by omega)) (qO (qDA hp) (qO (qGr h0) (qD rfl (qA g1 (qO hc (qA (h2 k (by omega)) (qD rfl (qA (h4 k (by omega)) rfl))))))))
    |false=>
     rw [if_neg (by simp)]
     have rf:r.2.2.2=false:=by rw [r1];exact hn
     by_cases hv:(qi s).2.2.2=true
     ·rw [if_pos hv]
      obtain ⟨v1,v2⟩:=qRW hv
      obtain ⟨n4,h4⟩:=qDV (qi s).1 (qi s).2.1 (qi s).2.2.1 (by have:=qSr hv;omega)
      rw [if_pos v1,v2] at h4
      refine ⟨n1+n2+n3+n4+1,fun n hn=>?_⟩
      obtain ⟨k,rfl,hm⟩:=up1 hn
      exact qA (h1 k (by omega)) (qO (qDA hp) (qO (qGr h0) (qD rfl (qA g1 (qO hc (qA (h2 k (by omega)) (qO rf (qA (h3 k (by omega)) (qO (qDA hv) (qA (h4 k (by omega)) (qO (zx (by omega)) rfl)))))))))))
     ·rw [if_neg hv]
      obtain ⟨n4,h4⟩:=qDV 2 0 s (by omega)
      rw [if_pos (qU1 hp)] at h4
      have vz:=qTS s
      refine ⟨n1+n2+n3+n4+1,fun n hn=>?_⟩
      obtain ⟨k,rfl,hm⟩:=up1 hn
      refine qA (h1 k (by omega)) (qO (qDA hp) (qO (qGr h0) (qD rfl (qA g1 (qO hc (qA (h2 k (by omega)) (qO rf (qA (h3 k (by omega)) (qD (qDv (by rw [Bool.eq_false_iff];exact hv)) (qA (h4 k (by omega)) ?_))))))))))
      by_cases hz:s.size=200
      ·rw [if_pos hz]
       exact qD (zD (by omega)) rfl
      ·rw [if_neg hz]
       exact qO (zx (by omega)) rfl
theorem qRX (X:BA):Ev (qFn · ((qBZ X).1.map qb)) (⟨#[61]⟩++qDC (qBZ X).1,decide ((qDC (qBZ X).1).toList≠ [])&&decide ((qDC (qBZ X).1).size<200)):=by
 obtain ⟨n1,h1⟩:=qR1 X
 have fz:=qPL (qBZ X).1
 refine ⟨n1+1,fun n hn=>?_⟩
 obtain ⟨k,rfl,hm⟩:=up1 hn
 refine qA (h1 k (by omega)) (qD (zD (by show 1+(qDC (qBZ X).1).size≤9223372036854775807;omega)) ?_)
 by_cases he:(qDC (qBZ X).1).toList= []
 ·refine qO (qDA (qPM he)) ?_
  rw [qC,zx (fun h=>h he),Bool.false_and]
 ·refine qD (qDv (qGr he)) ?_
  rw [qC,zD he,Bool.true_and]
  have e:decide (((qDC (qBZ X).1).size:Int)<200)=decide ((qDC (qBZ X).1).size<200):=by rw [decide_eq_decide];omega
  exact congrArg (fun b:Bool=>some ((⟨#[61]⟩:BA)++qDC (qBZ X).1,b)) e
theorem qOF (s:BA) (hb:s.size≤140737488355328):Ev (qGe · s) (qDU s):=by
 obtain ⟨n1,h1⟩:=qI2 s 200 hb
 unfold qDU
 cases hp:qBd s 200 with
 |false=>
  rw [if_pos rfl]
  have h0:s.toList≠ []:=fun e=>by
   have:qBd s 200=true:=by
    unfold qBd
    have hz:s.size=0:=by rw [←qu,e];rfl
    rw [e,hz];rfl
   rw [hp] at this;cases this
  refine ⟨n1+1,fun n hn=>?_⟩
  obtain ⟨k,rfl,hm⟩:=up1 hn
  refine qA (h1 k (by omega)) (qD (qDv hp) ?_)
  rw [qC,qGr h0]
 |true=>
  rw [if_neg (by simp)]
  have hsz:=qIf hp
  by_cases h0:s.toList= []
  ·rw [if_pos h0]
   refine ⟨n1+1,fun n hn=>?_⟩
   obtain ⟨k,rfl,hm⟩:=up1 hn
   refine qA (h1 k (by omega)) (qO (qDA hp) (qD (qPM h0) ?_))
   rw [qC,qPM h0]
  ·rw [if_neg h0]
   obtain ⟨n2,h2⟩:=qF1 s 61
   by_cases h61:s.toList.head?=some 61
   ·rw [if_pos h61]
    rw [if_pos h61] at h2
    obtain ⟨n3,h3⟩:=qKh (BR s.toList.tail) (by rw [qc,List.length_tail,qu];omega)
    obtain ⟨n4,h4⟩:=qRX (BR s.toList.tail)
    change ∀n,n2≤n→qAF n s ⟨#[61]⟩=some (BR s.toList.tail,true) at h2
    generalize BR s.toList.tail=X at h2 h3 h4⊢
    refine ⟨n1+n2+n3+n4+1,fun n hn=>?_⟩
    obtain ⟨k,rfl,hm⟩:=up1 hn
    have h4:=h4 k (by omega)
    refine qA (h1 k (by omega)) (qO (qDA hp) (qO (qGr h0) (qA (h2 k (by omega)) (qD rfl (qA (h3 k (by omega)) (qA h4 ?_))))))
    by_cases hr:(qBZ X).2=true
    ·refine qO (qDA hr) ?_
     by_cases he:(qDC (qBZ X).1).toList≠ []∧(qDC (qBZ X).1).size<200
     ·rw [if_pos ⟨hr,he⟩]
      exact qO (qDA (by simp only;rw [zD he.1,zD he.2];rfl)) rfl
     ·rw [if_neg (fun h=>he h.2)]
      exact qD (qDv (by simp only;rw [Bool.eq_false_iff];intro e;simp only [Bool.and_eq_true,decide_eq_true_eq] at e;exact he e)) rfl
    ·rw [if_neg (fun h=>hr h.1)]
     exact qD (qDv (by rw [Bool.eq_false_iff];exact hr)) rfl
   ·rw [if_neg h61]
    rw [if_neg h61] at h2
    obtain ⟨n3,h3⟩:=qHA s (by omega)
    obtain ⟨n4,h4⟩:=qRS s.toList (by rw [qu];omega)
    rw [qI7] at h4
    have fin:∀k,n3≤k→(Tr.opt (qe k s) fun r=>(.ask (r.2.2.2) (.done (s,true)) (.ask (((s.size:Int)==(200:Int))) (.done ((⟨#[]⟩:BA),false)) (.ask (decide ((⟨#[39]⟩:BA).size+s.size≤9223372036854775807)) (.done (((⟨#[39]⟩:BA)++s),true)) .fail)))).run=some (if (qi s).2.2.2=true then (s,true) else if s.size=200 then ((⟨#[]⟩:BA),false) else (⟨#[39]⟩++s,true)):=fun k hk=>by
     refine qA (h3 k hk) ?_
     by_cases hv:(qi s).2.2.2=true
     ·rw [if_pos hv];exact qD hv rfl
     ·rw [if_neg hv]
      refine qO (by rw [Bool.eq_false_iff];exact hv) ?_
      by_cases hz:s.size=200
      ·rw [if_pos hz];exact qD (beq_iff_eq.2 (by omega)) rfl
      ·rw [if_neg hz]
       exact qO (beq_eq_false_iff_ne.2 (by omega)) (qD (zD (by show 1+s.size≤9223372036854775807;omega)) rfl)
    have hpi:∀k,qAX (k+1) s 10 64=zK s 10 64:=fun k=>rfl
    have hL:zK s 10 64=(match Lib.parseIntB 64 s.toList with
     | .ok v=>some (.inl v)
     | .range=>some (.inr (Lib.intSat 64 s.toList))
     |_=>some (.inr 0)):=by
     unfold zK
     rw [if_pos ⟨rfl,rfl,by omega⟩,Go.Lib.toList_data]
     cases Lib.parseIntB 64 s.data.toList<;>rfl
    rcases hq:Lib.parseIntB 64 s.toList with v|_|_
    rotate_left
    ·have hn:qEz s.toList=false:=by
      rw [Bool.eq_false_iff];intro e
      have hd:qPy s.toList=true:=by unfold qEz at e;simp only [Bool.and_eq_true] at e;exact e.1
      have:=(qNO hd).2 e
      rw [hq] at this;cases this
     rw [hn,if_neg (by simp)]
     rw [hq] at hL
     refine ⟨n1+n2+n3+2,fun n hn=>?_⟩
     obtain ⟨k,rfl,hm⟩:=up1 hn
     obtain ⟨k,rfl,hm⟩:=up1 (show n1+n2+n3+1≤k by omega)
     exact qA (h1 (k+1) (by omega)) (qO (qDA hp) (qO (qGr h0) (qA (h2 (k+1) (by omega)) (qO rfl (qA ((hpi k).trans hL) (qO rfl (fin (k+1) (by omega))))))))
    ·have hn:qEz s.toList=false:=by
      rw [Bool.eq_false_iff];intro e
      have hd:qPy s.toList=true:=by unfold qEz at e;simp only [Bool.and_eq_true] at e;exact e.1
      have:=(qNO hd).2 e
      rw [hq] at this;cases this
     rw [hn,if_neg (by simp)]
     rw [hq] at hL
     refine ⟨n1+n2+n3+2,fun n hn=>?_⟩
     obtain ⟨k,rfl,hm⟩:=up1 hn
     obtain ⟨k,rfl,hm⟩:=up1 (show n1+n2+n3+1≤k by omega)
     exact qA (h1 (k+1) (by omega)) (qO (qDA hp) (qO (qGr h0) (qA (h2 (k+1) (by omega)) (qO rfl (qA ((hpi k).trans hL) (qO rfl (fin (k+1) (by omega))))))))
    ·rw [hq] at hL
     cases hd:qPy s.toList with
     |false=>
      have hn:qEz s.toList=false:=by unfold qEz;rw [hd];rfl
      rw [hn,if_neg (by simp)]
      refine ⟨n1+n2+n3+n4+2,fun n hn=>?_⟩
      obtain ⟨k,rfl,hm⟩:=up1 hn
      obtain ⟨k,rfl,hm⟩:=up1 (show n1+n2+n3+n4+1≤k by omega)
      have h4:=h4 (k+1) (by omega)
      rw [hd] at h4
      exact qA (h1 (k+1) (by omega)) (qO (qDA hp) (qO (qGr h0) (qA (h2 (k+1) (by omega)) (qO rfl (qA ((hpi k).trans hL) (qD rfl (qA h4 (qO rfl (fin (k+1) (by omega))))))))))
     |true=>
      have hv:=(qNO hd).1 v hq
      subst hv
      obtain ⟨n5,h5⟩:=qJt (qJ6 s.toList)
      obtain ⟨n6,h6⟩:=qFp 1 (qJ6 s.toList) em (by decide)
      have ei:qEz s.toList=okV 1 (qJ6 s.toList) em:=by unfold qEz;rw [hd,Bool.true_and]
      rw [ei]
      cases ho:okV 1 (qJ6 s.toList) em with
      |true=>
       rw [if_pos rfl]
       have hb2:=qUU.1 ho
       obtain ⟨n7,h7⟩:=qEG (qJ6 s.toList) (by omega)
       refine ⟨n1+n2+n3+n4+n5+n6+n7+2,fun n hn=>?_⟩
       obtain ⟨k,rfl,hm⟩:=up1 hn
       obtain ⟨k,rfl,hm⟩:=up1 (show n1+n2+n3+n4+n5+n6+n7+1≤k by omega)
       have h4:=h4 (k+1) (by omega)
       rw [hd] at h4
       exact qA (h1 (k+1) (by omega)) (qO (qDA hp) (qO (qGr h0) (qA (h2 (k+1) (by omega)) (qO rfl (qA ((hpi k).trans hL) (qD rfl (qA h4 (qD rfl (qA (h5 (k+1) (by omega)) (qA (h6 (k+1) (by omega)) (qD ho (qA (h7 (k+1) (by omega)) rfl))))))))))))
      |false=>
       rw [if_neg (by simp)]
       refine ⟨n1+n2+n3+n4+n5+n6+2,fun n hn=>?_⟩
       obtain ⟨k,rfl,hm⟩:=up1 hn
       obtain ⟨k,rfl,hm⟩:=up1 (show n1+n2+n3+n4+n5+n6+1≤k by omega)
       have h4:=h4 (k+1) (by omega)
       rw [hd] at h4
       exact qA (h1 (k+1) (by omega)) (qO (qDA hp) (qO (qGr h0) (qA (h2 (k+1) (by omega)) (qO rfl (qA ((hpi k).trans hL) (qD rfl (qA h4 (qD rfl (qA (h5 (k+1) (by omega)) (qA (h6 (k+1) (by omega)) (qO ho (fin (k+1) (by omega)))))))))))))
abbrev Cl:=Int×Int×BA
def qSs (s:BA):Bool:=(qDU s).2&&(decide (s.toList≠ [])&&((qDU s).1.toList==s.toList))
theorem qNb (s:BA) (hb:s.size≤140737488355328):Ev (qDN · s) (qSs s):=by
 obtain ⟨n1,h1⟩:=qOF s hb
 refine ⟨n1+1,fun n hn=>?_⟩
 obtain ⟨k,rfl,hm⟩:=up1 hn
 refine qA (h1 k (by omega)) ?_
 unfold qSs
 by_cases h2:(qDU s).2=true
 ·refine qD h2 ?_
  rw [h2,Bool.true_and]
  by_cases h3:s.toList= []
  ·refine qO (qDA (qPM h3)) ?_
   rw [qC,zx (fun e=>e h3),Bool.false_and]
  ·refine qD (qDv (qGr h3)) ?_
   rw [qC,zD h3,Bool.true_and]
 ·have h2:(qDU s).2=false:=by rw [Bool.eq_false_iff];exact h2
  refine qO h2 ?_
  rw [qC,h2,Bool.false_and]
structure SrcAt (n:Nat) (c:Cl):Prop where
 r1:q9 n c.1 c.2.1=some (qA1 c.1 c.2.1)
 r2:qBV n c.1 c.2.1=some (qA1 c.1 c.2.1)
 i1:qC2 n c.2.2=some (qDU c.2.2)
 i2:qDN n c.2.2=some (qSs c.2.2)
def Fo (r:List UInt8):Prop:=∀c,r.head?=some c→c∈([38,43,45,42,47,60,61,62,41,44]:List UInt8)
def Sta (r:List UInt8):Prop:=∃c,r.head?=some c∧(wch c=true∨c=45∨c=40∨c=34∨c=35)
theorem qLX (a b:BA):(a++b).toList=a.toList++b.toList:=by rw [Go.Lib.toList_data,qDJ,Go.Lib.toList_data,Go.Lib.toList_data]
def lo (l:List Nd) (i:Int):Int:=qCp (qX l) (i.toNat+1) i
def tx (l:List Nd) (g:Nat) (i t:Int):List UInt8:=(qt l g i t).toList
structure RT (l:List Nd) (g:Nat) (i:Int):Prop where
 s:∀t,Sta (tx l g i t)
 c:∀(t:Int) (r:List UInt8),Fo r→∀d:UInt8,(d=58∨d=32)→(wr (tx l g i t++r)).head?≠some d
 u:∀(r:List UInt8) (deep:Int) (f:Nat),Fo r→0≤deep→deep+g≤400→20*(tx l g i 5++r).length+4≤f→pP f (.un deep) (tx l g i 5++r,false,l.take (lo l i).toNat)=(i,r,false,l.take (i.toNat+1))
 b:∀(t t':Int) (r:List UInt8) (deep:Int) (f:Nat),1≤t→t≤t'→t'≤5→Fo r→(qAy r=0∨lvl (qAy r)≤t')→0≤deep→deep+g≤400→20*(tx l g i t'++r).length+6≤f→
  ∃f2,20*r.length+5≤f2∧pP f (.bin t deep) (tx l g i t'++r,false,l.take (lo l i).toNat)=pP f2 (.loop t deep i) (r,false,l.take (i.toNat+1))
def Dwx {β:Type} (Q:β→Prop) (R:Nat→Tr β):Prop:=∃x,Q x∧Ev (fun n=>(R n).run) x
theorem qCB {α β:Type} {Q:β→Prop} {F:Nat→Option α} {r:α} {K:Nat→α→Tr β} (h:Ev F r) (hk:Dwx Q fun n=>K n r):Dwx Q fun n=> .opt (F n) (K n):=by
 obtain ⟨x,q,n1,h1⟩:=hk
 obtain ⟨n0,h0⟩:=h
 exact ⟨x,q,n0+n1,fun n hn=>qA (h0 n (by omega)) (h1 n (by omega))⟩
theorem qCE {β:Type} {Q:β→Prop} {b:Bool} {t e:Nat→Tr β} (h:b=true) (hk:Dwx Q t):Dwx Q fun n=> .ask b (t n) (e n):=by
 obtain ⟨x,q,n1,h1⟩:=hk
 exact ⟨x,q,n1,fun n hn=>qD h (h1 n hn)⟩
theorem qD9 {β:Type} {Q:β→Prop} {b:Bool} {t e:Nat→Tr β} (h:b=false) (hk:Dwx Q e):Dwx Q fun n=> .ask b (t n) (e n):=by
 obtain ⟨x,q,n1,h1⟩:=hk
 exact ⟨x,q,n1,fun n hn=>qO h (h1 n hn)⟩
theorem qAW {β:Type} {Q:β→Prop} {x:β} (h:Q x):Dwx Q fun _=> .done x:=⟨x,h,0,fun _ _=>rfl⟩
theorem qGs {β:Type} {Q:β→Prop} {F:Nat→Option β} {R:Nat→Tr β} (h:Dwx Q R) (hF:∀n,F (n+1)=(R n).run):∃x,Q x∧Ev F x:=by
 obtain ⟨x,q,n1,h1⟩:=h
 refine ⟨x,q,n1+1,fun n hn=>?_⟩
 obtain ⟨m,rfl,hm⟩:=up1 hn
 rw [hF]
 exact h1 m hm
theorem qJ7 {β:Type} {F:Nat→Option β} {x:β} (h:∃y,y=x∧Ev F y):Ev F x:=by
 obtain ⟨y,rfl,h⟩:=h
 exact h
theorem qTT {s:BA} (h:s.toList.all okc=true) (h2:s.size≤200):qBd s 200=true:=by
 unfold qBd
 rw [h,Bool.true_and,decide_eq_true_eq]
 omega
def qPN {α R:Type} (f:Nat→α→Option R):Nat→List α→Option R
 |_,[]=>none
 |i,a::r=>match f i a with
  |some x=>some x
  |none=>qPN f (i+1) r
theorem qSt {V R α:Type} {B:V→Tr (V⊕R)} (st:Nat→V) (l:List α) (f:Nat→α→Option R) (z:R) (hs:∀i a,l[i]?=some a→(B (st i)).run=some (match f i a with|some r=> .inr r|none=> .inl (st (i+1))))
  (he:(B (st l.length)).run=some (.inr z)):∀(M:Nat),l.length+1≤M→zF B M (st 0)=some ((qPN f 0 l).getD z):=by
 have key:∀(r:List α) (i M:Nat),l.drop i=r→i+r.length=l.length→r.length+1≤M→zF B M (st i)=some ((qPN f i r).getD z):=by
  intro r
  induction r with
  |nil=>
   intro i M h1 h2 h3
   obtain ⟨M,rfl⟩:∃q,M=q+1:=⟨M-1,by omega⟩
   have e:i=l.length:=by simpa using h2
   subst e
   rw [qP he]
   rfl
  |cons a r ih=>
   intro i M h1 h2 h3
   obtain ⟨M,rfl⟩:∃q,M=q+1:=⟨M-1,by omega⟩
   have hg:l[i]?=some a:=by rw [←List.head?_drop,h1];rfl
   have hd:l.drop (i+1)=r:=by rw [←List.tail_drop,h1];rfl
   have h4:=hs i a hg
   simp only [List.length_cons] at h2 h3
   unfold qPN
   cases hf:f i a with
   |some x=>rw [hf] at h4;rw [qP h4];rfl
   |none=>rw [hf] at h4;rw [qT h4];exact ih (i+1) M hd (by omega) (by omega)
 exact fun M h=>key l 0 M rfl (by omega) h
def qF6 {α:Type} (p:Nat→α→Bool):Nat→List α→Bool
 |_,[]=>true
 |i,a::r=>p i a&&qF6 p (i+1) r
theorem qPO {α R:Type} {p:Nat→α→Bool} {e:R}:∀{l:List α} {i:Nat},qPN (fun i a=>if p i a=true then none else some e) i l=if qF6 p i l=true then none else some e
 | [],i=>rfl
 |a::r,i=>by
  unfold qPN qF6
  cases p i a with
  |true=>simp only [if_true,Bool.true_and];exact qPO
  |false=>rfl
theorem qNP {i:Nat} {k:Int} {l:List (List PV)} {e:List PV} (hk:k=(i:Int)) (h:l[i]?=some e):decide (0≤k∧k<l.length)=true∧l[k.toNat]?=some e:=by
 subst hk
 have:=(List.getElem?_eq_some_iff.1 h).1
 exact ⟨zD (by omega),by rw [Int.toNat_natCast];exact h⟩
abbrev Sm:=Int×Int×Int×BA×Int
def qv (c:Sm):List PV:= [.i .i64 c.1,.i .i64 c.2.1,.i .i64 c.2.2.1,.s c.2.2.2.1,.i .i64 c.2.2.2.2]
theorem qUX {l:List Sm} {i:Nat} {e:List PV} (h:(l.map qv)[i]?=some e):∃c,l[i]?=some c∧e=qv c:=by
 rw [List.getElem?_map] at h
 obtain ⟨c,hc,rfl⟩:=Option.map_eq_some_iff.1 h
 exact ⟨c,hc,rfl⟩
def qLY (s:BA):Bool:=(qDU s).2&&((qDU s).1.toList==s.toList)
def wrS (s:BA):Bool:=qLY (⟨#[61]⟩++s)
def inZ (x lo hi:Int):Bool:=decide (lo≤x∧x≤hi)
def stB (n:Nat) (i:Nat) (c:Sm):Bool:=
 if c.1=1 then qA1 c.2.1 c.2.2.1&&(wrS c.2.2.2.1&&c.2.2.2.2==0) else
 if c.1=2 then qA1 c.2.1 c.2.2.1&&(qLY c.2.2.2.1&&c.2.2.2.2==0) else
 if c.1=3 then (c.2.1==0&&c.2.2.1==0)&&(wrS c.2.2.2.1&&inZ c.2.2.2.2 1 ((n:Int)-1-(i:Int))) else
 if c.1=4 then (c.2.1==0&&c.2.2.1==0)&&(wrS c.2.2.2.1&&inZ c.2.2.2.2 1 (i:Int)) else
 if c.1=5 then (c.2.1==0&&c.2.2.1==0)&&(wrS c.2.2.2.1&&c.2.2.2.2==0) else false
def qDl (l:List Sm):Bool:=qF6 (stB l.length) 0 l&&decide ((l.length:Int)≤30)
theorem qUv (s:BA):(⟨#[61]⟩++s:BA).toList≠ []:=by
 have e:(⟨#[61]⟩:BA).toList= [61]:=by decide+kernel
 rw [qLX,e]
 exact List.cons_ne_nil _ _
theorem qRY {s:BA} (hb:s.size≤140737488351232):(⟨#[61]⟩++s:BA).size≤140737488355328∧decide ((⟨#[61]⟩:BA).size+s.size≤9223372036854775807)=true:=by
 have e:(⟨#[61]⟩:BA).size=1:=rfl
 rw [zh,e]
 exact ⟨by omega,zD (by omega)⟩
theorem qQy (s:BA) (hb:s.size≤140737488351232):Ev (qCD · s) (wrS s):=by
 refine qJ7 (qGs (R:=fun n=>qFD n s) (qCE (qRY hb).2 (qCB (qNb _ (qRY hb).1) (qAW ?_))) fun n=>rfl)
 unfold qSs wrS qLY
 rw [zD (qUv s),Bool.true_and]
theorem qPz (s:BA) (hb:s.size≤140737488351232):Ev (qBU · s) (wrS s):=by
 refine qJ7 (qGs (R:=fun n=>qEg n s) (qCE (qRY hb).2 (qCB (qI8 _ (qRY hb).1) ?_)) fun n=>rfl)
 unfold wrS qLY
 cases h:(qDU (⟨#[61]⟩++s)).2 with
 |true=>exact qCE rfl (qCE (qRY hb).2 (qAW rfl))
 |false=>exact qD9 rfl (qAW rfl)
theorem qNc (x a b:Int):Ev (qAG · x a b) (inZ x a b):=by
 have h:=qAI x a b
 have e:inZ x a b=decide (a≤x∧x≤b):=rfl
 rw [e]
 exact h
theorem qNd (x a b:Int):Ev (qAj · x a b) (inZ x a b):=by
 have h:=qB7 x a b
 have e:inZ x a b=decide (a≤x∧x≤b):=rfl
 rw [e]
 exact h
theorem nb {a b:Int} (h:¬a=b):(a==b)=false:=beq_eq_false_iff_ne.2 h
theorem qSu (n:Nat) (c:Sm) (i:Nat) (hb:c.2.2.2.1.size≤140737488351232):Ev (qDI · c.1 c.2.1 c.2.2.1 c.2.2.2.1 c.2.2.2.2 (i:Int) ((n:Int)-1-(i:Int))) (stB n i c):=by
 obtain ⟨k,a,b,s,m⟩:=c
 refine qJ7 (qGs (R:=fun q=>qEP q k a b s m (i:Int) ((n:Int)-1-(i:Int))) ?_ fun q=>rfl)
 unfold stB
 dsimp only
 have w:=qQy s hb
 by_cases k1:k=1
 ·subst k1
  refine qCE rfl (qCB (qCn a b) ?_)
  rw [if_pos rfl]
  cases qA1 a b with
  |false=>exact qD9 rfl (qAW rfl)
  |true=>
   refine qCE rfl (qCB w ?_)
   cases wrS s with
   |false=>exact qD9 rfl (qAW rfl)
   |true=>exact qCE rfl (qAW rfl)
 rw [if_neg k1]
 refine qD9 (nb k1) ?_
 by_cases k2:k=2
 ·subst k2
  refine qCE rfl (qCB (qCn a b) ?_)
  rw [if_pos rfl]
  cases qA1 a b with
  |false=>exact qD9 rfl (qAW rfl)
  |true=>
   refine qCE rfl ?_
   by_cases hs:s.toList= []
   ·refine qCE (qPM hs) (qAW ?_)
    have e:qLY s=true:=by
     unfold qLY qDU
     have hp:qBd s 200=true:=qTT (by rw [hs];rfl) (by have:=qu s;rw [hs] at this;simp at this;omega)
     rw [if_neg (by rw [hp];simp),if_pos hs,hs]
     show (true&&((⟨#[]⟩:BA).toList== []))=true
     rw [qp]
     rfl
    rw [e]
    simp
   ·refine qD9 (qGr hs) (qCB (qNb s (by have:s.size≤140737488351232:=hb;omega)) ?_)
    have e:qSs s=qLY s:=by unfold qSs qLY;rw [zD hs,Bool.true_and]
    rw [e]
    cases qLY s with
    |false=>exact qD9 rfl (qAW rfl)
    |true=>exact qCE rfl (qAW rfl)
 rw [if_neg k2]
 refine qD9 (nb k2) ?_
 have zz:∀{X:Bool} {t:Nat→Tr Bool},Dwx (fun y=>y=X) t→Dwx (fun y=>y=((a==0&&b==0)&&X)) fun q=> .ask ((a==(0:Int))&&((b==(0:Int))&&true)) (t q) (.done false):=fun {X t} h=>by
  rw [Bool.and_true]
  cases a==0&&b==0 with
  |false=>exact qD9 rfl (qAW rfl)
  |true=>exact qCE rfl (by simpa using h)
 by_cases k3:k=3
 ·subst k3
  rw [if_pos rfl]
  refine qCE rfl (zz (qCB w ?_))
  cases wrS s with
  |false=>exact qD9 rfl (qAW rfl)
  |true=>exact qCE rfl (qCB (qNc m 1 _) (qAW rfl))
 rw [if_neg k3]
 refine qD9 (nb k3) ?_
 by_cases k4:k=4
 ·subst k4
  rw [if_pos rfl]
  refine qCE rfl (zz (qCB w ?_))
  cases wrS s with
  |false=>exact qD9 rfl (qAW rfl)
  |true=>exact qCE rfl (qCB (qNc m 1 _) (qAW rfl))
 rw [if_neg k4]
 refine qD9 (nb k4) ?_
 by_cases k5:k=5
 ·subst k5
  rw [if_pos rfl]
  refine qCE rfl (zz (qCB w ?_))
  cases wrS s with
  |false=>exact qD9 rfl (qAW rfl)
  |true=>exact qCE rfl (qAW rfl)
 rw [if_neg k5]
 exact qD9 (nb k5) (qAW rfl)
theorem qSY {α R:Type} {F:Nat→α→Nat→Option R} {f:Nat→α→R}:∀(l:List α) (i:Nat),(∀i,∀c∈l,Ev (F i c) (f i c))→∃n0,∀n,n0≤n→∀j c,l[j]?=some c→F (i+j) c n=some (f (i+j) c)
 | [],i,_=>⟨0,fun n _ j c hc=>by simp at hc⟩
 |a::l,i,h=>by
  obtain ⟨n1,h1⟩:=h i a (List.mem_cons_self ..)
  obtain ⟨n2,h2⟩:=qSY l (i+1) fun i c hc=>h i c (List.mem_cons_of_mem _ hc)
  refine ⟨n1+n2,fun n hn j c hc=>?_⟩
  cases j with
  |zero=>simp at hc;subst hc;exact h1 n (by omega)
  |succ j=>have:=h2 n (by omega) j c (by simpa using hc);rw [show i+(j+1)=i+1+j by omega];exact this
theorem qOG (l:List Sm) (hb:l.length≤140737488351232) (hs:∀c∈l,c.2.2.2.1.size≤140737488351232):Ev (qGf · (l.map qv)) (qDl l):=by
 obtain ⟨n0,h0⟩:=qSY (F:=fun i (c:Sm) n=>qDI n c.1 c.2.1 c.2.2.1 c.2.2.2.1 c.2.2.2.2 (i:Int) ((l.length:Int)-1-(i:Int))) (f:=stB l.length) l 0 fun i c hc=>qSu l.length c i (hs c hc)
 refine ⟨n0+l.length+3,fun n hn=>?_⟩
 obtain ⟨m,rfl,hm⟩:=up1 hn
 have h:=qSt (B:=qEt m) (fun i=>(l.map qv,l.map qv,((l.map qv).length:Int),(i:Int))) l (fun i c=>if stB l.length i c=true then none else some (.inl false)) (.inr (l.map qv))
  (fun i c he=>by
   have hi:=(List.getElem?_eq_some_iff.1 he).1
   have hg:(l.map qv)[i]?=some (qv c):=by rw [List.getElem?_map,he];rfl
   obtain ⟨a1,a2⟩:=qNP rfl hg
   have h1:=h0 m (by omega) i c he
   rw [Nat.zero_add] at h1
   have w1:IntKind.i64.wrap (IntKind.i64.wrap (((l.map qv).length:Int)-1)-(i:Int))=(l.length:Int)-1-(i:Int):=by
    rw [List.length_map,qU (x:=(l.length:Int)-1) (by omega),qU (by omega)]
   refine qD (zD (by simpa using hi)) (qD a1 (qA a2 (qD rfl (qA rfl (qA rfl (qA rfl (qA rfl (qA rfl ?_))))))))
   rw [w1]
   refine qA h1 ?_
   cases stB l.length i c with
   |true=>refine qO rfl ?_;dsimp only;rw [qU (by omega)];rfl
   |false=>exact qD rfl rfl)
  (qO (zx (by simp)) rfl) m (by omega)
 refine qA h ?_
 rw [qPO]
 unfold qDl
 cases qF6 (stB l.length) 0 l with
 |true=>simp [qC,qE,qJ,qK,qM,qN,zC,qF,qG,qH]
 |false=>rfl
theorem qI9 (l:List Sm) (hb:l.length≤140737488351232) (hs:∀c∈l,c.2.2.2.1.size≤140737488351232):Ev (qEi · (l.map qv)) (qDl l):=by
 by_cases h30:(l.length:Int)>30
 ·refine qJ7 (qGs (R:=fun q=>qGL q (l.map qv)) (qCE (zD (by simpa using h30)) (qAW ?_)) fun q=>rfl)
  unfold qDl
  rw [zx (by omega),Bool.and_false]
 obtain ⟨n1,h1⟩:=qAt (F:=fun (c:Sm) n=>q9 n c.2.1 c.2.2.1) (f:=fun c=>qA1 c.2.1 c.2.2.1) l fun c hc=>qCm c.2.1 c.2.2.1
 obtain ⟨n2,h2⟩:=qAt (F:=fun (c:Sm) n=>qBU n c.2.2.2.1) (f:=fun c=>wrS c.2.2.2.1) l fun c hc=>qPz c.2.2.2.1 (hs c hc)
 obtain ⟨n3,h3⟩:=qAt (F:=fun (c:Sm) n=>qC2 n c.2.2.2.1) (f:=fun c=>qDU c.2.2.2.1) l fun c hc=>qI8 c.2.2.2.1 (by have:=hs c hc;omega)
 obtain ⟨n4,h4⟩:=qSY (F:=fun i (c:Sm) n=>qAj n c.2.2.2.2 1 ((l.length:Int)-1-(i:Int))) (f:=fun i c=>inZ c.2.2.2.2 1 ((l.length:Int)-1-(i:Int))) l 0 fun i c hc=>qNd c.2.2.2.2 1 ((l.length:Int)-1-(i:Int))
 obtain ⟨n5,h5⟩:=qSY (F:=fun i (c:Sm) n=>qAj n c.2.2.2.2 1 (i:Int)) (f:=fun i c=>inZ c.2.2.2.2 1 (i:Int)) l 0 fun i c hc=>qNd c.2.2.2.2 1 (i:Int)
 refine ⟨n1+n2+n3+n4+n5+l.length+3,fun n hn=>?_⟩
 obtain ⟨m,rfl,hm⟩:=up1 hn
 have h:=qSt (B:=qEh m) (fun i=>(l.map qv,(i:Int))) l (fun i c=>if stB l.length i c=true then none else some (.inl false)) (.inr ())
  (fun i c he=>by
   have hi:=(List.getElem?_eq_some_iff.1 he).1
   have hmem:=zy he
   have hg:(l.map qv)[i]?=some (qv c):=by rw [List.getElem?_map,he];rfl
   obtain ⟨a1,a2⟩:=qNP rfl hg
   have h1:=h1 m (by omega) c hmem
   have h2:=h2 m (by omega) c hmem
   have h3:=h3 m (by omega) c hmem
   have h4:=h4 m (by omega) i c he
   have h5:=h5 m (by omega) i c he
   rw [Nat.zero_add] at h4 h5
   obtain ⟨k,a,b,s,q⟩:=c
   dsimp only at h1 h2 h3 h4 h5
   have w1:IntKind.i64.wrap (IntKind.i64.wrap (((l.map qv).length:Int)-1)-(i:Int))=(l.length:Int)-1-(i:Int):=by
    rw [List.length_map,qU (x:=(l.length:Int)-1) (by omega),qU (by omega)]
   have w2:IntKind.i64.wrap ((i:Int)+1)=((i+1:Nat):Int):=by rw [qU (by omega)];omega
   refine qD (zD (by simpa using hi)) (qD a1 (qA a2 (qD rfl (qA rfl (qA rfl (qA rfl (qA rfl (qA rfl ?_))))))))
   dsimp only
   rw [w1,w2]
   unfold stB
   dsimp only
   by_cases k1:k=1
   ·subst k1
    refine qD rfl (qA h1 ?_)
    rw [if_pos rfl]
    cases qA1 a b with
    |false=>exact qD rfl rfl
    |true=>
     refine qO rfl ?_
     by_cases q0:q=0
     ·subst q0
      refine qO rfl (qA h2 ?_)
      cases wrS s with
      |false=>exact qD rfl rfl
      |true=>exact qO rfl rfl
     ·refine qD (bne_iff_ne.2 q0) ?_
      rw [nb q0,Bool.and_false,Bool.and_false]
      rfl
   rw [if_neg k1]
   refine qO (nb k1) ?_
   by_cases k2:k=2
   ·subst k2
    refine qD rfl (qA h3 (qA h1 ?_))
    rw [if_pos rfl]
    cases qA1 a b with
    |false=>exact qD rfl rfl
    |true=>
     refine qO rfl ?_
     by_cases q0:q=0
     ·subst q0
      refine qO rfl ?_
      unfold qLY
      cases hq:(qDU s).2 with
      |false=>exact qD rfl rfl
      |true=>
       refine qO rfl ?_
       cases hq2:(qDU s).1.toList==s.toList with
       |false=>exact qD rfl rfl
       |true=>exact qO rfl rfl
     ·refine qD (bne_iff_ne.2 q0) ?_
      rw [nb q0,Bool.and_false,Bool.and_false]
      rfl
   rw [if_neg k2]
   refine qO (nb k2) ?_
   rw [Bool.and_true]
   by_cases k3:k=3
   ·subst k3
    rw [if_pos rfl]
    refine qD rfl ?_
    cases a==0&&b==0 with
    |false=>exact qD rfl rfl
    |true=>
     refine qO rfl (qA h4 ?_)
     cases inZ q 1 ((l.length:Int)-1-(i:Int)) with
     |false=>refine qD rfl ?_;rw [Bool.and_false,Bool.and_false];rfl
     |true=>
      refine qO rfl (qA h2 ?_)
      cases wrS s with
      |false=>exact qD rfl rfl
      |true=>exact qO rfl rfl
   rw [if_neg k3]
   refine qO (nb k3) ?_
   by_cases k4:k=4
   ·subst k4
    rw [if_pos rfl]
    refine qD rfl ?_
    cases a==0&&b==0 with
    |false=>exact qD rfl rfl
    |true=>
     refine qO rfl (qA h5 ?_)
     cases inZ q 1 (i:Int) with
     |false=>refine qD rfl ?_;rw [Bool.and_false,Bool.and_false];rfl
     |true=>
      refine qO rfl (qA h2 ?_)
      cases wrS s with
      |false=>exact qD rfl rfl
      |true=>exact qO rfl rfl
   rw [if_neg k4]
   refine qO (nb k4) ?_
   by_cases k5:k=5
   ·subst k5
    rw [if_pos rfl]
    refine qD rfl ?_
    cases a==0&&b==0 with
    |false=>exact qD rfl rfl
    |true=>
     refine qO rfl ?_
     by_cases q0:q=0
     ·subst q0
      refine qO rfl (qA h2 ?_)
      cases wrS s with
      |false=>exact qD rfl rfl
      |true=>exact qO rfl rfl
     ·refine qD (bne_iff_ne.2 q0) ?_
      rw [nb q0,Bool.and_false,Bool.and_false]
      rfl
   rw [if_neg k5]
   exact qO (nb k5) rfl)
  (qO (zx (by simp)) rfl) m (by omega)
 refine qO (zx (by simpa using h30)) (qA h ?_)
 rw [qPO]
 unfold qDl
 rw [zD (by omega),Bool.and_true]
 cases qF6 (stB l.length) 0 l<;>rfl
theorem qOH (l:List Sm) (hb:l.length≤140737488351232):Ev (qDh · (l.map qv) (l.map qv)) true:=by
 refine ⟨l.length+5,fun n hn=>?_⟩
 obtain ⟨m,rfl,hm⟩:=up1 hn
 simp only [qDh,qGh,qC,qE,qJ,qK,qM,qN,zC,qF,qG,qH]
 have h:=qSC (B:=qCe m) (rows:=l.map qv) (r:= .inr ())
  (fun i e he=>by
   obtain ⟨c,hc,rfl⟩:=qUX he
   have hi:i<l.length:=(List.getElem?_eq_some_iff.1 hc).1
   have hi':(i:Int)<l.length:=by omega
   obtain ⟨q,rfl⟩:∃q,m=q+2:=⟨m-2,by omega⟩
   have hw:IntKind.i64.wrap ((i:Int)+1)=(i:Int)+1:=qU (by omega)
   have un:∀(a b c:Int) (s:BA) (d:Int),qFT (q+2) a b c s d a b c s d=some true:=fun a b c s d=>by simp [qFT,qHa,qIY,qIX,qC,qE,qJ,qK,qM,qN,zC,qF,qG,qH]
   simp [qCe,qC,qE,qJ,qK,qM,qN,zC,qF,qG,qH,hi',hc,qv,zI,zAG,un,hw])
  (by simp [qCe,qC,qE,qJ,qK,qM,qN,zC,qF,qG,qH]) l.length 0 m (by simp) (by omega)
 simp only [Int.natCast_zero] at h
 simp [h,qC,qE,qJ,qK,qM,qN,zC,qF,qG,qH]
theorem qUY {α β γ:Type} {Q:α→Prop} {x:γ} {K:Nat→β→Tr α} {L:Nat→γ→Tr α} (h:Dwx Q fun n=>L n x):Dwx Q fun n=> .alt (Sum.inr x) (K n) (L n):=h
theorem qUZ {α β γ:Type} {Q:α→Prop} {x:β} {K:Nat→β→Tr α} {L:Nat→γ→Tr α} (h:Dwx Q fun n=>K n x):Dwx Q fun n=> .alt (Sum.inl x) (K n) (L n):=h
theorem qIE {α R:Type}:∀(l:List α) (i:Nat),qPN (fun (_:Nat) (_:α)=>(none:Option R)) i l=none
 | [],i=>rfl
 |a::l,i=>qIE l (i+1)
def plB (c:Nd):Bool:=if c.1=2 then qA1 c.2.2.2.2.2.1 c.2.2.2.2.2.2.1 else if c.1=3 then qFq c.2.2.2.2.2.1 c.2.2.2.2.2.2.1 c.2.2.2.2.2.2.2.2.2.1 c.2.2.2.2.2.2.2.2.2.2.1 else true
structure PlaceCh (f:Nd→Nd):Prop where
 k:∀c,(f c).1=c.1
 n:∀c,qE0 c=true→c.1=2∨c.1=3→qE0 (f c)=plB (f c)
 kd:∀c,kd (f c)=kd c
abbrev Vs:=Int×List Int×List Cl
abbrev Br:=BA×Int
theorem qSZ {α:Type} {enc:α→List PV} {l:List α} {i:Nat} {a:α} (h:l[i]?=some a):(l.map enc)[i]?=some (enc a):=by rw [List.getElem?_map,h];rfl
inductive Rch (sc:Nat→List Nat) (a:Nat):Nat→Prop
 |one {j:Nat}:j∈sc a→Rch sc a j
 |more {i j:Nat}:Rch sc a i→j∈sc i→Rch sc a j
def qIg (Q:List Nat):List Nat→List Nat
 | []=>Q
 |x::M=>qIg (if Q.contains x=true then Q else Q++ [x]) M
theorem qFN {x:Nat}:∀(M Q:List Nat),x∈qIg Q M↔x∈Q∨x∈M
 | [],Q=>by simp [qIg]
 |y::M,Q=>by
  unfold qIg
  rw [qFN M]
  by_cases h:Q.contains y=true
  ·rw [if_pos h]
   have hy:y∈Q:=by simpa using h
   rw [List.mem_cons]
   constructor
   ·rintro (h|h)
    ·exact .inl h
    ·exact .inr (.inr h)
   ·rintro (h|rfl|h)
    ·exact .inl h
    ·exact .inl hy
    ·exact .inr h
  ·rw [if_neg h,List.mem_append,List.mem_singleton,List.mem_cons,or_assoc]
theorem qML:∀(M Q:List Nat),Q.Nodup→(qIg Q M).Nodup
 | [],Q,h=>h
 |y::M,Q,h=>by
  unfold qIg
  refine qML M _ ?_
  by_cases hy:Q.contains y=true
  ·rw [if_pos hy];exact h
  ·rw [if_neg hy]
   have hy':y∉Q:=by simpa using hy
   rw [List.nodup_append]
   refine ⟨h,by simp,fun a ha b hb=>?_⟩
   rw [List.mem_singleton] at hb
   subst hb
   rintro rfl
   exact hy' ha
theorem qLZ:∀(M Q:List Nat) (k:Nat),k<Q.length→(qIg Q M)[k]?=Q[k]?
 | [],Q,k,h=>rfl
 |y::M,Q,k,h=>by
  unfold qIg
  by_cases hy:Q.contains y=true
  ·rw [if_pos hy];exact qLZ M Q k h
  ·rw [if_neg hy,qLZ M _ k (by simp;omega),List.getElem?_append_left h]
theorem qR2:∀(n:Nat) (l:List Nat),l.Nodup→(∀x∈l,x<n)→l.length≤n
 |0,l,_,h=>by
  cases l with
  |nil=>simp
  |cons a l=>exact absurd (h a (List.mem_cons_self ..)) (Nat.not_lt_zero a)
 |n+1,l,hd,h=>by
  by_cases hn:n∈l
  ·have h1:=qR2 n (l.erase n) (hd.erase n) fun x hx=>by
    have h2:=(hd.mem_erase_iff).1 hx
    have:=h x h2.2
    omega
   rw [List.length_erase_of_mem hn] at h1
   omega
  ·have:=qR2 n l hd fun x hx=>by
    have h2:=h x hx
    have h3:x≠n:=fun e=>hn (e▸hx)
    omega
   omega
structure QI (sc:Nat→List Nat) (a n:Nat) (Q:List Nat) (k:Nat):Prop where
 nd:Q.Nodup
 lt:∀x∈Q,x<n
 rc:∀x∈Q,Rch sc a x
 st:∀j∈sc a,j∈Q
 dn:∀i q,i<k→Q[i]?=some q→q≠a∧∀j∈sc q,j∈Q
theorem QI.len {sc:Nat→List Nat} {a n:Nat} {Q:List Nat} {k:Nat} (h:QI sc a n Q k):Q.length≤n:=qR2 n Q h.nd h.lt
theorem QI.all {sc:Nat→List Nat} {a n:Nat} {Q:List Nat} (h:QI sc a n Q Q.length):¬Rch sc a a:=by
 have key:∀x,Rch sc a x→x∈Q:=fun x hx=>by
  induction hx with
  |one h1=>exact h.st _ h1
  |more h1 h2 ih=>
   obtain ⟨i,hi,e⟩:=List.mem_iff_getElem.1 ih
   exact (h.dn i _ hi (by rw [ze hi,e])).2 _ h2
 intro hr
 obtain ⟨i,hi,e⟩:=List.mem_iff_getElem.1 (key a hr)
 exact (h.dn i _ hi (by rw [ze hi,e])).1 rfl
theorem QI.next {sc:Nat→List Nat} {a n:Nat} {Q:List Nat} {k q:Nat} (h:QI sc a n Q k) (hq:Q[k]?=some q) (hne:q≠a) (hs:∀j∈sc q,j<n):QI sc a n (qIg Q (sc q)) (k+1):=by
 have hk:=(List.getElem?_eq_some_iff.1 hq).1
 have hm:=zy hq
 refine ⟨qML _ _ h.nd,fun x hx=>?_,fun x hx=>?_,fun j hj=>(qFN _ _).2 (.inl (h.st j hj)),fun i r hi hr=>?_⟩
 ·rcases (qFN _ _).1 hx with hx|hx
  ·exact h.lt x hx
  ·exact hs x hx
 ·rcases (qFN _ _).1 hx with hx|hx
  ·exact h.rc x hx
  ·exact .more (h.rc q hm) hx
 ·rw [qLZ _ _ i (by omega)] at hr
  by_cases e:i=k
  ·subst e
   rw [hq] at hr
   cases hr
   exact ⟨hne,fun j hj=>(qFN _ _).2 (.inr hj)⟩
  ·obtain ⟨h1,h2⟩:=h.dn i r (by omega) hr
   exact ⟨h1,fun j hj=>(qFN _ _).2 (.inl (h2 j hj))⟩
theorem QI.start {sc:Nat→List Nat} {a n:Nat} (hd:(sc a).Nodup) (hs:∀j∈sc a,j<n):QI sc a n (sc a) 0:=⟨hd,hs,fun x hx=> .one hx,fun j hj=>hj,fun i q hi=>absurd hi (Nat.not_lt_zero i)⟩
structure MI (sc:Nat→List Nat) (a n:Nat) (met:List Bool) (Q:List Nat) (k:Nat):Prop where
 ln:met.length=n
 kl:k≤Q.length
 lt:∀x∈Q,x<n
 rc:∀x∈Q,Rch sc a x
 st:∀j∈sc a,j∈Q
 mt:∀i,met[i]?=some true→∀j∈sc i,j∈Q
 dn:∀i q,i<k→Q[i]?=some q→q≠a∧met[q]?=some true
theorem MI.all {sc:Nat→List Nat} {a n:Nat} {met:List Bool} {Q:List Nat} (h:MI sc a n met Q Q.length):¬Rch sc a a:=by
 have key:∀x,Rch sc a x→x∈Q:=fun x hx=>by
  induction hx with
  |one h1=>exact h.st _ h1
  |more h1 h2 ih=>
   obtain ⟨i,hi,e⟩:=List.mem_iff_getElem.1 ih
   exact h.mt _ (h.dn i _ hi (by rw [ze hi,e])).2 _ h2
 intro hr
 obtain ⟨i,hi,e⟩:=List.mem_iff_getElem.1 (key a hr)
 exact (h.dn i _ hi (by rw [ze hi,e])).1 rfl
theorem MI.start {sc:Nat→List Nat} {a n:Nat} (hs:∀j∈sc a,j<n):MI sc a n (List.replicate n false) (sc a) 0:=⟨by simp,Nat.zero_le _,hs,fun x hx=> .one hx,fun j hj=>hj,fun i hi=>by
 obtain ⟨h1,h2⟩:=List.getElem?_eq_some_iff.1 hi
 simp at h2,fun i q hi=>absurd hi (Nat.not_lt_zero i)⟩
inductive Tch (bs:Nat→Prop) (sc:Nat→List Nat):Nat→Prop
 |zero {i:Nat}:bs i→Tch bs sc i
 |lean {i k:Nat}:k∈sc i→Tch bs sc k→Tch bs sc i
structure TI (bs:Nat→Prop) (sc:Nat→List Nat) (n:Nat) (o:List Bool):Prop where
 ln:o.length=n
 ok:∀i,o[i]?=some true→Tch bs sc i
 st:∀i,i<n→bs i→o[i]?=some true
theorem TI.set {bs:Nat→Prop} {sc:Nat→List Nat} {n:Nat} {o:List Bool} (h:TI bs sc n o) {i k:Nat} (hk:k∈sc i) (ho:o[k]?=some true):TI bs sc n (o.set i true):=by
 refine ⟨by rw [List.length_set];exact h.ln,fun j hj=>?_,fun j hj hb=>?_⟩
 ·by_cases e:i=j
  ·subst e;exact .lean hk (h.ok k ho)
  ·rw [List.getElem?_set_ne e] at hj;exact h.ok j hj
 ·by_cases e:i=j
  ·subst e;exact List.getElem?_set_self (by rw [h.ln];exact hj)
  ·rw [List.getElem?_set_ne e];exact h.st j hj hb
theorem TI.all {bs:Nat→Prop} {sc:Nat→List Nat} {n:Nat} {o:List Bool} (h:TI bs sc n o) (hn:∀i,∀k∈sc i,k<n) (hc:∀i,i<n→∀k∈sc i,o[k]?=some true→o[i]?=some true) {i:Nat} (hi:i<n):o[i]?=some true↔Tch bs sc i:=by
 refine ⟨h.ok i,fun ht=>?_⟩
 induction ht with
 |zero hb=>exact h.st _ hi hb
 |lean hk _ ih=>exact hc _ hi _ hk (ih (hn _ _ hk))
structure SI (hr b2:Nat→Bool) (sc:Nat→List Nat) (n:Nat) (A:List Nat):Prop where
 nd:A.Nodup
 lt:∀a∈A,a<n
 ok:∀a∈A,Tch (fun i=>hr i=true∨b2 i=true) sc a
theorem SI.add {hr b2:Nat→Bool} {sc:Nat→List Nat} {n:Nat} {A:List Nat} {i:Nat} (h:SI hr b2 sc n A) (hi:i<n) (h1:¬(hr i||A.contains i)=true) (h2:(b2 i||A.any fun k=>(sc i).contains k)=true):SI hr b2 sc n (A++ [i]):=by
 have hn:i∉A:=fun hi=>h1 (by rw [Bool.or_eq_true];exact .inr (by simpa using hi))
 refine ⟨?_,fun a ha=>?_,fun a ha=>?_⟩
 ·rw [List.nodup_append]
  refine ⟨h.nd,by simp,fun a ha b hb=>?_⟩
  rw [List.mem_singleton] at hb
  subst hb
  rintro rfl
  exact hn ha
 ·rcases List.mem_append.1 ha with ha|ha
  ·exact h.lt a ha
  ·rw [List.mem_singleton] at ha;omega
 ·rcases List.mem_append.1 ha with ha|ha
  ·exact h.ok a ha
  ·rw [List.mem_singleton] at ha
   subst ha
   rcases Bool.or_eq_true_iff.1 h2 with hb|hb
   ·exact .zero (.inr hb)
   ·obtain ⟨k,hk,hc⟩:=List.any_eq_true.1 hb
    exact .lean (by simpa using hc) (h.ok k hk)
theorem SI.all {hr b2:Nat→Bool} {sc:Nat→List Nat} {n:Nat} {A:List Nat} (h:SI hr b2 sc n A) (hn:∀i,∀k∈sc i,k<n) (hb:∀i,∀k∈sc i,hr k=true→b2 i=true)
  (hc:∀i,i<n→(b2 i||A.any fun k=>(sc i).contains k)=true→(hr i||A.contains i)=true) {i:Nat} (hi:i<n):(hr i||A.contains i)=true↔Tch (fun i=>hr i=true∨b2 i=true) sc i:=by
 constructor
 ·intro h1
  rcases Bool.or_eq_true_iff.1 h1 with h1|h1
  ·exact .zero (.inl h1)
  ·exact h.ok i (by simpa using h1)
 ·intro ht
  induction ht with
  |zero hq=>
   rcases hq with hq|hq
   ·rw [hq];rfl
   ·exact hc _ hi (by rw [hq];rfl)
  | @lean i k hk _ ih=>
   refine hc i hi ?_
   rw [Bool.or_eq_true]
   rcases Bool.or_eq_true_iff.1 (ih (hn _ _ hk)) with h1|h1
   ·exact .inl (hb i k hk h1)
   ·exact .inr (List.any_eq_true.2 ⟨k,by simpa using h1,by simpa using hk⟩)
theorem qQz {α:Type} {p:Nat→α→Bool}:∀{l:List α} {i j:Nat} {c:α},qF6 p i l=true→l[j]?=some c→p (i+j) c=true
 | [],i,j,c,h,hc=>by simp at hc
 |a::l,i,0,c,h,hc=>by
  unfold qF6 at h
  rw [Bool.and_eq_true] at h
  simp only [List.getElem?_cons_zero,zQ] at hc
  subst hc
  exact h.1
 |a::l,i,j+1,c,h,hc=>by
  unfold qF6 at h
  rw [Bool.and_eq_true] at h
  have:=qQz h.2 (show l[j]?=some c by simpa using hc)
  rwa [show i+(j+1)=i+1+j by omega]
theorem qQP {s:BA} (h:qLY s=true):s.size≤200:=by
 unfold qLY at h
 rw [Bool.and_eq_true] at h
 have h1:=h.1
 unfold qDU at h1
 split at h1
 ·cases h1
 ·rename_i hp
  exact qIf (by cases hq:qBd s 200 with|true=>rfl|false=>exact absurd hq hp)
theorem qMM {s:BA} (h:wrS s=true):s.size≤200:=by
 have:=qQP h
 rw [zh] at this
 omega
structure StOk (n:Nat) (c:Sm):Prop where
 k:c.1=1∨c.1=2∨c.1=3∨c.1=4∨c.1=5
 s:c.2.2.2.1.size≤200
 m:c.1=3∨c.1=4→1≤c.2.2.2.2∧c.2.2.2.2≤n
theorem qUw {n i:Nat} {c:Sm} (hi:i<n) (h:stB n i c=true):StOk n c:=by
 unfold stB at h
 by_cases k1:c.1=1
 ·rw [if_pos k1] at h
  simp only [Bool.and_eq_true] at h
  exact ⟨.inl k1,qMM h.2.1,fun e=>by omega⟩
 rw [if_neg k1] at h
 by_cases k2:c.1=2
 ·rw [if_pos k2] at h
  simp only [Bool.and_eq_true] at h
  exact ⟨.inr (.inl k2),qQP h.2.1,fun e=>by omega⟩
 rw [if_neg k2] at h
 by_cases k3:c.1=3
 ·rw [if_pos k3] at h
  simp only [Bool.and_eq_true,inZ,decide_eq_true_eq] at h
  exact ⟨.inr (.inr (.inl k3)),qMM h.2.1,fun e=>by omega⟩
 rw [if_neg k3] at h
 by_cases k4:c.1=4
 ·rw [if_pos k4] at h
  simp only [Bool.and_eq_true,inZ,decide_eq_true_eq] at h
  exact ⟨.inr (.inr (.inr (.inl k4))),qMM h.2.1,fun e=>by omega⟩
 rw [if_neg k4] at h
 by_cases k5:c.1=5
 ·rw [if_pos k5] at h
  simp only [Bool.and_eq_true] at h
  exact ⟨.inr (.inr (.inr (.inr k5))),qMM h.2.1,fun e=>by omega⟩
 rw [if_neg k5] at h
 cases h
def qBx (k:Int):BA:=if k=1 then ⟨#[115,101,116]⟩ else if k=2 then ⟨#[112,117,116]⟩ else if k=3 then ⟨#[117,110,108,101,115,115]⟩ else if k=4 then ⟨#[119,104,105,108,101]⟩ else ⟨#[97,98,111,114,116]⟩
def qDB (c:Sm):BA:=if c.1=1∨c.1=2 then qAY c.2.1 c.2.2.1 false false++⟨#[32]⟩ else if c.1=5 then ⟨#[]⟩ else qC9 c.2.2.2.2++⟨#[32]⟩
def stT (c:Sm):BA:=(qBx c.1++⟨#[32]⟩)++(qDB c++(c.2.2.2.1++⟨#[10]⟩))
def mcx (l:List Sm):BA:=l.foldl (fun t c=>t++stT c) ⟨#[]⟩
theorem qPP {l:List Sm} {i:Nat} {c:Sm} (h:l[i]?=some c):mcx (l.take (i+1))=mcx (l.take i)++stT c:=by
 unfold mcx
 rw [List.take_add_one,h,List.foldl_append]
 rfl
theorem qPQ (k:Int):(qBx k).size≤6:=by
 unfold qBx
 split
 ·decide
 ·split
  ·decide
  ·split
   ·decide
   ·split<;>decide
theorem qQQ {n:Nat} {c:Sm} (h:StOk n c) (hn:n≤30):(qDB c).size≤31:=by
 unfold qDB
 split
 ·rw [zh]
  have:=qDi c.2.1 c.2.2.1 false false
  show _+1≤31
  omega
 ·split
  ·decide
  ·rename_i k1 k5
   have hm:=h.m (by have:=h.k;omega)
   have:=qF7 (x:=c.2.2.2.2) (by omega)
   rw [zh]
   show _+1≤31
   omega
theorem qTU {n:Nat} {c:Sm} (h:StOk n c) (hn:n≤30):(stT c).size≤300:=by
 have h1:=qPQ c.1
 have h2:=qQQ h hn
 have h3:=h.s
 unfold stT
 simp only [zh]
 show _+1+(_+(_+1))≤300
 omega
theorem qRZ {l:List Sm} (h:∀c∈l,StOk l.length c) (hn:l.length≤30):∀i,i≤l.length→(mcx (l.take i)).size≤300*i:=by
 intro i
 induction i with
 |zero=>intro _;exact Nat.le_refl _
 |succ i ih=>
  intro hi
  have hg:=ze (l:=l) (i:=i) (by omega)
  rw [qPP hg,zh]
  have h1:=ih (by omega)
  have h2:=qTU (h _ (List.getElem_mem (by omega:i<l.length))) hn
  omega
theorem qSa (l:List Sm):mcx (l.take l.length)=mcx l:=by rw [List.take_length]
theorem qPR {l:List Sm} (h:qDl l=true):l.length≤30∧∀c∈l,StOk l.length c:=by
 unfold qDl at h
 rw [Bool.and_eq_true,decide_eq_true_eq] at h
 refine ⟨by omega,fun c hc=>?_⟩
 obtain ⟨j,hj⟩:=List.getElem?_of_mem hc
 have h1:=qQz h.1 hj
 rw [Nat.zero_add] at h1
 exact qUw (List.getElem?_eq_some_iff.1 hj).1 h1
def qOI (t:BA):List (List PV):=t.data.toList.map byR
theorem qRa (t:BA):(qOI t).length=t.size:=by
 unfold qOI
 rw [List.length_map]
 exact Array.length_toList
theorem qTV (t s:BA):qOI (t++s)=qOI t++s.data.toList.map byR:=by
 unfold qOI
 rw [qDJ,List.map_append]
theorem qRb:∀l:List UInt8,zHc (l.map byR)=true∧bytesOf (l.map byR)=some l
 | []=>⟨rfl,rfl⟩
 |c::l=>by
  obtain ⟨h1,h2⟩:=qRb l
  have hc:c.toNat<256:=c.toNat_lt
  constructor
  ·unfold zHc at h1⊢
   rw [List.map_cons,List.all_cons,h1,Bool.and_true]
   exact zD ⟨by omega,by omega⟩
  ·rw [List.map_cons]
   show (bytesOf (l.map byR)).map (UInt8.ofNat ((c.toNat:Int)).toNat:: ·)=_
   rw [h2,Int.toNat_natCast,Option.map_some,UInt8.ofNat_toNat]
theorem bw (t s:BA) (q:Nat) (h:t.size+s.size≤100000000):qV (q+1) s t.size (qOI t)=some ((s.size:Int),(t++s).size,qOI (t++s)):=by
 show zX s t.size (qOI t)=_
 unfold zX
 rw [if_pos ⟨(qRa t).symm,by omega⟩,zh,qTV]
theorem bs (t:BA) (q:Nat):qBs (q+1) t.size (qOI t)=some (t,[]):=by
 show zi t.size (qOI t)=_
 unfold zi
 obtain ⟨h1,h2⟩:=qRb t.data.toList
 rw [if_pos ⟨(qRa t).symm,h1⟩]
 show (bytesOf (t.data.toList.map byR)).map _=_
 rw [h2,Option.map_some]
theorem qUA {k:Int} (h:k=1∨k=2∨k=3∨k=4∨k=5) (q:Nat):qED (q+1) k=some (qBx k):=by
 rcases h with rfl|rfl|rfl|rfl|rfl<;>rfl
theorem szd {x y:BA} {a b:Nat} (hx:x.size≤a) (hy:y.size≤b) (hab:a+b≤9223372036854775807):decide (x.size+y.size≤9223372036854775807)=true:=zD (by omega)
theorem sza {x y:BA} {a b:Nat} (hx:x.size≤a) (hy:y.size≤b):(x++y).size≤a+b:=by rw [zh];omega
theorem qJL:(⟨#[32]⟩:BA).size≤1:=Nat.le_refl _
theorem qR3:(⟨#[10]⟩:BA).size≤1:=Nat.le_refl _
theorem qR4 (a b:Int):Ev (qDg · a b) (qAY a b false false):=qJ7 (qGs (R:=fun n=>qGg n a b) (qCB (qCf a b false false) (qAW rfl)) fun n=>rfl)
theorem qMN (l:List Sm) (hl:l.length≤30) (hs:∀c∈l,StOk l.length c):Ev (qFF · (l.map qv)) (mcx l):=by
 obtain ⟨n1,h1⟩:=qAt (F:=fun (c:Sm) n=>qDg n c.2.1 c.2.2.1) (f:=fun c=>qAY c.2.1 c.2.2.1 false false) l fun c _=>qR4 _ _
 obtain ⟨n2,h2⟩:=qAt (F:=fun (c:Sm) n=>if c.1=3∨c.1=4 then qAl n c.2.2.2.2 else some (qC9 c.2.2.2.2)) (f:=fun c=>qC9 c.2.2.2.2) l fun c hc=>by
  by_cases hk:c.1=3∨c.1=4
  ·have hm:=(hs c hc).m hk
   simp only [if_pos hk]
   exact qEG _ (by omega)
  ·simp only [if_neg hk]
   exact ⟨0,fun n _=>rfl⟩
 refine ⟨n1+n2+l.length+5,fun n hn=>?_⟩
 obtain ⟨m,rfl,hm⟩:=up1 hn
 obtain ⟨q,rfl⟩:∃q,m=q+1:=⟨m-1,by omega⟩
 have h:=qSt (B:=qD4 (q+1)) (fun i=>(l.map qv,((l.map qv).length:Int),(i:Int),(mcx (l.take i)).size,qOI (mcx (l.take i)))) l (fun _ _=>none) ((mcx l).size,qOI (mcx l))
  (fun i c he=>by
   have hi:=(List.getElem?_eq_some_iff.1 he).1
   have hmem:=zy he
   obtain ⟨a1,a2⟩:=qNP (k:=(i:Int)) rfl (qSZ (enc:=qv) he)
   have h1:=h1 (q+1) (by omega) c hmem
   have h2:=h2 (q+1) (by omega) c hmem
   have hk:=hs c hmem
   have hz:=qRZ hs hl i (by omega)
   have hw:=qUA hk.k q
   have zw:=qPQ c.1
   have zm:=qQQ hk hl
   have zs:=hk.s
   have w:IntKind.i64.wrap ((i:Int)+1)=((i+1:Nat):Int):=by rw [qU (by omega)];omega
   have e:=qPP he
   have zz:=sza zw qJL
   have zt:=sza zs qR3
   generalize mcx (l.take i)=t at*
   have b1:=bw t (qBx c.1++⟨#[32]⟩) q (by omega)
   have z1:(t++(qBx c.1++⟨#[32]⟩)).size≤9100:=by rw [zh];omega
   have b2:=bw (t++(qBx c.1++⟨#[32]⟩)) (qDB c) q (by omega)
   have z2:(t++(qBx c.1++⟨#[32]⟩)++qDB c).size≤9200:=by rw [zh];omega
   have b3:=bw (t++(qBx c.1++⟨#[32]⟩)++qDB c) (c.2.2.2.1++⟨#[10]⟩) q (by omega)
   have e2:t++(qBx c.1++⟨#[32]⟩)++qDB c++(c.2.2.2.1++⟨#[10]⟩)=mcx (l.take (i+1)):=by
    rw [e,stT,ByteArray.append_assoc,ByteArray.append_assoc]
   rw [e2] at b3
   have em0:qDB c=⟨#[]⟩→t++(qBx c.1++⟨#[32]⟩)++qDB c=t++(qBx c.1++⟨#[32]⟩):=fun h=>by rw [h];exact ByteArray.append_empty
   refine qD (zD (by simpa using hi)) (qD a1 (qA a2 (qD rfl (qA rfl (qA rfl (qA rfl (qA rfl (qA rfl (qA hw (qD (szd zw qJL (by decide)) (qA b1 ?_)))))))))))
   dsimp only
   rw [w]
   have dt:=szd zs qR3 (by decide)
   rcases hk.k with k|k|k|k|k
   ·have em:qAY c.2.1 c.2.2.1 false false++⟨#[32]⟩=qDB c:=by unfold qDB;rw [if_pos (.inl k)]
    refine qD (beq_iff_eq.2 k) (qA h1 (qD (szd (qDi _ _ _ _) qJL (by decide)) ?_))
    rw [em]
    exact qA b2 (qD dt (qA b3 rfl))
   ·have em:qAY c.2.1 c.2.2.1 false false++⟨#[32]⟩=qDB c:=by unfold qDB;rw [if_pos (.inr k)]
    refine qO (nb (by omega)) (qD (beq_iff_eq.2 k) (qA h1 (qD (szd (qDi _ _ _ _) qJL (by decide)) ?_)))
    rw [em]
    exact qA b2 (qD dt (qA b3 rfl))
   ·have em:qC9 c.2.2.2.2++⟨#[32]⟩=qDB c:=by unfold qDB;rw [if_neg (by omega),if_neg (by omega)]
    have hm:=hk.m (.inl k)
    simp only [if_pos (show c.1=3∨c.1=4 from .inl k)] at h2
    refine qO (nb (by omega)) (qO (nb (by omega)) (qD (beq_iff_eq.2 k) (qA h2 (qD (szd (qF7 (by omega)) qJL (by decide)) ?_))))
    rw [em]
    exact qA b2 (qD dt (qA b3 rfl))
   ·have em:qC9 c.2.2.2.2++⟨#[32]⟩=qDB c:=by unfold qDB;rw [if_neg (by omega),if_neg (by omega)]
    have hm:=hk.m (.inr k)
    simp only [if_pos (show c.1=3∨c.1=4 from .inr k)] at h2
    refine qO (nb (by omega)) (qO (nb (by omega)) (qO (nb (by omega)) (qD (beq_iff_eq.2 k) (qA h2 (qD (szd (qF7 (by omega)) qJL (by decide)) ?_)))))
    rw [em]
    exact qA b2 (qD dt (qA b3 rfl))
   ·have em:qDB c=⟨#[]⟩:=by unfold qDB;rw [if_neg (by omega),if_pos k]
    rw [em0 em] at b3
    exact qO (nb (by omega)) (qO (nb (by omega)) (qO (nb (by omega)) (qO (nb (by omega)) (qD dt (qA b3 rfl))))))
  (qO (zx (by simp)) (by rw [qSa];rfl)) (q+1) (by omega)
 rw [qIE] at h
 refine qA h ?_
 exact qA (bs (mcx l) q) rfl
theorem qMO (l:List Sm) (hb:l.length≤140737488351232) (hs:∀c∈l,c.2.2.2.1.size≤140737488351232):Ev (qE7 · (l.map qv)) (if qDl l=true then mcx l else ⟨#[]⟩):=by
 have hM:=qI9 l hb hs
 refine qJ7 (qGs (R:=fun n=>qE6 n (l.map qv)) (qCB hM ?_) fun n=>rfl)
 cases hB:qDl l with
 |false=>exact qCE rfl (qAW rfl)
 |true=>
  rw [if_pos rfl]
  obtain ⟨hl,hk⟩:=qPR hB
  obtain ⟨n1,h1⟩:=qAt (F:=fun (c:Sm) n=>qA9 n c.2.1 c.2.2.1 false false) (f:=fun c=>qAY c.2.1 c.2.2.1 false false) l fun c _=>qDW _ _ _ _
  obtain ⟨n2,h2⟩:=qAt (F:=fun (c:Sm) n=>if c.1=3∨c.1=4 then qAT n c.2.2.2.2 else some (qC9 c.2.2.2.2)) (f:=fun c=>qC9 c.2.2.2.2) l fun c hc=>by
   by_cases hq:c.1=3∨c.1=4
   ·have hm:=(hk c hc).m hq
    simp only [if_pos hq]
    exact qHc _ (by omega)
   ·simp only [if_neg hq]
    exact ⟨0,fun n _=>rfl⟩
  refine qD9 rfl (qCB (r:=mcx l) ⟨n1+n2+l.length+5,fun m hm=>?_⟩ (qAW rfl))
  have h:=qSt (B:=qDz m) (fun i=>(l.map qv,mcx (l.take i),(i:Int))) l (fun _ _=>none) (mcx l)
   (fun i c he=>by
    have hi:=(List.getElem?_eq_some_iff.1 he).1
    have hmem:=zy he
    obtain ⟨a1,a2⟩:=qNP (k:=(i:Int)) rfl (qSZ (enc:=qv) he)
    have h1:=h1 m (by omega) c hmem
    have h2:=h2 m (by omega) c hmem
    have hk:=hk c hmem
    have hz:=qRZ (fun c hc=>(qPR hB).2 c hc) hl i (by omega)
    have zs:=hk.s
    have w:IntKind.i64.wrap ((i:Int)+1)=((i+1:Nat):Int):=by rw [qU (by omega)];omega
    have e:=qPP he
    generalize mcx (l.take i)=t at*
    have zt:t.size≤9000:=by omega
    refine qD (zD (by simpa using hi)) (qD a1 (qA a2 (qD rfl (qA rfl (qA rfl (qA rfl (qA rfl (qA rfl (qA h1 ?_)))))))))
    dsimp only
    rw [w,e]
    have zp:=qDi c.2.1 c.2.2.1 false false
    have fin:∀{x:BA} {k:Int},qBx c.1++⟨#[32]⟩=x→∀{y:BA},y++⟨#[32]⟩=qDB c→t++x++y++⟨#[32]⟩++c.2.2.2.1++⟨#[10]⟩=t++stT c:=fun {x k} h1 {y} h2=>by
     rw [stT,h1,←h2]
     simp only [ByteArray.append_assoc]
    rcases hk.k with k|k|k|k|k
    ·have em:qAY c.2.1 c.2.2.1 false false++⟨#[32]⟩=qDB c:=by unfold qDB;rw [if_pos (.inl k)]
     have ew:qBx c.1++⟨#[32]⟩=(⟨#[115,101,116,32]⟩:BA):=by rw [k];rfl
     have z4:(⟨#[115,101,116,32]⟩:BA).size≤4:=Nat.le_refl _
     refine qD (beq_iff_eq.2 k) (qD (szd zt z4 (by decide)) (qD (szd (sza zt z4) zp (by decide)) (qD (szd (sza (sza zt z4) zp) qJL (by decide)) (qD (szd (sza (sza (sza zt z4) zp) qJL) zs (by decide)) (qD (szd (sza (sza (sza (sza zt z4) zp) qJL) zs) qR3 (by decide)) ?_)))))
     rw [fin (k:=0) ew em]
     rfl
    ·have em:qAY c.2.1 c.2.2.1 false false++⟨#[32]⟩=qDB c:=by unfold qDB;rw [if_pos (.inr k)]
     have ew:qBx c.1++⟨#[32]⟩=(⟨#[112,117,116,32]⟩:BA):=by rw [k];rfl
     have z4:(⟨#[112,117,116,32]⟩:BA).size≤4:=Nat.le_refl _
     refine qO (nb (by omega)) (qD (beq_iff_eq.2 k) (qD (szd zt z4 (by decide)) (qD (szd (sza zt z4) zp (by decide)) (qD (szd (sza (sza zt z4) zp) qJL (by decide)) (qD (szd (sza (sza (sza zt z4) zp) qJL) zs (by decide)) (qD (szd (sza (sza (sza (sza zt z4) zp) qJL) zs) qR3 (by decide)) ?_))))))
     rw [fin (k:=0) ew em]
     rfl
    ·have em:qC9 c.2.2.2.2++⟨#[32]⟩=qDB c:=by unfold qDB;rw [if_neg (by omega),if_neg (by omega)]
     have hm:=hk.m (.inl k)
     have zp:=qF7 (x:=c.2.2.2.2) (by omega)
     have ew:qBx c.1++⟨#[32]⟩=(⟨#[117,110,108,101,115,115,32]⟩:BA):=by rw [k];rfl
     have z4:(⟨#[117,110,108,101,115,115,32]⟩:BA).size≤7:=Nat.le_refl _
     simp only [if_pos (show c.1=3∨c.1=4 from .inl k)] at h2
     refine qO (nb (by omega)) (qO (nb (by omega)) (qD (beq_iff_eq.2 k) (qD (szd zt z4 (by decide)) (qA h2 (qD (szd (sza zt z4) zp (by decide)) (qD (szd (sza (sza zt z4) zp) qJL (by decide)) (qD (szd (sza (sza (sza zt z4) zp) qJL) zs (by decide)) (qD (szd (sza (sza (sza (sza zt z4) zp) qJL) zs) qR3 (by decide)) ?_))))))))
     rw [fin (k:=0) ew em]
     rfl
    ·have em:qC9 c.2.2.2.2++⟨#[32]⟩=qDB c:=by unfold qDB;rw [if_neg (by omega),if_neg (by omega)]
     have hm:=hk.m (.inr k)
     have zp:=qF7 (x:=c.2.2.2.2) (by omega)
     have ew:qBx c.1++⟨#[32]⟩=(⟨#[119,104,105,108,101,32]⟩:BA):=by rw [k];rfl
     have z4:(⟨#[119,104,105,108,101,32]⟩:BA).size≤6:=Nat.le_refl _
     simp only [if_pos (show c.1=3∨c.1=4 from .inr k)] at h2
     refine qO (nb (by omega)) (qO (nb (by omega)) (qO (nb (by omega)) (qD (beq_iff_eq.2 k) (qD (szd zt z4 (by decide)) (qA h2 (qD (szd (sza zt z4) zp (by decide)) (qD (szd (sza (sza zt z4) zp) qJL (by decide)) (qD (szd (sza (sza (sza zt z4) zp) qJL) zs (by decide)) (qD (szd (sza (sza (sza (sza zt z4) zp) qJL) zs) qR3 (by decide)) ?_)))))))))
     rw [fin (k:=0) ew em]
     rfl
    ·have em:qDB c=⟨#[]⟩:=by unfold qDB;rw [if_neg (by omega),if_pos k]
     have ew:qBx c.1++⟨#[32]⟩=(⟨#[97,98,111,114,116,32]⟩:BA):=by rw [k];rfl
     have z4:(⟨#[97,98,111,114,116,32]⟩:BA).size≤6:=Nat.le_refl _
     have e3:t++⟨#[97,98,111,114,116,32]⟩++c.2.2.2.1++⟨#[10]⟩=t++stT c:=by
      rw [stT,ew,em]
      have e4:(⟨#[]⟩:BA)++(c.2.2.2.1++⟨#[10]⟩)=c.2.2.2.1++⟨#[10]⟩:=ByteArray.empty_append
      rw [e4]
      simp only [ByteArray.append_assoc]
     refine qO (nb (by omega)) (qO (nb (by omega)) (qO (nb (by omega)) (qO (nb (by omega)) (qD (beq_iff_eq.2 k) (qD (szd zt z4 (by decide)) (qD (szd (sza zt z4) zs (by decide)) (qD (szd (sza (sza zt z4) zs) qR3 (by decide)) ?_)))))))
     rw [e3]
     rfl)
   (qO (zx (by simp)) (by rw [qSa];rfl)) m (by omega)
  rw [qIE] at h
  exact h
def Sml (x:Int):Prop:=1≤x∧x≤1000000000
structure VerT (v:Vs):Prop where
 id:Sml v.1
 up:∀u∈v.2.1,Sml u
 un:v.2.1.length≤2
 cn:v.2.2.length≤120
 cs:∀c∈v.2.2,c.2.2.size≤200
structure BrT (b:Br):Prop where
 id:Sml b.2
 nm:b.1.size≤12
structure MA (A:List (List PV)) (e:List PV) (len i:Nat) (ks D:List (List PV)):Prop where
 maL:A.length=len
 maG:A[i]?=some e
 maN:e.length=14
 maK:e[13]?=some (.ls ks)
 maD:A.drop (i+1)=D
 maT:i<len
theorem MA.next {A:List (List PV)} {e:List PV} {len i:Nat} {ks D:List (List PV)} (h:MA A e len i ks D) {o:Nat} {x:PV} (ho:o<13):MA (A.set ((i:Nat):Int).toNat (zL e o [x])) (zL e o [x]) len i ks D:=by
 have hl:i<A.length:=by rw [h.maL];exact h.maT
 have hs:o+ [x].length≤e.length:=by rw [h.maN];simp;omega
 rw [Int.toNat_natCast]
 refine ⟨by rw [List.length_set];exact h.maL,List.getElem?_set_self hl,by rw [zq _ _ _ hs];exact h.maN,?_,?_,h.maT⟩
 ·rw [z8 _ _ _ hs,if_neg (by simp;omega)]
  exact h.maK
 ·rw [List.drop_set_of_lt (by omega)]
  exact h.maD
theorem qRc {c:UInt8}:∀l:List UInt8,c∉l∨∃p r,l=p++c::r∧c∉p
 | []=> .inl (by simp)
 |a::l=>by
  by_cases h:a=c
  ·exact .inr ⟨[],l,by rw [h];rfl,by simp⟩
  ·rcases qRc (c:=c) l with h1|⟨p,r,h1,h2⟩
   ·exact .inl (by simp [Ne.symm h,h1])
   ·exact .inr ⟨a::p,r,by rw [h1];rfl,by simp [Ne.symm h,h2]⟩
theorem qR5 {c:UInt8}:∀{p r:List UInt8},c∉p→Lib.index (p++c::r) [c]=(p.length:Int)
 | [],r,h=>by
  show Lib.index (c::r) [c]=0
  unfold Lib.index
  simp [List.isPrefixOf]
 |a::p,r,h=>by
  simp only [List.mem_cons,not_or] at h
  have h1:=qR5 (r:=r) h.2
  show Lib.index (a::(p++c::r)) [c]=_
  unfold Lib.index
  have:List.isPrefixOf [c] (a::(p++c::r))=false:=by simp [List.isPrefixOf,h.1]
  rw [this,h1]
  simp
theorem qTW {c:UInt8}:∀{p:List UInt8},c∉p→Lib.index p [c]= -1
 | [],h=>rfl
 |a::p,h=>by
  simp only [List.mem_cons,not_or] at h
  have h1:=qTW h.2
  unfold Lib.index
  have:List.isPrefixOf [c] (a::p)=false:=by simp [List.isPrefixOf,h.1]
  rw [this,h1]
  rfl
def qDL:List UInt8→List UInt8×List UInt8
 | []=>([],[])
 |c::r=>if c=32 then ([],r) else (c::(qDL r).1,(qDL r).2)
theorem qOL:∀{p r:List UInt8},(32:UInt8)∉p→qDL (p++32::r)=(p,r)
 | [],r,h=>rfl
 |a::p,r,h=>by
  simp only [List.mem_cons,not_or] at h
  show qDL (a::(p++32::r))=_
  unfold qDL
  rw [if_neg (Ne.symm h.1),qOL h.2]
theorem qSb:∀{p:List UInt8},(32:UInt8)∉p→qDL p=(p,[])
 | [],h=>rfl
 |a::p,h=>by
  simp only [List.mem_cons,not_or] at h
  unfold qDL
  rw [if_neg (Ne.symm h.1),qSb h.2]
theorem qUa (l:List UInt8):(Lib.cut l [32]).1=(qDL l).1∧(Lib.cut l [32]).2.1=(qDL l).2:=by
 rcases qRc (c:=32) l with h|⟨p,r,rfl,h⟩
 ·have h1:=qTW h
  unfold Lib.cut
  rw [h1,if_neg (by decide),qSb h]
  exact ⟨rfl,rfl⟩
 ·have h1:=qR5 (r:=r) h
  unfold Lib.cut
  rw [h1,if_pos (by omega),qOL h]
  simp
def qw (s:BA):BA×BA:=(⟨(qDL s.toList).1.toArray⟩,⟨(qDL s.toList).2.toArray⟩)
theorem qRd:∀l:List UInt8,(qDL l).1.length≤l.length∧(qDL l).2.length≤l.length
 | []=>⟨Nat.le_refl _,Nat.le_refl _⟩
 |c::r=>by
  have:=qRd r
  unfold qDL
  split
  ·exact ⟨by simp,by simp⟩
  ·simp only [List.length_cons]
   omega
theorem qMP (l:List UInt8):(⟨l.toArray⟩:BA).size=l.length:=by show l.toArray.size=_;simp
theorem qEX (s:BA):(qw s).1.size≤s.size∧(qw s).2.size≤s.size:=by
 have:=qRd s.toList
 rw [qu] at this
 unfold qw
 rw [qMP,qMP]
 exact this
def qUb (s:BA):Bool:=(Lib.cut s.data.toList [32]).2.2
theorem qUx {s:BA} (hs:s.size≤1048576):zAW s ⟨#[32]⟩=some ((qw s).1,(qw s).2,qUb s):=by
 unfold zAW
 rw [if_pos (by omega)]
 obtain ⟨h1,h2⟩:=qUa s.data.toList
 have e:(⟨#[32]⟩:BA).data.toList= [32]:=rfl
 unfold qw qUb
 rw [e,h1,h2,Go.Lib.toList_data]
def qAz:List UInt8→List (List UInt8)×List UInt8
 | []=>([],[])
 |c::r=>if c=10 then ([]::(qAz r).1,(qAz r).2) else match (qAz r).1 with
  | []=>([],c::(qAz r).2)
  |l::ls=>((c::l)::ls,(qAz r).2)
theorem qPS:∀{l r:List UInt8},(10:UInt8)∉l→qAz (l++10::r)=(l::(qAz r).1,(qAz r).2)
 | [],r,h=>rfl
 |a::l,r,h=>by
  simp only [List.mem_cons,not_or] at h
  have e:qAz (a::(l++10::r))=match (qAz (l++10::r)).1 with
   | []=>([],a::(qAz (l++10::r)).2)
   |x::ls=>((a::x)::ls,(qAz (l++10::r)).2):=by
   conv=>lhs;unfold qAz
   rw [if_neg (Ne.symm h.1)]
  rw [qPS h.2] at e
  exact e
def unl (ls:List (List UInt8)):List UInt8:=ls.flatMap fun l=>l++ [10]
theorem qPT:∀{ls:List (List UInt8)},(∀l∈ls,(10:UInt8)∉l)→qAz (unl ls)=(ls,[])
 | [],_=>rfl
 |l::ls,h=>by
  have e:unl (l::ls)=l++10::unl ls:=by simp [unl]
  rw [e,qPS (h l (List.mem_cons_self ..)),qPT fun x hx=>h x (List.mem_cons_of_mem _ hx)]
theorem qPU:∀{ls:List (List UInt8)} {k:Nat},(∀l∈ls,(10:UInt8)∉l)→ls.length≤k→Lib.splitK [10] 0 k (unl ls)=ls++ [[]]
 | [],0,_,_=>rfl
 | [],k+1,_,_=>rfl
 |l::ls,0,_,h=>by simp at h
 |l::ls,k+1,hl,h=>by
  have e:unl (l::ls)=l++10::unl ls:=by simp [unl]
  have h1:=qR5 (r:=unl ls) (hl l (List.mem_cons_self ..))
  have ih:=qPU (k:=k) (fun x hx=>hl x (List.mem_cons_of_mem _ hx)) (by simpa using h)
  unfold Lib.splitK
  rw [e,h1,if_neg (by simp),Int.toNat_natCast]
  have e1:(l++10::unl ls).take (l.length+0)=l:=by simp
  have e2:(l++10::unl ls).drop (l.length+ [(10:UInt8)].length)=unl ls:=by
   rw [show l++10::unl ls=(l++ [10])++unl ls by simp]
   exact List.drop_left' (by simp)
  rw [e1,e2,ih]
  rfl
def mkB (l:List UInt8):BA:=⟨l.toArray⟩
theorem qGt (l:List UInt8):(mkB l).toList=l:=qBA l
theorem qIF (s:BA):mkB s.toList=s:=qDT (qBA _)
def plS (s:BA):List BA:=(Lib.splitB ⟨#[10]⟩ 0 (min 32 (s.size+1)-1) s).dropLast
theorem qR6 (k:Nat) (s:BA):Lib.splitB ⟨#[10]⟩ 0 k s=(Lib.splitK [10] 0 k s.toList).map mkB:=by
 have h:=Lib.splitB_data ⟨#[10]⟩ 0 k s
 have e:(⟨#[10]⟩:BA).data.toList= [10]:=rfl
 rw [e,←Go.Lib.toList_data] at h
 rw [←h,List.map_map]
 have:(mkB∘fun x:BA=>x.data.toList)=id:=funext fun x=>by
  show mkB x.data.toList=x
  rw [←Go.Lib.toList_data,qIF]
 rw [this,List.map_id]
theorem qT0 (ls:List (List UInt8)):ls.length≤(unl ls).length:=by
 induction ls with
 |nil=>exact Nat.le_refl _
 |cons l ls ih=>
  have e:unl (l::ls)=(l++ [10])++unl ls:=by simp [unl]
  rw [e,List.length_append,List.length_append]
  simp only [List.length_cons,List.length_nil]
  omega
theorem qT1 {ls:List (List UInt8)} {s:BA} (h:∀l∈ls,(10:UInt8)∉l) (hl:ls.length≤30) (hs:s.toList=unl ls):plS s=ls.map mkB:=by
 unfold plS
 have hz:s.size=(unl ls).length:=by rw [←hs,qu]
 have:=qT0 ls
 rw [qR6,hs,qPU h (by omega),List.map_append,List.map_cons,List.map_nil,List.dropLast_concat]
theorem qSc (s:BA):(plS s).length≤31:=by
 unfold plS
 have:=Lib.splitB_length_le ⟨#[10]⟩ 0 (min 32 (s.size+1)-1) s
 rw [List.length_dropLast]
 omega
theorem qQR (sep:BA):∀(k:Nat) (s:BA),∀x∈Lib.splitB sep 0 k s,x.size≤s.size
 |0,s,x,hx=>by
  rw [Lib.splitB_zero,List.mem_singleton] at hx
  rw [hx]
  exact Nat.le_refl _
 |k+1,s,x,hx=>by
  unfold Lib.splitB at hx
  split at hx
  ·rw [List.mem_singleton] at hx
   rw [hx]
   exact Nat.le_refl _
  ·rcases List.mem_cons.1 hx with rfl|hx
   ·rw [ByteArray.size_extract]
    omega
   ·have:=qQR sep k _ x hx
    rw [ByteArray.size_extract] at this
    omega
theorem qUc (s:BA):∀x∈plS s,x.size≤s.size:=fun x hx=>qQR _ _ s x ((List.dropLast_sublist _).subset hx)
def qBc (w:BA):Int:=if w.toList=(qBx 5).toList then 5 else if w.toList=(qBx 4).toList then 4 else if w.toList=(qBx 3).toList then 3 else if w.toList=(qBx 2).toList then 2 else if w.toList=(qBx 1).toList then 1 else 0
theorem qUB:(qBx 1).toList= [115,101,116]∧(qBx 2).toList= [112,117,116]∧(qBx 3).toList= [117,110,108,101,115,115]∧(qBx 4).toList= [119,104,105,108,101]∧(qBx 5).toList= [97,98,111,114,116]:=by
 refine ⟨?_,?_,?_,?_,?_⟩<;>(rw [Go.Lib.toList_data];rfl)
theorem qRe (w:BA):0≤qBc w∧qBc w≤5:=by
 unfold qBc
 repeat' split
 all_goals decide
theorem qMQ {k:Int} (h:k=1∨k=2∨k=3∨k=4∨k=5):qBc (qBx k)=k∧(32:UInt8)∉(qBx k).toList∧(10:UInt8)∉(qBx k).toList:=by
 obtain ⟨w1,w2,w3,w4,w5⟩:=qUB
 unfold qBc
 rw [w1,w2,w3,w4,w5]
 rcases h with rfl|rfl|rfl|rfl|rfl
 ·rw [w1];decide
 ·rw [w2];decide
 ·rw [w3];decide
 ·rw [w4];decide
 ·rw [w5];decide
def qPV (s:BA):Int:=match zK s 10 64 with
 |some (.inl v)=>v
 |_=>0
theorem qR7 {s:BA} {x:Int} (hs:s.toList=Lib.itoa x) (h: -1000000000000000≤x∧x≤1000000000000000):qPV s=x:=by
 have hd:s.data.toList=Lib.itoa x:=by rw [←Go.Lib.toList_data];exact hs
 have hsz:s.size≤281474976710656:=by
  rw [←qu,hs]
  unfold Lib.itoa
  split
  ·have:=qG8 x.natAbs (by omega);simp;omega
  ·have:=qG8 x.toNat (by omega);omega
 unfold qPV zK
 rw [if_pos ⟨rfl,rfl,hsz⟩,hd,qOy h]
def rd1 (s:BA):Sm:=
 if qBc (qw s).1=1∨qBc (qw s).1=2 then (qBc (qw s).1,(qAN (qw (qw s).2).1).1,(qAN (qw (qw s).2).1).2.1,(qw (qw s).2).2,0)
 else if qBc (qw s).1=3∨qBc (qw s).1=4 then (qBc (qw s).1,0,0,(qw (qw s).2).2,qPV (qw (qw s).2).1)
 else (qBc (qw s).1,0,0,(qw s).2,0)
def rd2 (s:BA):Sm:=
 if qBc (qw s).1=5 then (5,0,0,(qw s).2,0)
 else if qBc (qw s).1=1∨qBc (qw s).1=2 then (qBc (qw s).1,(qAN (qw (qw s).2).1).1,(qAN (qw (qw s).2).1).2.1,(qw (qw s).2).2,0)
 else (qBc (qw s).1,0,0,(qw (qw s).2).2,(l1I (qw (qw s).2).1.toList 2).1)
structure RtS (c:Sm):Prop where
 k:c.1=1∨c.1=2∨c.1=3∨c.1=4∨c.1=5
 s:(10:UInt8)∉c.2.2.2.1.toList
 p:c.1=1∨c.1=2→qA1 c.2.1 c.2.2.1=true∧c.2.2.2.2=0
 z:¬(c.1=1∨c.1=2)→c.2.1=0∧c.2.2.1=0
 m:c.1=3∨c.1=4→1≤c.2.2.2.2∧c.2.2.2.2≤30
 q:c.1=5→c.2.2.2.2=0
theorem qR8 {s:BA} (h:qLY s=true):s.toList.all okc=true:=by
 unfold qLY at h
 rw [Bool.and_eq_true] at h
 have h1:=h.1
 unfold qDU at h1
 split at h1
 ·cases h1
 ·rename_i hp
  have hp:qBd s 200=true:=by cases hq:qBd s 200 with|true=>rfl|false=>exact absurd hq hp
  unfold qBd at hp
  rw [Bool.and_eq_true] at hp
  exact hp.1
theorem qUd {l:List UInt8} (h:l.all okc=true):(10:UInt8)∉l:=fun hm=>by
 have:=List.all_eq_true.1 h _ hm
 exact absurd this (by decide)
theorem qSd {s:BA} (h:qLY s=true):(10:UInt8)∉s.toList:=qUd (qR8 h)
theorem qQ0 {s:BA} (h:wrS s=true):(10:UInt8)∉s.toList:=fun hm=>qSd h (by rw [qLX];exact List.mem_append_right _ hm)
theorem rtS {n i:Nat} {c:Sm} (hn:n≤30) (hi:i<n) (h:stB n i c=true):RtS c:=by
 unfold stB at h
 by_cases k1:c.1=1
 ·rw [if_pos k1] at h
  simp only [Bool.and_eq_true,beq_iff_eq] at h
  exact ⟨.inl k1,qQ0 h.2.1,fun _=>⟨h.1,h.2.2⟩,fun e=>absurd (.inl k1) e,fun e=>by omega,fun e=>by omega⟩
 rw [if_neg k1] at h
 by_cases k2:c.1=2
 ·rw [if_pos k2] at h
  simp only [Bool.and_eq_true,beq_iff_eq] at h
  exact ⟨.inr (.inl k2),qSd h.2.1,fun _=>⟨h.1,h.2.2⟩,fun e=>absurd (.inr k2) e,fun e=>by omega,fun e=>by omega⟩
 rw [if_neg k2] at h
 by_cases k3:c.1=3
 ·rw [if_pos k3] at h
  simp only [Bool.and_eq_true,beq_iff_eq,inZ,decide_eq_true_eq] at h
  exact ⟨.inr (.inr (.inl k3)),qQ0 h.2.1,fun e=>by omega,fun _=>h.1,fun _=>by omega,fun e=>by omega⟩
 rw [if_neg k3] at h
 by_cases k4:c.1=4
 ·rw [if_pos k4] at h
  simp only [Bool.and_eq_true,beq_iff_eq,inZ,decide_eq_true_eq] at h
  exact ⟨.inr (.inr (.inr (.inl k4))),qQ0 h.2.1,fun e=>by omega,fun _=>h.1,fun _=>by omega,fun e=>by omega⟩
 rw [if_neg k4] at h
 by_cases k5:c.1=5
 ·rw [if_pos k5] at h
  simp only [Bool.and_eq_true,beq_iff_eq] at h
  exact ⟨.inr (.inr (.inr (.inr k5))),qQ0 h.2.1,fun e=>by omega,fun _=>h.1,fun e=>by omega,fun _=>h.2.2⟩
 rw [if_neg k5] at h
 cases h
theorem qTX {l:List Sm} (h:qDl l=true):l.length≤30∧∀c∈l,RtS c:=by
 unfold qDl at h
 rw [Bool.and_eq_true,decide_eq_true_eq] at h
 refine ⟨by omega,fun c hc=>?_⟩
 obtain ⟨j,hj⟩:=List.getElem?_of_mem hc
 have h1:=qQz h.1 hj
 rw [Nat.zero_add] at h1
 exact rtS (by omega) (List.getElem?_eq_some_iff.1 hj).1 h1
def qHI (c:Sm):List UInt8:=(qBx c.1).toList++(32::((qDB c).toList++c.2.2.2.1.toList))
theorem l32:(⟨#[32]⟩:BA).toList= [32]:=by decide+kernel
theorem l10:(⟨#[10]⟩:BA).toList= [10]:=by decide+kernel
theorem qTY (c:Sm):(stT c).toList=qHI c++ [10]:=by
 unfold stT qHI
 simp only [qLX,l32,l10,List.append_assoc,List.cons_append,List.nil_append,List.singleton_append]
theorem qPW {x:Int} (h:0≤x):(qC9 x).toList.all qAr=true:=by
 unfold qC9
 rw [qBA]
 unfold Lib.itoa
 rw [if_neg (by omega)]
 exact (qF8 x.toNat).1
theorem qQ1 {l:List UInt8} (h:l.all qAr=true) {c:UInt8} (hc:qAr c=false):c∉l:=fun hm=>by
 rw [List.all_eq_true.1 h c hm] at hc
 cases hc
theorem qR9 {c r:Int} (h:qA1 c r=true):(qAY c r false false).toList=(qBt c).data.toList++(qC9 r).toList:=by
 rw [Go.Lib.toList_data,Go.Lib.toList_data]
 simp [qAY,h]
theorem qQS {c r:Int} (h:qA1 c r=true) {x:UInt8} (h1:qAr x=false) (h2:qFK x=false):x∉(qAY c r false false).toList:=by
 rw [qR9 h]
 obtain ⟨hc,hr⟩:=qFc h
 intro hm
 rcases List.mem_append.1 hm with hm|hm
 ·rw [List.all_eq_true.1 (qSI hc).1 x hm] at h2
  cases h2
 ·exact qQ1 (qPW (by omega)) h1 hm
theorem qRf {c:Sm} (h:RtS c) (h5:c.1≠5):∃w:BA,(qDB c).toList=w.toList++ [32]∧(32:UInt8)∉w.toList∧(10:UInt8)∉w.toList∧
  (c.1=1∨c.1=2→w=qAY c.2.1 c.2.2.1 false false)∧(c.1=3∨c.1=4→w=qC9 c.2.2.2.2):=by
 by_cases hk:c.1=1∨c.1=2
 ·refine ⟨qAY c.2.1 c.2.2.1 false false,?_,qQS (h.p hk).1 (by decide) (by decide),qQS (h.p hk).1 (by decide) (by decide),fun _=>rfl,fun e=>by omega⟩
  unfold qDB
  rw [if_pos hk,qLX,l32]
 ·have hm:=h.m (by have:=h.k;omega)
  refine ⟨qC9 c.2.2.2.2,?_,qQ1 (qPW (by omega)) (by decide),qQ1 (qPW (by omega)) (by decide),fun e=>absurd e hk,fun _=>rfl⟩
  unfold qDB
  rw [if_neg hk,if_neg h5,qLX,l32]
theorem qT2 {c:Sm} (h:RtS c):(10:UInt8)∉qHI c:=by
 obtain ⟨_,_,w10⟩:=qMQ h.k
 have hm:(10:UInt8)∉(qDB c).toList:=by
  by_cases h5:c.1=5
  ·unfold qDB
   rw [if_neg (by omega),if_pos h5,qp]
   simp
  ·obtain ⟨w,e,_,h10,_⟩:=qRf h h5
   rw [e]
   simp [h10]
 unfold qHI
 simp only [List.mem_append,List.mem_cons,not_or]
 exact ⟨w10,by decide,hm,h.s⟩
theorem qRg {c:Sm} (h:RtS c):qw (mkB (qHI c))=(qBx c.1,mkB ((qDB c).toList++c.2.2.2.1.toList)):=by
 unfold qw
 rw [qGt]
 unfold qHI
 rw [qOL (qMQ h.k).2.1]
 exact Prod.ext (qIF _) rfl
theorem qRh {c:Sm} (h:RtS c) (h5:c.1≠5):∃w:BA,qw (mkB ((qDB c).toList++c.2.2.2.1.toList))=(w,c.2.2.2.1)∧(c.1=1∨c.1=2→w=qAY c.2.1 c.2.2.1 false false)∧(c.1=3∨c.1=4→w=qC9 c.2.2.2.2):=by
 obtain ⟨w,e,h32,_,hp,hd⟩:=qRf h h5
 refine ⟨w,?_,hp,hd⟩
 unfold qw
 rw [qGt,e,List.append_assoc,List.singleton_append,qOL h32]
 exact Prod.ext (qIF _) (qIF _)
theorem qQT {c:Sm} {a b d f:Int} {s:BA} (h1:a=c.1) (h2:b=c.2.1) (h3:d=c.2.2.1) (h4:s=c.2.2.2.1) (h5:f=c.2.2.2.2):((a,b,d,s,f):Sm)=c:=by
 subst h1;subst h2;subst h3;subst h4;subst h5;rfl
theorem qUC {c:Sm} (h5:c.1=5):mkB ((qDB c).toList++c.2.2.2.1.toList)=c.2.2.2.1:=by
 unfold qDB
 rw [if_neg (by omega),if_pos h5,qp,List.nil_append,qIF]
theorem qTZ {c:Sm} (h:RtS c):rd1 (mkB (qHI c))=c:=by
 unfold rd1
 rw [qRg h]
 simp only [(qMQ h.k).1]
 by_cases h5:c.1=5
 ·obtain ⟨z1,z2⟩:=h.z (by omega)
  rw [if_neg (by omega),if_neg (by omega),qUC h5]
  exact qQT rfl z1.symm z2.symm rfl (h.q h5).symm
 ·obtain ⟨w,e,hp,hd⟩:=qRh h h5
  rw [e]
  by_cases hk:c.1=1∨c.1=2
  ·rw [if_pos hk]
   simp only
   rw [hp hk,qO4 (h.p hk).1]
   exact qQT rfl rfl rfl rfl (h.p hk).2.symm
  ·have h34:c.1=3∨c.1=4:=by have:=h.k;omega
   obtain ⟨z1,z2⟩:=h.z hk
   have hm:=h.m h34
   rw [if_neg hk,if_pos h34]
   simp only
   rw [hd h34,qR7 (x:=c.2.2.2.2) (by unfold qC9;rw [qBA]) (by omega)]
   exact qQT rfl z1.symm z2.symm rfl rfl
theorem qTa {c:Sm} (h:RtS c):rd2 (mkB (qHI c))=c:=by
 unfold rd2
 rw [qRg h]
 simp only [(qMQ h.k).1]
 by_cases h5:c.1=5
 ·obtain ⟨z1,z2⟩:=h.z (by omega)
  rw [if_pos h5,qUC h5]
  exact qQT h5.symm z1.symm z2.symm rfl (h.q h5).symm
 ·obtain ⟨w,e,hp,hd⟩:=qRh h h5
  rw [e,if_neg h5]
  by_cases hk:c.1=1∨c.1=2
  ·rw [if_pos hk]
   simp only
   rw [hp hk,qO4 (h.p hk).1]
   exact qQT rfl rfl rfl rfl (h.p hk).2.symm
  ·have h34:c.1=3∨c.1=4:=by have:=h.k;omega
   obtain ⟨z1,z2⟩:=h.z hk
   have hm:=h.m h34
   rw [if_neg hk]
   simp only
   have ed:(qC9 c.2.2.2.2).toList=Lib.itoa c.2.2.2.2:=by unfold qC9;rw [qBA]
   rw [hd h34,ed,qQl (r:=c.2.2.2.2) (by omega)]
   exact qQT rfl z1.symm z2.symm rfl rfl
theorem qSv (l:List Sm):∀t:BA,(l.foldl (fun t c=>t++stT c) t).toList=t.toList++unl (l.map qHI):=by
 induction l with
 |nil=>intro t;simp [unl]
 |cons c l ih=>
  intro t
  rw [List.foldl_cons,ih,qLX,qTY]
  simp [unl]
theorem qTb (l:List Sm):(mcx l).toList=unl (l.map qHI):=by
 unfold mcx
 rw [qSv,qp,List.nil_append]
theorem qPX {l:List Sm} (h:qDl l=true) {s:BA} (hs:(mcx l).toList=s.toList):(plS s).map rd1=l∧qAz s.toList=(l.map qHI,[])∧((l.map qHI).map mkB).map rd2=l∧l.length≤30:=by
 obtain ⟨hl,hr⟩:=qTX h
 have h10:∀x∈l.map qHI,(10:UInt8)∉x:=fun x hx=>by
  obtain ⟨c,hc,rfl⟩:=List.mem_map.1 hx
  exact qT2 (hr c hc)
 have e:s.toList=unl (l.map qHI):=by rw [←hs,qTb]
 refine ⟨?_,by rw [e,qPT h10],?_,hl⟩
 ·rw [qT1 h10 (by rw [List.length_map];exact hl) e,List.map_map,List.map_map]
  conv=>rhs;rw [←List.map_id l]
  exact List.map_congr_left fun c hc=>qTZ (hr c hc)
 ·rw [List.map_map,List.map_map]
  conv=>rhs;rw [←List.map_id l]
  exact List.map_congr_left fun c hc=>qTa (hr c hc)
def rmP (s:BA):List Sm×Bool:=if qDl ((plS s).map rd1)=true∧(mcx ((plS s).map rd1)).toList=s.toList then ((plS s).map rd1,true) else ([],false)
def slS (s:BA):List Sm:=((qAz s.toList).1.map mkB).map rd2
def rmS (s:BA):List Sm×Bool:=if ((qAz s.toList).2= []∧(qAz s.toList).1.length≤30)∧(qDl (slS s)=true∧(mcx (slS s)).toList=s.toList) then (slS s,true) else ([],false)
theorem qUD (s:BA):rmP s=rmS s:=by
 by_cases h:qDl ((plS s).map rd1)=true∧(mcx ((plS s).map rd1)).toList=s.toList
 ·obtain ⟨_,h2,h3,h4⟩:=qPX h.1 h.2
  have e:slS s=(plS s).map rd1:=by unfold slS;rw [h2];exact h3
  unfold rmP rmS
  rw [if_pos h,e,if_pos ⟨⟨by rw [h2],by rw [h2,List.length_map];exact h4⟩,h⟩]
 ·unfold rmP rmS
  rw [if_neg h,if_neg]
  rintro ⟨_,h1,h2⟩
  obtain ⟨h3,_⟩:=qPX h1 h2
  rw [←h3] at h1 h2
  exact h ⟨h1,h2⟩
theorem qRi:∀l:List UInt8,(qDL l).1=l.take (qDL l).1.length∧((qDL l).1.length=l.length→(qDL l).2= [])∧((qDL l).1.length<l.length→(qDL l).2=l.drop ((qDL l).1.length+1))∧(qDL l).1.length≤l.length
 | []=>⟨rfl,fun _=>rfl,fun h=>by simp [qDL] at h,Nat.le_refl _⟩
 |c::r=>by
  obtain ⟨h1,h2,h3,h4⟩:=qRi r
  by_cases hc:c=32
  ·have e:qDL (c::r)=([],r):=by unfold qDL;rw [if_pos hc]
   rw [e]
   exact ⟨rfl,fun h=>by simp at h,fun _=>rfl,Nat.zero_le _⟩
  ·have e:qDL (c::r)=(c::(qDL r).1,(qDL r).2):=by
    conv=>lhs;unfold qDL
    rw [if_neg hc]
   rw [e]
   simp only [List.length_cons,List.take_succ_cons,List.drop_succ_cons,List.cons.injEq,true_and]
   exact ⟨h1,fun h=>h2 (by omega),fun h=>h3 (by omega),by omega⟩
theorem qNe (n:Nat) (s:BA) (hb:s.size≤140737488351232):∀(r pre:List UInt8) (M:Nat),s.toList=pre++r→r.length+1≤M→
  zF (qE3 n) M (s,(pre.length:Int))=some (s,((pre.length+(qDL r).1.length:Nat):Int))
 | [],pre,M,h1,h2=>by
  obtain ⟨M,rfl⟩:∃q,M=q+1:=⟨M-1,by simp at h2;omega⟩
  have hl:s.size=pre.length:=by rw [←qu,h1];simp
  exact qP (qO (zx (by simp only;omega)) rfl)
 |c::r,pre,M,h1,h2=>by
  obtain ⟨M,rfl⟩:∃q,M=q+1:=⟨M-1,by simp at h2;omega⟩
  have hl:s.size=pre.length+(r.length+1):=by rw [←qu,h1];simp
  have hg:s.toList[pre.length]?=some c:=by rw [h1];simp
  have hw:IntKind.i64.wrap ((pre.length:Int)+1)=((pre++ [c]).length:Int):=by rw [qU (by omega)];simp
  by_cases hc:c=32
  ·have e:qDL (c::r)=([],r):=by unfold qDL;rw [if_pos hc]
   rw [e]
   exact qP (qD (zD (by simp only;omega)) (qD (zD (by simp)) (qA (by simpa using hg) (qO (by subst hc;rfl) rfl))))
  ·have e:qDL (c::r)=(c::(qDL r).1,(qDL r).2):=by
    conv=>lhs;unfold qDL
    rw [if_neg hc]
   have hne:((c.toNat:Int) !=32)=true:=by
    rw [bne_iff_ne]
    intro h
    exact hc (UInt8.toNat_inj.1 (by show c.toNat=32;omega))
   rw [qT (v':=(s,((pre++ [c]).length:Int))) (qD (zD (by simp only;omega)) (qD (zD (by simp)) (qA (by simpa using hg) (qD hne (by rw [←hw];rfl)))))]
   rw [qNe n s hb r (pre++ [c]) M (by rw [h1];simp) (by simp at h2;omega),e]
   simp
   omega
theorem qJ8 (s:BA) (hb:s.size≤1048576):Ev (qDP · s) (qw s):=by
 refine ⟨s.size+3,fun n hn=>?_⟩
 obtain ⟨m,rfl,hm⟩:=up1 hn
 have h:=qNe m s (by omega) s.toList [] m rfl (by rw [qu];omega)
 obtain ⟨h1,h2,h3,h4⟩:=qRi s.toList
 simp only [List.length_nil,Nat.zero_add] at h
 rw [qu] at h2 h3 h4
 refine qA h ?_
 generalize hk:(qDL s.toList).1.length=k at*
 by_cases he:k=s.size
 ·refine qD (beq_iff_eq.2 (by simp only;omega)) ?_
  have e:qw s=(s,⟨#[]⟩):=by
   unfold qw
   rw [h2 he,h1,he,←qu,List.take_length]
   exact Prod.ext (qIF s) rfl
  rw [e]
  rfl
 ·have hlt:k<s.size:=by omega
  have hw:IntKind.i64.wrap ((k:Int)+1)=((k+1:Nat):Int):=by rw [qU (by omega)];omega
  refine qO (beq_eq_false_iff_ne.2 (by simp only;omega)) (qD (zD (by simp only;omega)) (qD (zD (by simp only [hw];omega)) ?_))
  simp only [hw,qC,Int.toNat_natCast]
  have q1:s.extract 0 k=mkB (qDL s.toList).1:=qDT (by rw [qO3,qGt,←h1])
  have q2:s.extract (k+1) s.size=mkB (qDL s.toList).2:=qDT (by rw [qEw,qGt,h3 hlt])
  rw [show ((0:Int)).toNat=0 from rfl,q1,q2]
  rfl
def qCo:List UInt8→List UInt8→List (List UInt8)×List UInt8
 |line,[]=>([],line)
 |line,c::r=>if c=10 then (line::(qCo [] r).1,(qCo [] r).2) else qCo (line++ [c]) r
theorem qNQ:∀(r line:List UInt8),qCo line r=match (qAz r).1 with
  | []=>([],line++(qAz r).2)
  |l::ls=>((line++l)::ls,(qAz r).2)
 | [],line=>by simp [qCo,qAz]
 |c::r,line=>by
  unfold qCo qAz
  by_cases hc:c=10
  ·rw [if_pos hc,if_pos hc,qNQ r []]
   cases h:(qAz r).1 with
   |nil=>simp
   |cons l ls=>simp
  ·rw [if_neg hc,if_neg hc,qNQ r (line++ [c])]
   cases h:(qAz r).1 with
   |nil=>simp
   |cons l ls=>simp
theorem qPY (r:List UInt8):qCo [] r=qAz r:=by
 rw [qNQ]
 cases h:(qAz r).1 with
 |nil=>simp [←h]
 |cons l ls=>simp [←h]
def qNf (l:List UInt8):List PV:= [.s (mkB l)]
theorem qPZ:∀(r line:List UInt8),(∀x∈(qCo line r).1,x.length≤line.length+r.length)
 | [],line=>fun x hx=>by simp [qCo] at hx
 |c::r,line=>fun x hx=>by
  unfold qCo at hx
  split at hx
  ·rcases List.mem_cons.1 hx with rfl|hx
   ·omega
   ·have:=qPZ r [] x hx
    simp only [List.length_cons,List.length_nil] at this⊢
    omega
  ·have:=qPZ r (line++ [c]) x hx
   simp only [List.length_append,List.length_cons,List.length_nil] at this⊢
   omega
theorem qTc {s:BA} {i:Nat} {c:UInt8} (h:s.toList[i]?=some c):(s.extract i (i+1)).toList= [c]:=by
 have hi:=(List.getElem?_eq_some_iff.1 h).1
 rw [Go.Lib.toList_data] at h⊢
 rw [Lib.extract_data]
 have:s.data.toList.drop i=c::s.data.toList.drop (i+1):=qEU h
 first
 |(rw [this];simp)
 |(rw [List.drop_take,this];simp)
theorem qHi (n:Nat) (s:BA) (hb:s.size≤1048576):∀(r pre line:List UInt8) (out:List (List UInt8)) (M:Nat),s.toList=pre++r→line.length≤pre.length→out.length≤pre.length→r.length+1≤M→
  zF (qEH n) M (s,out.length,mkB line,(pre.length:Int),out.map qNf)=some (out.length+(qCo line r).1.length,mkB (qCo line r).2,(out++(qCo line r).1).map qNf)
 | [],pre,line,out,M,h1,h2,h3,h4=>by
  obtain ⟨M,rfl⟩:∃q,M=q+1:=⟨M-1,by simp at h4;omega⟩
  have hl:s.size=pre.length:=by rw [←qu,h1];simp
  have e:qCo line []=([],line):=rfl
  rw [e,List.append_nil]
  exact qP (qO (zx (by simp only;omega)) rfl)
 |c::r,pre,line,out,M,h1,h2,h3,h4=>by
  obtain ⟨M,rfl⟩:∃q,M=q+1:=⟨M-1,by simp at h4;omega⟩
  have hl:s.size=pre.length+(r.length+1):=by rw [←qu,h1];simp
  have hg:s.toList[pre.length]?=some c:=by rw [h1];simp
  have hw:IntKind.i64.wrap ((pre.length:Int)+1)=((pre.length+1:Nat):Int):=by rw [qU (by omega)];omega
  by_cases hc:c=10
  ·have e:qCo line (c::r)=(line::(qCo [] r).1,(qCo [] r).2):=by
    conv=>lhs;unfold qCo
    rw [if_pos hc]
   rw [qT (v':=(s,(out++ [line]).length,mkB [],((pre++ [c]).length:Int),(out++ [line]).map qNf)) (qD (zD (by simp only;omega)) (qD (zD (by simp)) (qA (by simpa using hg) (qD (by subst hc;rfl) (qD rfl (qD (zD ⟨by simp,by decide,by decide,by simp;omega,rfl⟩) (by
     simp only [qC,hw,List.length_append,List.length_cons,List.length_nil,List.map_append,List.map_cons,List.map_nil]
     rfl)))))))]
   rw [qHi n s hb r (pre++ [c]) [] (out++ [line]) M (by rw [h1];simp) (by simp) (by simp;omega) (by simp at h4;omega),e]
   simp
   omega
  ·have e:qCo line (c::r)=qCo (line++ [c]) r:=by
    conv=>lhs;unfold qCo
    rw [if_neg hc]
   have hne:((c.toNat:Int)==10)=false:=by
    rw [beq_eq_false_iff_ne]
    intro h
    exact hc (UInt8.toNat_inj.1 (by show c.toNat=10;omega))
   have hx:mkB line++s.extract pre.length (pre.length+1)=mkB (line++ [c]):=by
    apply qDT
    rw [qLX,qGt,qGt,qTc hg]
   have hz:(mkB line).size+(s.extract pre.length (pre.length+1)).size≤9223372036854775807:=by
    have:=qMP line
    unfold mkB
    rw [this,ByteArray.size_extract]
    omega
   rw [qT (v':=(s,out.length,mkB (line++ [c]),((pre++ [c]).length:Int),out.map qNf)) (qD (zD (by simp only;omega)) (qD (zD (by simp)) (qA (by simpa using hg) (qO hne (qD (zD (by simp only [hw];omega)) (qD (zD (by simpa only [hw,Int.toNat_natCast] using hz)) (by
     simp only [qC,hw,Int.toNat_natCast,hx,List.length_append,List.length_cons,List.length_nil])))))))]
   rw [qHi n s hb r (pre++ [c]) (line++ [c]) out M (by rw [h1];simp) (by simp;omega) (by simp;omega) (by simp at h4;omega),e]
theorem qNR (s:BA) (hb:s.size≤1048576):Ev (qFh · s) ((qAz s.toList).1.map qNf,(qAz s.toList).2== []):=by
 refine ⟨s.size+3,fun n hn=>?_⟩
 obtain ⟨m,rfl,hm⟩:=up1 hn
 have h:=qHi m s hb s.toList [] [] [] m rfl (Nat.le_refl _) (Nat.le_refl _) (by rw [qu];omega)
 rw [qPY] at h
 simp only [List.length_nil,Nat.zero_add,List.nil_append,List.map_nil] at h
 refine qA h (qD (zD (by simp)) ?_)
 have e:((mkB (qAz s.toList).2).toList==(⟨#[]⟩:BA).toList)=((qAz s.toList).2== []):=by rw [qGt,qp]
 simp only [qC,e]
theorem qUe:(⟨#[115,101,116]⟩:BA).toList= [115,101,116]∧(⟨#[112,117,116]⟩:BA).toList= [112,117,116]∧(⟨#[117,110,108,101,115,115]⟩:BA).toList= [117,110,108,101,115,115]∧(⟨#[119,104,105,108,101]⟩:BA).toList= [119,104,105,108,101]∧(⟨#[97,98,111,114,116]⟩:BA).toList= [97,98,111,114,116]:=by
 refine ⟨?_,?_,?_,?_,?_⟩<;>(rw [Go.Lib.toList_data])
theorem kw (w:BA):(w.toList==(⟨#[115,101,116]⟩:BA).toList)=decide (qBc w=1)∧(w.toList==(⟨#[112,117,116]⟩:BA).toList)=decide (qBc w=2)∧(w.toList==(⟨#[117,110,108,101,115,115]⟩:BA).toList)=decide (qBc w=3)∧
  (w.toList==(⟨#[119,104,105,108,101]⟩:BA).toList)=decide (qBc w=4)∧(w.toList==(⟨#[97,98,111,114,116]⟩:BA).toList)=decide (qBc w=5):=by
 obtain ⟨w1,w2,w3,w4,w5⟩:=qUB
 obtain ⟨l1,l2,l3,l4,l5⟩:=qUe
 unfold qBc
 rw [w1,w2,w3,w4,w5,l1,l2,l3,l4,l5]
 generalize w.toList=l
 by_cases h5:l= [97,98,111,114,116]
 ·subst h5;decide
 by_cases h4:l= [119,104,105,108,101]
 ·subst h4;decide
 by_cases h3:l= [117,110,108,101,115,115]
 ·subst h3;decide
 by_cases h2:l= [112,117,116]
 ·subst h2;decide
 by_cases h1:l= [115,101,116]
 ·subst h1;decide
 rw [if_neg h5,if_neg h4,if_neg h3,if_neg h2,if_neg h1]
 simp [h1,h2,h3,h4,h5]
theorem qDX {m:Nat} {acc:List (List PV)} {e:List PV} (hm:m=acc.length) (hb:m≤1000) (he:e.length=5):decide (m=acc.length∧0<5∧0<48∧(m+ [e].length)*48≤140737488355328∧ [e].all (fun e=>e.length==5)=true)=true:=
 zD ⟨hm,by decide,by decide,by simp;omega,by simp [he]⟩
theorem qTd {s:BA} (hb:s.size≤1048576):(rd2 s).2.2.2.1.size≤1048576:=by
 have h1:=qEX s
 have h2:=qEX (qw s).2
 unfold rd2
 split
 ·simp only;omega
 ·split
  ·simp only;omega
  ·simp only;omega
theorem qRj {α:Type} {g:α→List PV} {l:List α} {i:Nat} {a:α} (h:l[i]?=some a):(l.take (i+1)).map g=(l.take i).map g++ [g a]:=by
 rw [List.take_add_one,h,List.map_append]
 rfl
theorem qRk (s:BA) (ls:List (List UInt8)) (hl:ls.length≤30) (hz:∀l∈ls,l.length≤1048576):Ev (fun n=>zF (qCX n) n (s,ls.map qNf,(0:Nat),(0:Int),([]:List (List PV)))) (s,ls.length,ls.map fun l=>qv (rd2 (mkB l))):=by
 have z1:∀l∈ls,(mkB l).size≤1048576:=fun l h=>by have:=hz l h;unfold mkB;rw [qMP];exact this
 have z2:∀l∈ls,(qw (mkB l)).2.size≤1048576:=fun l h=>Nat.le_trans (qEX _).2 (z1 l h)
 have z3:∀l∈ls,(qw (qw (mkB l)).2).1.size≤1048576:=fun l h=>Nat.le_trans (qEX _).1 (z2 l h)
 obtain ⟨n1,h1⟩:=qAt (F:=fun (l:List UInt8) n=>qDP n (mkB l)) (f:=fun l=>qw (mkB l)) ls fun l h=>qJ8 _ (z1 l h)
 obtain ⟨n2,h2⟩:=qAt (F:=fun (l:List UInt8) n=>qDP n (qw (mkB l)).2) (f:=fun l=>qw (qw (mkB l)).2) ls fun l h=>qJ8 _ (z2 l h)
 obtain ⟨n3,h3⟩:=qAt (F:=fun (l:List UInt8) n=>qAQ n (qw (qw (mkB l)).2).1) (f:=fun l=>qAN (qw (qw (mkB l)).2).1) ls fun l h=>qHC _ (z3 l h)
 obtain ⟨n4,h4⟩:=qAt (F:=fun (l:List UInt8) n=>qm n (qw (qw (mkB l)).2).1 2) (f:=fun l=>l1I (qw (qw (mkB l)).2).1.toList 2) ls fun l h=>qDR _ 2 (by decide)
 refine ⟨n1+n2+n3+n4+ls.length+5,fun m hm=>?_⟩
 have h:=qSt (B:=qCX m) (fun i=>(s,ls.map qNf,i,(i:Int),(ls.take i).map fun l=>qv (rd2 (mkB l)))) ls (fun _ _=>none) (s,ls.length,ls.map fun l=>qv (rd2 (mkB l)))
  (fun i l he=>by
   have hi:=(List.getElem?_eq_some_iff.1 he).1
   have hmem:=zy he
   obtain ⟨a1,a2⟩:=qNP (k:=(i:Int)) rfl (qSZ (enc:=qNf) he)
   have h1:=h1 m (by omega) l hmem
   have h2:=h2 m (by omega) l hmem
   have h3:=h3 m (by omega) l hmem
   have h4:=h4 m (by omega) l hmem
   have w:IntKind.i64.wrap ((i:Int)+1)=((i+1:Nat):Int):=by rw [qU (by omega)];omega
   have hacc:i=((ls.take i).map fun l=>qv (rd2 (mkB l))).length:=by simp;omega
   have hb:=qRj (g:=fun l=>qv (rd2 (mkB l))) he
   generalize ((ls.take i).map fun l=>qv (rd2 (mkB l)))=acc at*
   generalize hW:(qw (mkB l)).1=W at*
   obtain ⟨w1,w2,w3,w4,w5⟩:=kw W
   have hk:=qRe W
   have r2:=fun (x:Sm) (hx:rd2 (mkB l)=x)=>(show ((ls.take (i+1)).map fun l=>qv (rd2 (mkB l)))=acc++ [qv x] by rw [hb,hx])
   have hr:∀{k:Int},qBc W=k→∀{x:Sm},(if k=5 then ((5,0,0,(qw (mkB l)).2,0):Sm) else if k=1∨k=2 then (k,(qAN (qw (qw (mkB l)).2).1).1,(qAN (qw (qw (mkB l)).2).1).2.1,(qw (qw (mkB l)).2).2,0)
    else (k,0,0,(qw (qw (mkB l)).2).2,(l1I (qw (qw (mkB l)).2).1.toList 2).1))=x→rd2 (mkB l)=x:=fun {k} h {x} hx=>by
    unfold rd2
    rw [hW,h]
    exact hx
   refine qD (zD (by simpa using hi)) (qD a1 (qA a2 (qD rfl (qA rfl (qA h1 ?_)))))
   simp only [hW,w1,w2,w3,w4,w5,w]
   have ok:∀x:Sm,decide (i=acc.length∧0<5∧0<48∧(i+ [qv x].length)*48≤140737488355328∧ [qv x].all (fun e=>e.length==5)=true)=true:=fun x=>qDX hacc (by omega) rfl
   have k6:qBc W=0∨qBc W=1∨qBc W=2∨qBc W=3∨qBc W=4∨qBc W=5:=by omega
   rcases k6 with k|k|k|k|k|k
   ·rw [k]
    refine qD rfl (qA h2 (qA h3 (qA h4 (qO rfl (qO rfl (qO rfl (qO rfl (qO rfl (qO rfl (qO rfl (qD rfl (qD (qDX hacc (by omega) rfl) ?_))))))))))))
    rw [r2 _ (hr k (if_neg (by decide)))]
    rfl
   ·rw [k]
    refine qD rfl (qA h2 (qA h3 (qA h4 (qD rfl (qD rfl (qD rfl (qD (qDX hacc (by omega) rfl) ?_)))))))
    rw [r2 _ (hr k (if_neg (by decide)))]
    rfl
   ·rw [k]
    refine qD rfl (qA h2 (qA h3 (qA h4 (qO rfl (qD rfl (qO rfl (qD rfl (qD rfl (qD (qDX hacc (by omega) rfl) ?_)))))))))
    rw [r2 _ (hr k (if_neg (by decide)))]
    rfl
   ·rw [k]
    refine qD rfl (qA h2 (qA h3 (qA h4 (qO rfl (qO rfl (qO rfl (qO rfl (qD rfl (qD rfl (qD (qDX hacc (by omega) rfl) ?_))))))))))
    rw [r2 _ (hr k (if_neg (by decide)))]
    rfl
   ·rw [k]
    refine qD rfl (qA h2 (qA h3 (qA h4 (qO rfl (qO rfl (qO rfl (qO rfl (qO rfl (qD rfl (qD rfl (qD (qDX hacc (by omega) rfl) ?_)))))))))))
    rw [r2 _ (hr k (if_neg (by decide)))]
    rfl
   ·rw [k]
    refine qO rfl (qO rfl (qO rfl (qO rfl (qO rfl (qD rfl (qD rfl (qD (qDX hacc (by omega) rfl) ?_)))))))
    rw [r2 _ (hr k (if_pos rfl))]
    rfl)
  (qO (zx (by simp)) (by rw [List.take_length];rfl)) m (by omega)
 rw [qIE] at h
 exact h
theorem qT3 (s:BA):((qAz s.toList).1.map fun l=>qv (rd2 (mkB l)))=(slS s).map qv:=by
 unfold slS
 rw [List.map_map,List.map_map]
 rfl
theorem qT4 (s:BA):(slS s).length=(qAz s.toList).1.length:=by unfold slS;simp
theorem qSw (s:BA):∀l∈(qAz s.toList).1,l.length≤s.size:=fun l hl=>by
 rw [←qPY] at hl
 have:=qPZ s.toList [] l hl
 rw [qu] at this
 simpa using this
theorem qMR (s:BA) (hb:s.size≤1048576):Ev (qE9 · s) ((rmS s).1.length,(rmS s).2,(rmS s).1.map qv):=by
 have hz:∀l∈(qAz s.toList).1,l.length≤1048576:=fun l hl=>Nat.le_trans (qSw s l hl) hb
 refine qJ7 (qGs (R:=fun n=>qE8 n s) (qCB (qNR s hb) ?_) fun n=>rfl)
 by_cases hr:(qAz s.toList).2= []
 ·refine qD9 (by simp [hr]) ?_
  by_cases hl:(qAz s.toList).1.length≤30
  ·have hsz:∀c∈slS s,c.2.2.2.1.size≤140737488351232:=fun c hc=>by
    unfold slS at hc
    obtain ⟨x,hx,rfl⟩:=List.mem_map.1 hc
    obtain ⟨l,hl,rfl⟩:=List.mem_map.1 hx
    have:=qTd (s:=mkB l) (by unfold mkB;rw [qMP];exact hz l hl)
    omega
   have hlen:=qT4 s
   refine qD9 (zx (by simp;omega)) (qCB (qRk s _ hl hz) (qCE (zD (by simp)) ?_))
   simp only [qT3]
   rw [←hlen]
   refine qCB (qI9 (slS s) (by omega) hsz) (qCE (qF _) ?_)
   cases hB:qDl (slS s) with
   |false=>
    have e:rmS s=([],false):=by unfold rmS;rw [if_neg (fun h=>by rw [hB] at h;cases h.2.1)]
    exact qCE rfl (qAW (by rw [e];rfl))
   |true=>
    refine qD9 rfl (qCE (zD (by simp)) (qCB (qMO (slS s) (by omega) hsz) (qCE (qH _) ?_)))
    rw [if_pos hB]
    by_cases ht:(mcx (slS s)).toList=s.toList
    ·have e:rmS s=(slS s,true):=by unfold rmS;rw [if_pos ⟨⟨hr,hl⟩,hB,ht⟩]
     exact qD9 (by simp [ht]) (qAW (by rw [e]))
    ·have e:rmS s=([],false):=by unfold rmS;rw [if_neg (fun h=>ht h.2.2)]
     exact qCE (by simp [ht]) (qAW (by rw [e];rfl))
  ·have e:rmS s=([],false):=by unfold rmS;rw [if_neg (fun h=>hl h.1.2)]
   exact qCE (zD (by simp;omega)) (qAW (by rw [e];rfl))
 ·have e:rmS s=([],false):=by unfold rmS;rw [if_neg (fun h=>hr h.1.1)]
  exact qCE (by simp [hr]) (qAW (by rw [e];rfl))
theorem qSA (s:BA) (hb:s.size≤1048576):Ev (qDa · s) ((qAN s).1,(qAN s).2.1):=qJ7 (qGs (R:=fun n=>qGP n s) (qCB (qHD s hb) (qAW rfl)) fun n=>rfl)
theorem qP0 (s:BA) (hb:s.size≤1048576):Ev (qCa · s) (qPV s):=by
 have key:∃r,zK s 10 64=some r:=by
  unfold zK
  rw [if_pos ⟨rfl,rfl,by omega⟩]
  split<;>exact ⟨_,rfl⟩
 obtain ⟨r,hr⟩:=key
 have e:Ev (qAX · s 10 64) r:=⟨1,fun n hn=>by
  obtain ⟨m,rfl,hm⟩:=up1 hn
  exact hr⟩
 refine qJ7 (qGs (R:=fun n=>qEm n s) (qCB e ?_) fun n=>rfl)
 unfold qPV
 rw [hr]
 rcases r with v|v
 ·exact qUZ (qD9 rfl (qAW rfl))
 ·exact qUY (qCE rfl (qAW rfl))
theorem qRl {s:BA} (hb:s.size≤1048576) {m:Nat} (hm:1≤m):qDQ m s ⟨#[32]⟩=some ((qw s).1,(qw s).2,qUb s):=by
 obtain ⟨q,rfl,_⟩:=up1 hm
 exact qUx hb
theorem qIG {n:Nat} (hn:1≤n) {a:BA} {m:Nat} {w r:BA} {rows acc:List (List PV)} {len i j c1 c2 mn:Int} {t:BA} {k k':Int} (hk:k=1∨k=2∨k=3∨k=4∨k=5) (hk':IntKind.i64.wrap (k+1)=k'):
  (qCO n (a,m,w,r,k,rows,len,i,acc,j,c1,c2,t,mn)).run=some (.inl (a,m,w,r,k',rows,len,i,acc,(if w.toList=(qBx k).toList then k else j),c1,c2,t,mn)):=by
 obtain ⟨q,rfl,_⟩:=up1 hn
 refine qD (zD (by simp only;omega)) (qA (qUA hk q) ?_)
 rw [←hk']
 by_cases h:w.toList=(qBx k).toList
 ·rw [if_pos h]
  exact qD (by simp [h]) rfl
 ·rw [if_neg h]
  exact qO (by simp [h]) rfl
theorem qSB {n M:Nat} (hn:1≤n) (hM:6≤M) (a:BA) (m:Nat) (w r:BA) (rows acc:List (List PV)) (len i c1 c2 mn:Int) (t:BA):
  zF (qCO n) M (a,m,w,r,1,rows,len,i,acc,0,c1,c2,t,mn)=some (a,m,r,rows,len,i,acc,qBc w,c1,c2,t,mn):=by
 obtain ⟨M,rfl⟩:∃q,M=q+6:=⟨M-6,by omega⟩
 rw [qT (qIG hn (.inl rfl) (k':=2) (by decide)),qT (qIG hn (.inr (.inl rfl)) (k':=3) (by decide)),qT (qIG hn (.inr (.inr (.inl rfl))) (k':=4) (by decide)),qT (qIG hn (.inr (.inr (.inr (.inl rfl)))) (k':=5) (by decide)),
  qT (qIG hn (.inr (.inr (.inr (.inr rfl)))) (k':=6) (by decide))]
 exact qP (qO rfl rfl)
def qMS (x:BA):List PV:= [.s x]
theorem qTe {s:BA} (hb:s.size≤1048576):(rd1 s).2.2.2.1.size≤1048576:=by
 have h1:=qEX s
 have h2:=qEX (qw s).2
 unfold rd1
 split
 ·simp only;omega
 ·split
  ·simp only;omega
  ·simp only;omega
theorem qRm (s:BA) (ls:List BA) (hl:ls.length≤31) (hz:∀l∈ls,l.size≤1048576):Ev (fun n=>zF (qCs n) n (s,(0:Nat),ls.map qMS,((ls.map qMS).length:Int),(0:Int),([]:List (List PV)))) (s,ls.length,ls.map fun l=>qv (rd1 l)):=by
 have z2:∀l∈ls,(qw l).2.size≤1048576:=fun l h=>Nat.le_trans (qEX _).2 (hz l h)
 have z3:∀l∈ls,(qw (qw l).2).1.size≤1048576:=fun l h=>Nat.le_trans (qEX _).1 (z2 l h)
 obtain ⟨n3,h3⟩:=qAt (F:=fun (l:BA) n=>qDa n (qw (qw l).2).1) (f:=fun l=>((qAN (qw (qw l).2).1).1,(qAN (qw (qw l).2).1).2.1)) ls fun l h=>qSA _ (z3 l h)
 obtain ⟨n4,h4⟩:=qAt (F:=fun (l:BA) n=>qCa n (qw (qw l).2).1) (f:=fun l=>qPV (qw (qw l).2).1) ls fun l h=>qP0 _ (z3 l h)
 refine ⟨n3+n4+ls.length+9,fun m hm=>?_⟩
 have h:=qSt (B:=qCs m) (fun i=>(s,i,ls.map qMS,((ls.map qMS).length:Int),(i:Int),(ls.take i).map fun l=>qv (rd1 l))) ls (fun _ _=>none) (s,ls.length,ls.map fun l=>qv (rd1 l))
  (fun i l he=>by
   have hi:=(List.getElem?_eq_some_iff.1 he).1
   have hmem:=zy he
   obtain ⟨a1,a2⟩:=qNP (k:=(i:Int)) rfl (qSZ (enc:=qMS) he)
   have h3:=h3 m (by omega) l hmem
   have h4:=h4 m (by omega) l hmem
   have c1:=qRl (hz l hmem) (show 1≤m by omega)
   have c2:=qRl (z2 l hmem) (show 1≤m by omega)
   have w:IntKind.i64.wrap ((i:Int)+1)=((i+1:Nat):Int):=by rw [qU (by omega)];omega
   have hacc:i=((ls.take i).map fun l=>qv (rd1 l)).length:=by simp;omega
   have hb:=qRj (g:=fun l=>qv (rd1 l)) he
   generalize ((ls.take i).map fun l=>qv (rd1 l))=acc at*
   have hk:=qRe (qw l).1
   have hr:∀{k:Int},qBc (qw l).1=k→∀{x:Sm},(if k=1∨k=2 then ((k,(qAN (qw (qw l).2).1).1,(qAN (qw (qw l).2).1).2.1,(qw (qw l).2).2,0):Sm)
    else if k=3∨k=4 then (k,0,0,(qw (qw l).2).2,qPV (qw (qw l).2).1) else (k,0,0,(qw l).2,0))=x→rd1 l=x:=fun {k} h {x} hx=>by
    unfold rd1
    rw [h]
    exact hx
   have r2:=fun (x:Sm) (hx:rd1 l=x)=>(show ((ls.take (i+1)).map fun l=>qv (rd1 l))=acc++ [qv x] by rw [hb,hx])
   have ok:∀x:Sm,decide (i=acc.length∧0<5∧0<48∧(i+ [qv x].length)*48≤140737488355328∧ [qv x].all (fun e=>e.length==5)=true)=true:=fun x=>qDX hacc (by omega) rfl
   refine qD (zD (by simpa using hi)) (qD a1 (qA a2 (qD rfl (qA rfl (qA c1 (qA (qSB (by omega) (by omega) _ _ _ _ _ _ _ _ _ _ _ _) (qA c2 ?_)))))))
   dsimp only
   rw [w]
   have k6:qBc (qw l).1=0∨qBc (qw l).1=1∨qBc (qw l).1=2∨qBc (qw l).1=3∨qBc (qw l).1=4∨qBc (qw l).1=5:=by omega
   rcases k6 with k|k|k|k|k|k
   ·rw [k]
    refine qO rfl (qO rfl (qO rfl (qO rfl (qD rfl (qD (qDX hacc (by omega) rfl) ?_)))))
    rw [r2 _ (hr k ((if_neg (by decide)).trans (if_neg (by decide))))]
    rfl
   ·rw [k]
    refine qD rfl (qA h3 (qD rfl (qD (qDX hacc (by omega) rfl) ?_)))
    rw [r2 _ (hr k (if_pos (by decide)))]
    rfl
   ·rw [k]
    refine qO rfl (qD rfl (qA h3 (qD rfl (qD (qDX hacc (by omega) rfl) ?_))))
    rw [r2 _ (hr k (if_pos (by decide)))]
    rfl
   ·rw [k]
    refine qO rfl (qO rfl (qD rfl (qA h4 (qD rfl (qD (qDX hacc (by omega) rfl) ?_)))))
    rw [r2 _ (hr k ((if_neg (by decide)).trans (if_pos (by decide))))]
    rfl
   ·rw [k]
    refine qO rfl (qO rfl (qO rfl (qD rfl (qA h4 (qD rfl (qD (qDX hacc (by omega) rfl) ?_))))))
    rw [r2 _ (hr k ((if_neg (by decide)).trans (if_pos (by decide))))]
    rfl
   ·rw [k]
    refine qO rfl (qO rfl (qO rfl (qO rfl (qD rfl (qD (qDX hacc (by omega) rfl) ?_)))))
    rw [r2 _ (hr k ((if_neg (by decide)).trans (if_neg (by decide))))]
    rfl)
  (qO (zx (by simp)) (by rw [List.take_length];rfl)) m (by omega)
 rw [qIE] at h
 exact h
theorem qSx (sep:BA) (k:Nat) (s:BA):1≤(Lib.splitB sep 0 k s).length:=by
 cases k with
 |zero=>exact Nat.le_refl _
 |succ k=>
  unfold Lib.splitB
  split
  ·exact Nat.le_refl _
  ·simp
theorem qMT (s:BA) (hb:s.size≤1048576):Ev (qDq · s) ((rmP s).1.length,(rmP s).2,(rmP s).1.map qv):=by
 have e1:Ev (qFA · s ⟨#[10]⟩ 32) ((Lib.splitB ⟨#[10]⟩ 0 (min 32 (s.size+1)-1) s).map qMS):=⟨1,fun n hn=>by
  obtain ⟨m,rfl,_⟩:=up1 hn
  show zAc s ⟨#[10]⟩ 32=_
  unfold zAc
  rw [if_pos ⟨by omega,by decide,by decide,by decide⟩]
  rfl⟩
 have hlen:=qSx ⟨#[10]⟩ (min 32 (s.size+1)-1) s
 have hlen2:=Lib.splitB_length_le ⟨#[10]⟩ 0 (min 32 (s.size+1)-1) s
 have hw:∀k:Nat,1≤k→k≤100→IntKind.i64.wrap ((k:Int)-1)=((k-1:Nat):Int):=fun k h1 h2=>by rw [qU (by omega)];omega
 have hdl:(((Lib.splitB ⟨#[10]⟩ 0 (min 32 (s.size+1)-1) s).map qMS).take ((Lib.splitB ⟨#[10]⟩ 0 (min 32 (s.size+1)-1) s).length-1)).drop 0=(plS s).map qMS:=by
  unfold plS
  rw [List.drop_zero,←List.map_take,List.dropLast_eq_take]
 have hpl:=qSc s
 have hz:∀x∈plS s,x.size≤1048576:=fun x hx=>Nat.le_trans (qUc s x hx) hb
 have hsz:∀c∈(plS s).map rd1,c.2.2.2.1.size≤140737488351232:=fun c hc=>by
  obtain ⟨x,hx,rfl⟩:=List.mem_map.1 hc
  have:=qTe (hz x hx)
  omega
 have hmap:((plS s).map fun l=>qv (rd1 l))=((plS s).map rd1).map qv:=by rw [List.map_map];rfl
 refine qJ7 (qGs (R:=fun n=>qFG n s) (qCB e1 ?_) fun n=>rfl)
 simp only [List.length_map]
 rw [hw _ hlen (by omega)]
 simp only [Int.toNat_natCast]
 rw [show ((0:Int)).toNat=0 from rfl,hdl]
 refine qCE (zD ⟨by decide,by omega,by omega,by simp [qMS]⟩) (qCB (qRm s (plS s) hpl hz) (qCE (zD (by simp)) ?_))
 simp only [hmap]
 refine qCB (qOG ((plS s).map rd1) (by simp;omega) hsz) (qCE (qF _) ?_)
 cases hB:qDl ((plS s).map rd1) with
 |false=>
  have e:rmP s=([],false):=by unfold rmP;rw [if_neg (fun h=>by rw [hB] at h;cases h.1)]
  exact qCE rfl (qAW (by rw [e];rfl))
 |true=>
  obtain ⟨hl,hst⟩:=qPR hB
  refine qD9 rfl (qCE (zD (by simp)) (qCB (qMN ((plS s).map rd1) hl hst) (qCE (qH _) ?_)))
  by_cases ht:(mcx ((plS s).map rd1)).toList=s.toList
  ·have e:rmP s=((plS s).map rd1,true):=by unfold rmP;rw [if_pos ⟨hB,ht⟩]
   exact qD9 (by simp [ht]) (qAW (by rw [e];simp))
  ·have e:rmP s=([],false):=by unfold rmP;rw [if_neg (fun h=>ht h.2)]
   exact qCE (by simp [ht]) (qAW (by rw [e];rfl))
noncomputable def qPa (k:Int):Sm:=(k,k+1,k+2,mtx (k+3),k+4)
noncomputable def qLa:Int→List Sm→List Sm
 |_,[]=> []
 |k,_::r=>qPa k::qLa (k+5) r
theorem qMU:∀(k:Int) (l:List Sm),(qLa k l).length=l.length
 |_,[]=>rfl
 |k,_::r=>by simp [qLa,qMU (k+5) r]
theorem qPb (n:Nat) (hn:25≤n) (len:Nat) (hb:len≤140737488351232):∀(r pre:List Sm) (k:Int) (M:Nat),pre.length+r.length=len→1≤k→k+5*r.length≤1000000000000000→r.length+1≤M→
  zF (qB2 n) M (len,k,(pre.length:Int),(pre++r).map qv)=some (k+5*r.length,(pre++qLa k r).map qv)
 | [],pre,k,M,h1,h2,h3,h4=>by
  obtain ⟨M,rfl⟩:∃q,M=q+1:=⟨M-1,by simp at h4;omega⟩
  have hp:pre.length=len:=by simpa using h1
  rw [qP (r:=(k,pre.map qv)) (by simp [qB2,qC,qE,qJ,qK,qM,qN,zC,qF,qG,qH,hp])]
  simp [qLa]
 |c::r,pre,k,M,h1,h2,h3,h4=>by
  obtain ⟨M,rfl⟩:∃q,M=q+1:=⟨M-1,by simp at h4;omega⟩
  simp only [List.length_cons] at h1 h3 h4
  have hi:(pre.length:Int)<len:=by omega
  have hl:((pre++c::r).map qv).length=len:=by simp;omega
  have hg:((pre++c::r).map qv)[pre.length]?=some (qv c):=by simp
  have hlt:pre.length<((pre++c::r).map qv).length:=by rw [hl];omega
  have w1:IntKind.i64.wrap (k+1)=k+1:=qU (by omega)
  have w2:IntKind.i64.wrap (k+1+1)=k+2:=by rw [qU (by omega)];omega
  have w3:IntKind.i64.wrap (k+2+1)=k+3:=by rw [qU (by omega)];omega
  have w4:IntKind.i64.wrap (k+3+1)=k+4:=by rw [qU (by omega)];omega
  have w5:IntKind.i64.wrap (k+4+1)=k+5:=by rw [qU (by omega)];omega
  have wi:IntKind.i64.wrap ((pre.length:Int)+1)=(pre.length:Int)+1:=qU (by omega)
  have m3:=qSz (k:=k+3) (by omega) hn
  have e1:((pre++c::r).map qv).set pre.length (qv (qPa k))=((pre++ [qPa k])++r).map qv:=by
   rw [List.map_append,List.map_cons,List.set_append_right (h:=by simp)]
   simp
  rw [qT (v':=(len,k+5,((pre++ [qPa k]).length:Int),((pre++ [qPa k])++r).map qv)) (by
   rw [←e1]
   generalize ((pre++c::r).map qv)=acc at hl hg hlt
   have hset:∀x,(acc.set pre.length x)[pre.length]?=some x:=fun x=>List.getElem?_set_self hlt
   simp [qB2,qC,qE,qJ,qK,qM,qN,zC,qF,qG,qH,hi,hl,hg,hset,qv,zL,w1,w2,w3,w4,w5,wi,m3,qPa])]
  rw [qPb n hn len hb r (pre++ [qPa k]) (k+5) M (by simp;omega) (by omega) (by omega) (by omega)]
  simp [qLa]
  omega
theorem qMV (l:List Sm) (hb:l.length≤100000000000000):Ev (qDr · l.length 1 (l.map qv)) (1+5*l.length,(qLa 1 l).map qv):=by
 refine ⟨l.length+30,fun n hn=>?_⟩
 obtain ⟨m,rfl,hm⟩:=up1 hn
 have h:=qPb m (by omega) l.length (by omega) l [] 1 m (by simp) (by decide) (by omega) (by omega)
 simp only [qDr,qFI,qC,qE,qJ,qK,qM,qN,zC,qF,qG,qH]
 simp only [List.length_nil,Int.natCast_zero,List.nil_append] at h
 rw [h]
 simp [qC,qE,qJ,qK,qM,qN,zC,qF,qG,qH]
theorem qPc (n:Nat) (hn:25≤n):∀(r pre all:List Sm) (k:Int) (M:Nat),all=pre++qLa k r→all.length≤140737488351232→1≤k→k+5*r.length≤1000000000000000→r.length+1≤M→
  zF (qB3 n) M (all.map qv,k,(pre.length:Int))=some (.inr (k+5*r.length))
 | [],pre,all,k,M,h1,hb,h2,h3,h4=>by
  obtain ⟨M,rfl⟩:∃q,M=q+1:=⟨M-1,by simp at h4;omega⟩
  have hp:all.length=pre.length:=by rw [h1];simp [qLa]
  rw [qP (r:= .inr k) (by simp [qB3,qC,qE,qJ,qK,qM,qN,zC,qF,qG,qH,hp])]
  simp
 |c::r,pre,all,k,M,h1,hb,h2,h3,h4=>by
  obtain ⟨M,rfl⟩:∃q,M=q+1:=⟨M-1,by simp at h4;omega⟩
  simp only [List.length_cons] at h3 h4
  have hlen:all.length=pre.length+(r.length+1):=by rw [h1];simp [qLa,qMU]
  have hg:all[pre.length]?=some (qPa k):=by rw [h1];simp [qLa]
  have hi:(pre.length:Int)<all.length:=by omega
  have w1:IntKind.i64.wrap (k+1)=k+1:=qU (by omega)
  have w2:IntKind.i64.wrap (k+1+1)=k+2:=by rw [qU (by omega)];omega
  have w3:IntKind.i64.wrap (k+2+1)=k+3:=by rw [qU (by omega)];omega
  have w4:IntKind.i64.wrap (k+3+1)=k+4:=by rw [qU (by omega)];omega
  have w5:IntKind.i64.wrap (k+4+1)=k+5:=by rw [qU (by omega)];omega
  have wi:IntKind.i64.wrap ((pre.length:Int)+1)=(pre.length:Int)+1:=qU (by omega)
  have m3:=qSz (k:=k+3) (by omega) hn
  rw [qT (v':=(all.map qv,k+5,((pre++ [qPa k]).length:Int))) (by
   simp [qB3,qC,qE,qJ,qK,qM,qN,zC,qF,qG,qH,hi,hg,qv,zI,zAG,w1,w2,w3,w4,w5,wi,m3,qPa])]
  rw [qPc n hn r (pre++ [qPa k]) all (k+5) M (by rw [h1];simp [qLa]) hb (by omega) (by omega) (by omega)]
  have e2:((c::r).length:Int)=(r.length:Int)+1:=by simp
  rw [e2]
  congr 2
  omega
theorem qMW (l:List Sm) (hb:l.length≤100000000000000):Ev (qC7 · ((qLa 1 l).map qv) 1) (1+5*l.length):=by
 refine ⟨l.length+30,fun n hn=>?_⟩
 obtain ⟨m,rfl,hm⟩:=up1 hn
 have h:=qPc m (by omega) l [] (qLa 1 l) 1 m (by simp) (by rw [qMU];omega) (by decide) (by omega) (by omega)
 simp only [qC7,qFJ,qC,qE,qJ,qK,qM,qN,zC,qF,qG,qH]
 simp only [List.length_nil,Int.natCast_zero] at h
 rw [h]
 simp [qC,qE,qJ,qK,qM,qN,zC,qF,qG,qH]
theorem law (s:BA) (hb:s.size≤140737488351232):Ev (qET · s) true:=by
 refine qJ7 (qGs (R:=fun n=>qC8 n s) ?_ fun n=>rfl)
 by_cases hz:s.size≤1048576
 ·have e1:=qMR s hz
  have e2:=qMT s hz
  rw [qUD] at e2
  have hl:(rmS s).1.length≤31:=by
   rw [←qUD]
   unfold rmP
   split
   ·rw [List.length_map];exact qSc s
   ·exact Nat.zero_le _
  generalize rmS s=q at*
  obtain ⟨l,b⟩:=q
  simp only at e1 e2 hl
  have eL:decide (l.length=(l.map qv).length)=true:=zD (by simp)
  have eM:decide (l.length=((qLa 1 l).map qv).length)=true:=zD (by simp [qMU])
  have hk:¬(1+5*(l.length:Int)<0):=by omega
  have eqS:=qOH l (by omega)
  have qTf:=qMW l (by omega)
  refine qD9 (zx (by omega)) (qCB e1 (qCB e2 (qCE eL (qCE eL (qCB eqS (qCE (qF _) (qD9 rfl (qD9 (by simp) (qCE eL (qCB (qMV l (by omega)) ?_))))))))))
  refine qCE eM (qCB qTf (qCE (qG _) (qD9 (zx hk) (qD9 (by simp) (qCB e2 (qCE eL (qCE eL (qCB eqS (qCE (qF _) (qD9 rfl (qD9 (by simp) (qCE eM (qCB qTf (qCE (qG _) (qD9 (zx hk) (qD9 (by simp) (qAW rfl)))))))))))))))))
 ·exact qCE (zD (by omega)) (qAW rfl)
def b3 (x:Int):Bool:=Int.tmod x 3==0
structure MB (A:List (List PV)) (e:List PV) (i:Nat) (P D:List (List PV)):Prop where
 mbA:A=P++e::D
 mbP:P.length=i
theorem MB.next {A:List (List PV)} {e e':List PV} {i:Nat} {P D:List (List PV)} (h:MB A e i P D):MB (A.set ((i:Nat):Int).toNat e') e' i P D:=by
 rw [Int.toNat_natCast]
 refine ⟨?_,h.mbP⟩
 rw [h.mbA,List.set_append_right (h:=by have:=h.mbP;omega),h.mbP,Nat.sub_self]
 rfl
end Go.Proofs.YtilkdjfhbahhdaaGreatDoor.KFnExactReadMacro

