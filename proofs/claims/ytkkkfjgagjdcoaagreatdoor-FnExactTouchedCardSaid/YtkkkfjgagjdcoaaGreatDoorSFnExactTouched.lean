import Derived.Test.YtkkkfjgagjdcoaaGreatDoorTFnExactTouched
import Derived.Test.YtkkkfjgagjdcoaaGreatDoorE32
import Derived.Lib.Strings
import Derived.Test.YtkkkfjgagjdcoaaGreatDoorSFnExactTouchedp1
namespace Go.Proofs.YtkkkfjgagjdcoaaGreatDoor.KFnExactTouched
open Go.Eng
set_option linter.unusedVariables false
set_option linter.unusedSimpArgs false
theorem qLi (v:V3) (p:PS) (h:p.2.2.length≤60):Ev (qk · v.1 v.2.1 v.2.2 (BR p.1) p.2.2.length p.2.1 (p.2.2.map qW)) (qII (qEG (nd1 v) p)):=by
 obtain ⟨n1,h1⟩:=qPF (nd1 v) p h
 refine ⟨n1+1,fun n hn=>?_⟩
 obtain ⟨k,rfl,hm⟩:=up1 hn
 exact qA (h1 k (by omega)) rfl
theorem qIE {x:Nd} {p:PS} (h:Gd p) (hx:qQM x):Gd (qEG x p).2:=by
 unfold qEG
 split
 ·exact ⟨h.r,h.n,h.s⟩
 ·rename_i hh
  refine ⟨h.r,?_,fun y hy=>?_⟩
  ·have:¬60≤p.2.2.length:=fun e=>hh (.inr e)
   simp;omega
  ·simp at hy
   rcases hy with hy|rfl
   ·exact h.s _ hy
   ·exact hx
theorem qDR {w:List UInt8} {p:PS} (h:Gd p):Gd (qZ w p).2:=by
 have:=qJ7 w p
 have h2:=qAE p.1
 have h3:=h.r
 refine ⟨by omega,?_,?_⟩
 ·unfold qZ;split<;>exact h.n
 ·unfold qZ;split<;>exact h.s
theorem qHP (w:List UInt8) (p:PS):Ev (qr · (BR w) (BR p.1) p.2.2.length p.2.1 (p.2.2.map qW)) ((qZ w p).1,qGi (qZ w p).2):=by
 obtain ⟨n1,h1⟩:=qSp w p.1 p.2.2.length p.2.1 (p.2.2.map qW)
 refine ⟨n1,fun n hn=>?_⟩
 have h1:=h1 n hn
 unfold qZ
 by_cases h:sgn (tb p.1)=w
 ·simp only [h,if_true,decide_true] at h1
  rw [if_pos h];exact h1
 ·simp only [h,if_false,decide_false] at h1
  rw [if_neg h];exact h1
theorem qTN (p:PS) (h:p.1.length≤1000):Ev (qBc · (BR p.1) p.2.2.length p.2.1 (p.2.2.map qW)) (BR (wd (tb p.1)),qGi (wr (tb p.1),p.2)):=qVC p.1 _ _ _ h
theorem qTO (r:List UInt8):(wd r).length≤r.length:=by
 have:=congrArg List.length (wdr r)
 simp only [List.length_append] at this
 omega
theorem qVg (r:List UInt8) (h:r.length≤1000):Ev (qAr · (BR (wd (tb r)))) (qBG (BR (wd (tb r)))):=qNy _ (by rw [qc];have:=qTO (tb r);have:=qAE r;omega)
theorem qXH (r:List UInt8) (h:r.length≤1000):Ev (qf · (BR (wd (tb r)))) (qj (BR (wd (tb r)))):=qIX _ (by rw [qc];have:=qTO (tb r);have:=qAE r;omega)
theorem qTw (c:UInt8) (t:List UInt8):Lib.cut (c::t) [34]=if c=34 then ([],t,true) else (c::(Lib.cut t [34]).1,(Lib.cut t [34]).2.1,(Lib.cut t [34]).2.2):=by
 by_cases h:c=34
 ·subst h
  rw [if_pos rfl]
  simp [Lib.cut,Lib.index,List.isPrefixOf]
 ·rw [if_neg h]
  have h':¬34=c:=fun e=>h e.symm
  have g:=Lib.index_ge t [34]
  unfold Lib.cut
  by_cases e:Lib.index t [34]= -1
  ·have:Lib.index (c::t) [34]= -1:=by simp [Lib.index,List.isPrefixOf,h',e]
   simp [this,e]
  ·have:Lib.index (c::t) [34]=Lib.index t [34]+1:=by simp [Lib.index,List.isPrefixOf,h',e]
   have p:0≤Lib.index t [34]:=by omega
   have p1:0≤Lib.index t [34]+1:=by omega
   have q:(Lib.index t [34]+1).toNat=(Lib.index t [34]).toNat+1:=by omega
   simp [this,p,p1,q]
theorem qWg (acc t:List UInt8):qCh acc (34::34::t)=qCh (acc++ [34]) t:=(qCh.eq_def acc _).trans (by simp)
theorem qWh (acc t:List UInt8) (h:t.head?≠some 34):qCh acc (34::t)=some (acc,t):=by
 refine (qCh.eq_def acc _).trans ?_
 cases t with
 |nil=>simp
 |cons d t=>
  have:¬d=34:=fun e=>h (by rw [e];rfl)
  simp [this]
theorem qWi (acc t:List UInt8) {c:UInt8} (h:¬c=34):qCh acc (c::t)=qCh (acc++ [c]) t:=(qCh.eq_def acc _).trans (by simp only [if_neg h])
theorem up3 {n n0:Nat} (h:n0+3≤n):∃m,n=m+3∧n0≤m:=⟨n-3,by omega,by omega⟩
theorem qSq:∀(r acc:List UInt8),qCh acc r=if (Lib.cut r [34]).2.2=true then (if (Lib.cut r [34]).2.1.head?=some 34 then qCh (acc++(Lib.cut r [34]).1++ [34]) (Lib.cut r [34]).2.1.tail else some (acc++(Lib.cut r [34]).1,(Lib.cut r [34]).2.1)) else none
 | [],acc=>by simp [qCh,Lib.cut,Lib.index]
 |c::t,acc=>by
  rw [qTw]
  by_cases h:c=34
  ·subst h
   rw [if_pos rfl]
   by_cases e:t.head?=some 34
   ·obtain ⟨u,rfl⟩:∃u,t=34::u:=by
     cases t with
     |nil=>cases e
     |cons d u=>simp at e;subst e;exact ⟨u,rfl⟩
    rw [qWg];simp
   ·rw [qWh acc t e];simp [e]
  ·simp only [if_neg h]
   rw [qWi acc t h,qSq t (acc++ [c])]
   simp
theorem qUo:∀r:List UInt8,(Lib.cut r [34]).1.length+(Lib.cut r [34]).2.1.length≤r.length∧((Lib.cut r [34]).2.2=true→(Lib.cut r [34]).2.1.length<r.length)
 | []=>by simp [Lib.cut,Lib.index]
 |c::t=>by
  rw [qTw]
  have ih:=qUo t
  split
  ·simp
  ·simp only [List.length_cons]
   exact ⟨by omega,fun h=>by have:=ih.2 h;omega⟩
theorem qIF:∀(k:Nat) (acc r:List UInt8) {s t:List UInt8},r.length≤k→qCh acc r=some (s,t)→s.length≤acc.length+r.length+1
 |k,acc,[],s,t,hk,h=>by simp [qCh] at h
 |0,acc,c::r,s,t,hk,h=>by simp at hk
 |k+1,acc,c::r,s,t,hk,h=>by
  simp only [List.length_cons] at hk
  unfold qCh at h
  split at h
  ·cases r with
   |nil=>
    simp at h
    rw [←h.1];simp;omega
   |cons d r'=>
    simp only at h
    split at h
    ·have:=qIF k _ r' (by simp at hk;omega) h
     simp at this⊢;omega
    ·simp at h
     rw [←h.1];simp;omega
  ·have:=qIF k _ r (by omega) h
   simp at this⊢;omega
theorem qWj (m:Nat) (r:List UInt8) (h:r.length≤1000):qIv (m+1) (BR r) ⟨#[34]⟩=some (BR (Lib.cut r [34]).1,BR (Lib.cut r [34]).2.1,(Lib.cut r [34]).2.2):=by
 show zAT (BR r) ⟨#[34]⟩=_
 unfold zAT
 rw [if_pos (by rw [qc];omega),←Go.Lib.toList_data (BR r),qAZ]
 rfl
theorem qPV (n:Nat) (orig:ByteArray) (m:Nat) (b:Bool) (rows:List (List PV)):∀(k:Nat) (r acc:List UInt8) (M:Nat),r.length≤k→acc.length+r.length≤1000→k+1≤M→
  zC (qDq (n+2)) M (BR acc,BR r,orig,m,b,rows)=some (match qCh acc r with
   |none=> .inl (-1,orig,m,true,rows)
   |some (s,t)=> .inr (BR s,BR t,orig,m,b,rows))
 |k,r,acc,0,h1,h2,h3=>by omega
 |k,r,acc,M+1,h1,h2,h3=>by
  have hc:=qWj (n+1) r (by omega)
  have hl:=qUo r
  have hp:=qBx n (Lib.cut r [34]).2.1 [34]
  rw [qSq]
  cases hf:(Lib.cut r [34]).2.2 with
  |false=>
   rw [if_neg (by simp)]
   refine (qP (r:= .inl (-1,orig,m,true,rows)) ?_).trans rfl
   refine qA hc (qD (by simp [hf]) rfl)
  |true=>
   rw [if_pos rfl]
   have hlt:=hl.2 hf
   by_cases hh:(Lib.cut r [34]).2.1.head?=some 34
   ·rw [if_pos hh]
    have hb:List.isPrefixOf [34] (Lib.cut r [34]).2.1=true:=(qFy 34 _).2 hh
    obtain ⟨u,hu⟩:∃u,(Lib.cut r [34]).2.1=34::u:=by
     cases e:(Lib.cut r [34]).2.1 with
     |nil=>rw [e] at hh;cases hh
     |cons c u=>rw [e] at hh;simp at hh;subst hh;exact ⟨u,rfl⟩
    rw [hb] at hp
    rw [qQ (v':=(BR (acc++(Lib.cut r [34]).1++ [34]),BR (Lib.cut r [34]).2.1.tail,orig,m,b,rows)) (by
     refine qA hc (qO (by simp [hf]) (qD (decide_eq_true (by rw [qc,qc];omega)) (qA hp (qO rfl (qD (decide_eq_true (by rw [qPD,qc,List.length_append];show _+1≤9223372036854775807;omega)) (qD (decide_eq_true ⟨by decide,by simp only [qc];rw [hu];simp;omega,by simp [qc]⟩) ?_))))))
     rw [qC]
     simp only [qPD,qc,qGI]
     rw [hu]
     simp
     exact (qPD (acc++(Lib.cut r [34]).1) [34]).trans (by rw [List.append_assoc]))]
    rw [hu] at hl hlt⊢
    simp only [List.length_cons] at hl hlt
    refine qPV n orig m b rows (k-1) _ _ M (by simp;omega) (by simp;omega) (by omega)
   ·rw [if_neg hh]
    have hb:List.isPrefixOf [34] (Lib.cut r [34]).2.1=false:=by
     rw [Bool.eq_false_iff];intro e;exact hh ((qFy 34 _).1 e)
    rw [hb] at hp
    refine (qP (r:= .inr (BR (acc++(Lib.cut r [34]).1),BR (Lib.cut r [34]).2.1,orig,m,b,rows)) ?_).trans rfl
    refine qA hc (qO (by simp [hf]) (qD (decide_eq_true (by rw [qc,qc];omega)) (qA hp (qD rfl ?_))))
    rw [qC,qPD]
theorem qVD (t:List UInt8) (b:Bool) (l:List Nd) (h:t.length≤999) (hl:l.length≤60):Ev (qEW · (BR (34::t)) l.length b (l.map qW)) (qII (match qCh [] t with
   |none=>(-1,34::t,true,l)
   |some (s,t')=>qEG (nd1 (2,0,BR s)) (t',b,l))):=by
 have lp:=fun n M (hM:t.length+1≤M)=>qPV n (BR (34::t)) l.length b (l.map qW) t.length t [] M (Nat.le_refl _) (by simp;omega) hM
 cases hq:qCh [] t with
 |none=>
  refine ⟨t.length+1+3,fun n hn=>?_⟩
  obtain ⟨m,rfl,hm⟩:=up3 hn
  have lp:=lp m (m+2) (by omega)
  rw [hq] at lp
  refine qD (decide_eq_true ⟨by decide,by rw [qc];simp;omega,Int.le_refl _⟩) ?_
  have e:(BR (34::t)).extract ((1:Int)).toNat ((((BR (34::t)).size:Nat):Int)).toNat=BR t:=by rw [qGI,qc];simp
  rw [e]
  exact qA lp rfl
 |some st=>
  obtain ⟨s,t'⟩:=st
  obtain ⟨n1,h1⟩:=qLi (2,0,BR s) (t',b,l) hl
  refine ⟨n1+t.length+1+3,fun n hn=>?_⟩
  obtain ⟨m,rfl,hm⟩:=up3 hn
  have lp:=lp m (m+2) (by omega)
  rw [hq] at lp
  refine qD (decide_eq_true ⟨by decide,by rw [qc];simp;omega,Int.le_refl _⟩) ?_
  have e:(BR (34::t)).extract ((1:Int)).toNat ((((BR (34::t)).size:Nat):Int)).toNat=BR t:=by rw [qGI,qc];simp
  rw [e]
  exact qA lp (qA (h1 (m+2) (by omega)) rfl)
theorem qWI (m:Nat) (r:List UInt8) (w:ByteArray):q7 (m+1) (BR r) w=some (BR (if w.toList.isPrefixOf r=true then r.drop w.size else r),w.toList.isPrefixOf r):=by
 show zZ (BR r) w=_
 unfold zZ Lib.trimPrefix Lib.hasPrefix
 rw [←Go.Lib.toList_data (BR r),←Go.Lib.toList_data w,qAZ,qAa]
 rfl
theorem qTx {n:Nat} (deep:Int) (r:List UInt8) (b:Bool) (l:List Nd)
  (h1:∀i,0≤i∧i≤5→qAq n i=some (qh i)) (h2:∀i,1≤i∧i≤5→qCH n i=some (4,i,em))
  (h3:∀w,q7 n (BR r) w=some (BR (if w.toList.isPrefixOf r=true then r.drop w.size else r),w.toList.isPrefixOf r))
  (h4:∀i,1≤i∧i≤5→qk n 4 i em (BR (r.drop (qh i).size)) l.length b (l.map qW)=some (qII (qEG (nd1 (4,i,em)) (r.drop (qh i).size,b,l)))):
  ∀(k:Nat) (i:Int) (M:Nat),1≤i→i+k=6→k+1≤M→zC (qCk n) M (deep,i,BR r,l.length,b,l.map qW)=some (match qKZ r i k with
   |some e=> .inl (qII (qEG (nd1 (4,e,em)) (r.drop (qh e).size,b,l)))
   |none=> .inr (deep,BR r,l.length,b,l.map qW))
 |k,i,0,_,_,h=>by omega
 |0,i,M+1,hi,hk,h=>by
  rw [qP (r:= .inr (deep,BR r,l.length,b,l.map qW)) (by exact qO (decide_eq_false (show ¬i≤5 by omega)) rfl)]
  rfl
 |k+1,i,M+1,hi,hk,h=>by
  have hi5:1≤i∧i≤5:=⟨hi,by omega⟩
  have c:=h3 (qh i)
  cases hq:(qh i).toList.isPrefixOf r with
  |true=>
   rw [hq,if_pos rfl] at c
   unfold qKZ
   rw [if_pos hq]
   refine qP (qD (decide_eq_true (show i≤5 by omega)) (qA (h1 i ⟨by omega,by omega⟩) (qA c (qD rfl (qA (h2 i hi5) (qA (h4 i hi5) rfl))))))
  |false=>
   rw [hq,if_neg (by simp)] at c
   unfold qKZ
   rw [if_neg (by rw [hq];simp)]
   have w1:IntKind.i64.wrap (i+1)=i+1:=qT (by omega)
   rw [qQ (v':=(deep,i+1,BR r,l.length,b,l.map qW)) (by refine qD (decide_eq_true (show i≤5 by omega)) (qA (h1 i ⟨by omega,by omega⟩) (qA c (qO rfl ?_)));rw [qC,w1])]
   exact qTx deep r b l h1 h2 h3 h4 k (i+1) M (by omega) (by omega) (by omega)
theorem qWk (deep:Int) (r:List UInt8) (b:Bool) (l:List Nd) (hl:l.length≤60):∃n0,∀n,n0≤n→∀M,n0≤M→zC (qCk n) M (deep,1,BR r,l.length,b,l.map qW)=some (match qKZ r 1 5 with
   |some e=> .inl (qII (qEG (nd1 (4,e,em)) (r.drop (qh e).size,b,l)))
   |none=> .inr (deep,BR r,l.length,b,l.map qW)):=by
 obtain ⟨n1,h1⟩:=qHM (F:=qAq) (f:=qh) (lo:=0) (by decide) qFu
 obtain ⟨n2,h2⟩:=qHM (F:=qCH) (f:=fun i=>(4,i,em)) (lo:=1) (by decide) (fun i _=>qMb i)
 obtain ⟨n4,h4⟩:=qHM (F:=fun n i=>qk n 4 i em (BR (r.drop (qh i).size)) l.length b (l.map qW)) (f:=fun i=>qII (qEG (nd1 (4,i,em)) (r.drop (qh i).size,b,l))) (lo:=1) (by decide) (fun i _=>qLi (4,i,em) (r.drop (qh i).size,b,l) hl)
 refine ⟨n1+n2+n4+7,fun n hn M hM=>?_⟩
 exact qTx deep r b l (h1 n (by omega)) (h2 n (by omega)) (fun w=>by
  obtain ⟨m,rfl,_⟩:=up1 (show n1+1≤n by omega)
  exact qWI m r w) (h4 n (by omega)) 5 1 M (by omega) (by omega) (by omega)
theorem qUp {g:G_impl_reader_binary} {n:Nat} (deep:Int) (w:List UInt8) (p:PS) (res:Int→Int×PS) (h1:∀i,1≤i∧i≤10→qCo n i=some (fnS i)):
  ∀(k:Nat) (i:Int) (M:Nat),1≤i→i+k=11→k+1≤M→(∀op,qHO w i k=some op→g.impl_reader_call op deep (BR p.1) p.2.2.length p.2.1 (p.2.2.map qW)=some (qII (res op)))→
   zC (qAv g n) M (deep,BR w,i,BR p.1,p.2.2.length,p.2.1,p.2.2.map qW)=some (match qHO w i k with
   |some op=> .inl (qII (res op))
   |none=> .inr (qGi p))
 |k,i,0,_,_,h,_=>by omega
 |0,i,M+1,hi,hk,h,_=>by
  rw [qP (r:= .inr (qGi p)) (by exact qO (decide_eq_false (show ¬i≤10 by omega)) rfl)]
  rfl
 |k+1,i,M+1,hi,hk,h,hc=>by
  unfold qHO at hc⊢
  by_cases hq:(fnS i).toList=w
  ·rw [if_pos hq] at hc⊢
   refine qP (qD (decide_eq_true (show i≤10 by omega)) (qA (h1 i ⟨hi,by omega⟩) (qD (by simp [qAZ,hq]) (qA (hc i rfl) rfl))))
  ·rw [if_neg hq] at hc⊢
   have w1:IntKind.i64.wrap (i+1)=i+1:=qT (by omega)
   have hq':¬w=(fnS i).toList:=fun e=>hq e.symm
   rw [qQ (v':=(deep,BR w,i+1,BR p.1,p.2.2.length,p.2.1,p.2.2.map qW)) (by refine qD (decide_eq_true (show i≤10 by omega)) (qA (h1 i ⟨hi,by omega⟩) (qO (by simp [qAZ,hq']) ?_));rw [qC,w1])]
   exact qUp deep w p res h1 k (i+1) M (by omega) (by omega) (by omega) hc
theorem qWl:∃n0,∀n,n0≤n→∀i,1≤i∧i≤10→qCo n i=some (fnS i):=by
 obtain ⟨n1,h1⟩:=qA9 (F:=fun (i:Nat) n=>qCo n ((i:Int)+1)) (f:=fun i=>fnS ((i:Int)+1)) (List.range 10) (fun i hi=>qLf _ (by have:=List.mem_range.1 hi;omega))
 refine ⟨n1,fun n hn i hi=>?_⟩
 have:=h1 n hn (i-1).toNat (List.mem_range.2 (by omega))
 rwa [show (((i-1).toNat:Nat):Int)+1=i by omega] at this
theorem qWm:∃n0,∀n,n0≤n→∀i,1≤i∧i≤11→qBn n i=some (qAY i):=by
 obtain ⟨n1,h1⟩:=qA9 (F:=fun (i:Nat) n=>qBn n ((i:Int)+1)) (f:=fun i=>qAY ((i:Int)+1)) (List.range 11) (fun i hi=>qIC _ (by have:=List.mem_range.1 hi;omega))
 refine ⟨n1,fun n hn i hi=>?_⟩
 have:=h1 n hn (i-1).toNat (List.mem_range.2 (by omega))
 rwa [show (((i-1).toNat:Nat):Int)+1=i by omega] at this
def opF (s:List UInt8):Int→Int→Nat→Int
 |op,_,0=>op
 |op,i,k+1=>opF s (if s=(qAY i).toList then i else op) (i+1) k
theorem qWn (r:List UInt8):opF (sgn r) 0 1 11=qA3 r:=by
 unfold qA3
 generalize sgn r=s
 by_cases h1:s= [43]; · subst h1;decide+kernel
 by_cases h2:s= [45]; · subst h2;decide+kernel
 by_cases h3:s= [42]; · subst h3;decide+kernel
 by_cases h4:s= [47]; · subst h4;decide+kernel
 by_cases h5:s= [38]; · subst h5;decide+kernel
 by_cases h6:s= [61]; · subst h6;decide+kernel
 by_cases h7:s= [60,62]; · subst h7;decide+kernel
 by_cases h8:s= [60]; · subst h8;decide+kernel
 by_cases h9:s= [60,61]; · subst h9;decide+kernel
 by_cases h10:s= [62]; · subst h10;decide+kernel
 by_cases h11:s= [62,61]; · subst h11;decide+kernel
 rw [if_neg h1,if_neg h2,if_neg h3,if_neg h4,if_neg h5,if_neg h6,if_neg h7,if_neg h8,if_neg h9,if_neg h10,if_neg h11]
 rw [←sg1] at h1;rw [←sg2] at h2;rw [←sg3] at h3;rw [←sg4] at h4;rw [←sg5] at h5;rw [←sg6] at h6;rw [←sg7] at h7;rw [←sg8] at h8;rw [←sg9] at h9;rw [←qVc] at h10;rw [←qVd] at h11
 simp only [opF,if_neg h1]
 simp only [show (1:Int)+1=2 from rfl,if_neg h2,show (2:Int)+1=3 from rfl,if_neg h3,show (3:Int)+1=4 from rfl,if_neg h4,show (4:Int)+1=5 from rfl,if_neg h5,show (5:Int)+1=6 from rfl,if_neg h6,show (6:Int)+1=7 from rfl,if_neg h7,show (7:Int)+1=8 from rfl,if_neg h8,show (8:Int)+1=9 from rfl,if_neg h9,show (9:Int)+1=10 from rfl,if_neg h10,show (10:Int)+1=11 from rfl,if_neg h11]
theorem qTy {n:Nat} (least deep a op i:Int) (r R:List UInt8) (m:Nat) (b:Bool) (rows:List (List PV)) (hi:1≤i∧i≤11)
  (h1:qB9 n (BR r) m b rows=some (BR (sgn R),BR R,m,b,rows)) (h2:qBn n i=some (qAY i)):
  (qBT n (least,deep,a,op,i,BR r,m,b,rows)).run=some (.inl (least,deep,a,if sgn R=(qAY i).toList then i else op,i+1,BR R,m,b,rows)):=by
 have w1:IntKind.i64.wrap (i+1)=i+1:=qT (by omega)
 refine qD (decide_eq_true (show i≤11 by omega)) (qA h1 (qA h2 ?_))
 by_cases hq:sgn R=(qAY i).toList
 ·rw [if_pos hq]
  exact qD (by simp [qAZ,hq]) (by rw [qC,w1])
 ·rw [if_neg hq]
  exact qO (by simp [qAZ,hq]) (by rw [qC,w1])
theorem qTz {n:Nat} (least deep a:Int) (R:List UInt8) (m:Nat) (b:Bool) (rows:List (List PV))
  (h1:qB9 n (BR R) m b rows=some (BR (sgn R),BR R,m,b,rows)) (h2:∀i,1≤i∧i≤11→qBn n i=some (qAY i)):
  ∀(k:Nat) (op i:Int) (M:Nat),1≤i→i+k=12→k+1≤M→zC (qBT n) M (least,deep,a,op,i,BR R,m,b,rows)=some (least,deep,a,opF (sgn R) op i k,BR R,m,b,rows)
 |k,op,i,0,_,_,h=>by omega
 |0,op,i,M+1,hi,hk,h=>by
  rw [qP (r:=(least,deep,a,op,BR R,m,b,rows)) (by exact qO (decide_eq_false (show ¬i≤11 by omega)) rfl)]
  rfl
 |k+1,op,i,M+1,hi,hk,h=>by
  rw [qQ (qTy least deep a op i R R m b rows ⟨hi,by omega⟩ h1 (h2 i ⟨hi,by omega⟩))]
  exact qTz least deep a R m b rows h1 h2 k _ (i+1) M (by omega) (by omega) (by omega)
theorem qWJ (least deep a:Int) (r:List UInt8) (m:Nat) (b:Bool) (rows:List (List PV)):∃n0,∀n,n0≤n→∀M,n0≤M→zC (qBT n) M (least,deep,a,0,1,BR r,m,b,rows)=some (least,deep,a,qA3 (tb r),BR (tb r),m,b,rows):=by
 obtain ⟨n1,h1⟩:=qPE r m b rows
 obtain ⟨n2,h2⟩:=qPE (tb r) m b rows
 obtain ⟨n3,h3⟩:=qWm
 refine ⟨n1+n2+n3+20,fun n hn M hM=>?_⟩
 obtain ⟨M,rfl,hM⟩:=up1 hM
 have h2:=h2 n (by omega)
 rw [qC9] at h2
 rw [qQ (qTy least deep a 0 1 r (tb r) m b rows (by omega) (h1 n (by omega)) (h3 n (by omega) 1 (by omega)))]
 rw [show (1:Int)+1=2 from rfl,qTz least deep a (tb r) m b rows h2 (h3 n (by omega)) 10 _ 2 M (by omega) (by omega) (by omega),←qWn]
 rfl
theorem qUq {p:PS} (h:Gd p):Gd (qBX p).2∧(qBX p).2.1.length≤p.1.length∧∀x,(qBX p).1=some x→qQM x:=by
 have h1:=qAE p.1
 have h2:=qID (tb p.1)
 have h0:=h.r
 unfold qBX
 simp only
 split
 ·have h3:=qJ7 [58] (wr (tb p.1),p.2)
  have h4:=qAE (qZ [58] (wr (tb p.1),p.2)).2.1
  have h5:=qID (tb (qZ [58] (wr (tb p.1),p.2)).2.1)
  have h6:=qAE (wr (tb p.1))
  have e:(qZ [58] (wr (tb p.1),p.2)).2.2.2=p.2.2:=by unfold qZ;split<;>rfl
  simp only at h3
  refine ⟨⟨by simp only;omega,by rw [e];exact h.n,by rw [e];exact h.s⟩,by simp only;omega,fun x hx=>?_⟩
  cases hx
  exact ⟨by simp [kd,ndA],by simp [ndA,em];decide⟩
 ·exact ⟨h,Nat.le_refl _,fun x hx=>by cases hx⟩
theorem qWK (p:PS) (h:p.1.length≤1000):∃x:Nd,(∀y,(qBX p).1=some y→x=y)∧Ev (qD0 · (BR p.1) p.2.2.length p.2.1 (p.2.2.map qW)) (x.1,x.2.1,x.2.2.1,x.2.2.2.1,x.2.2.2.2.1,x.2.2.2.2.2.1,x.2.2.2.2.2.2.1,x.2.2.2.2.2.2.2.1,x.2.2.2.2.2.2.2.2.1,x.2.2.2.2.2.2.2.2.2.1,x.2.2.2.2.2.2.2.2.2.2.1,x.2.2.2.2.2.2.2.2.2.2.2.1,x.2.2.2.2.2.2.2.2.2.2.2.2.1,(kd x).map qA8,(qBX p).1.isSome,qGi (qBX p).2):=by
 have l1:=qAE p.1
 have l2:=qID (tb p.1)
 have l3:=qJ7 [58] (wr (tb p.1),p.2)
 have l6:=qAE (wr (tb p.1))
 simp only at l3
 obtain ⟨n1,h1⟩:=qTN p h
 obtain ⟨n2,h2⟩:=qVg p.1 h
 obtain ⟨n3,h3⟩:=qHP [58] (wr (tb p.1),p.2)
 have hle:(qZ [58] (wr (tb p.1),p.2)).2.1.length≤1000:=by omega
 obtain ⟨n4,h4⟩:=qTN (qZ [58] (wr (tb p.1),p.2)).2 hle
 obtain ⟨n5,h5⟩:=qVg (qZ [58] (wr (tb p.1),p.2)).2.1 hle
 have e:(qZ [58] (wr (tb p.1),p.2)).2.2=p.2:=by unfold qZ;split<;>rfl
 unfold qBX
 simp only
 by_cases hc:(qBG (BR (wd (tb p.1)))).2.2.2.2=true∧(qZ [58] (wr (tb p.1),p.2)).1=true
 ·rw [if_pos hc]
  refine ⟨_,fun y hy=>by cases hy;rfl,n1+n2+n3+n4+n5+1,fun n hn=>?_⟩
  obtain ⟨k,rfl,hm⟩:=up1 hn
  refine qA (h1 k (by omega)) (qA (h2 k (by omega)) (qD hc.1 (qA (h3 k (by omega)) (qO (by simp only;rw [hc.2];rfl) (qA (h4 k (by omega)) (qA (h5 k (by omega)) ?_))))))
  cases hb:(qZ [58] (wr (tb p.1),p.2)).2.2.1 with
  |true=>
   refine qD hb ?_
   rw [qC];rfl
  |false=>
   refine qO hb ?_
   rw [qC];rfl
 ·rw [if_neg hc]
  refine ⟨(0,0,0,0,⟨#[]⟩,0,0,false,false,0,0,false,false,[]),fun y hy=>(by cases hy),n1+n2+n3+1,fun n hn=>?_⟩
  obtain ⟨k,rfl,hm⟩:=up1 hn
  cases hr:(qBG (BR (wd (tb p.1)))).2.2.2.2 with
  |false=>exact qA (h1 k (by omega)) (qA (h2 k (by omega)) (qO hr rfl))
  |true=>
   have ht:(qZ [58] (wr (tb p.1),p.2)).1=false:=by
    rw [Bool.eq_false_iff];exact fun e=>hc ⟨hr,e⟩
   refine qA (h1 k (by omega)) (qA (h2 k (by omega)) (qD hr (qA (h3 k (by omega)) (qD (by simp only;rw [ht];rfl) ?_))))
   rw [qC]
   simp only [qGi,e]
   rfl
theorem qLj {s:ByteArray} (h:(qj s).2.2.2=true) (hk:(qj s).1=1∨(qj s).1=3):(qj s).2.2.1.size≤2000:=by
 unfold qj at h hk⊢
 split at h
 ·rename_i hc
  rw [if_pos hc] at hk⊢
  have h1:=hc.1
  unfold okV at h1
  have h2:¬(qBZ s).1=2:=by
   simp only at hk
   omega
  rw [if_neg h2] at h1
  simp only [Bool.and_eq_true,beq_iff_eq] at h1
  have:=congrArg List.length h1.1
  rw [qAa] at this
  have h0:(qBZ s).2.2.size=0:=this
  show (qBZ s).2.2.size≤2000
  omega
 ·cases h
def Kj:PJ→PS→Prop
 | .args _ _ kids,p=>kids.length+p.1.length≤1500
 |_,_=>True
theorem qLw {w:List UInt8} {p:PS} (h:Gd p):Gd (qC2 w p)∧(qC2 w p).1.length≤p.1.length:=by
 have h1:=qJ7 w p
 have h2:=qAE p.1
 unfold qC2
 split
 ·exact ⟨h,Nat.le_refl _⟩
 ·split
  ·exact ⟨qDR h,by omega⟩
  ·exact ⟨⟨(qDR h).r,(qDR h).n,(qDR h).s⟩,by show (qZ w p).2.1.length≤_;omega⟩
theorem qN6 {p:PS} {r:List UInt8} (h:Gd p) (hr:r.length≤p.1.length):Gd (r,p.2):=⟨by have:=h.r;simp only;omega,h.n,h.s⟩
theorem qF4:∀(f:Nat) (j:PJ) (p:PS),Gd p→Kj j p→Gd (pP f j p).2∧(pP f j p).2.1.length≤p.1.length
 |0,j,p,h,_=>⟨h,Nat.le_refl _⟩
 |f+1,.bin least deep,p,h,_=>by
  unfold pP
  have a:=qF4 f (.un deep) p h trivial
  have b:=qF4 f (.loop least deep (pP f (.un deep) p).1) (pP f (.un deep) p).2 a.1 trivial
  exact ⟨b.1,Nat.le_trans b.2 a.2⟩
 |f+1,.loop least deep a,p,h,_=>by
  have h1:=qAE p.1
  unfold pP
  split
  ·exact ⟨h,Nat.le_refl _⟩
  ·split
   ·exact ⟨qN6 h h1,h1⟩
   ·have l1:((tb p.1).drop (sgn (tb p.1)).length).length≤p.1.length:=by simp;omega
    have b:=qF4 f (.bin (lvl (qA3 (tb p.1))+1) deep) ((tb p.1).drop (sgn (tb p.1)).length,p.2) (qN6 h l1) trivial
    simp only
    have c:=qIE (x:=ndK 5 (qA3 (tb p.1)) [a,(pP f (.bin (lvl (qA3 (tb p.1))+1) deep) ((tb p.1).drop (sgn (tb p.1)).length,p.2)).1]) b.1 ⟨by simp [kd,ndK],by simp [ndK,em];decide⟩
    have d:=qF4 f (.loop least deep (qEG (ndK 5 (qA3 (tb p.1)) [a,(pP f (.bin (lvl (qA3 (tb p.1))+1) deep) ((tb p.1).drop (sgn (tb p.1)).length,p.2)).1]) (pP f (.bin (lvl (qA3 (tb p.1))+1) deep) ((tb p.1).drop (sgn (tb p.1)).length,p.2)).2).1) _ c trivial
    refine ⟨d.1,Nat.le_trans d.2 ?_⟩
    rw [qBF]
    exact Nat.le_trans b.2 l1
 |f+1,.un deep,p,h,_=>by
  have h1:=qAE p.1
  have h2:=qJ7 [45] p
  unfold pP
  split
  ·exact ⟨⟨h.r,h.n,h.s⟩,Nat.le_refl _⟩
  ·split
   ·simp only
    have b:=qF4 f (.un (deep+1)) (qZ [45] p).2 (qDR h) trivial
    refine ⟨qIE b.1 ⟨by simp [kd,ndK],by simp [ndK,em];decide⟩,?_⟩
    rw [qBF]
    exact Nat.le_trans b.2 (by omega)
   ·have b:=qF4 f (.at deep) (qZ [45] p).2 (qDR h) trivial
    exact ⟨b.1,Nat.le_trans b.2 (by omega)⟩
 |f+1,.at deep,p,h,_=>by
  have h1:=qAE p.1
  have h2:=qJ7 [40] p
  have h3:=qID (tb p.1)
  have h4:=h.r
  have g2:Gd (wr (tb p.1),p.2):=qN6 h (by omega)
  unfold pP
  simp only
  split
  ·split
   ·exact ⟨⟨by simp only;omega,h.n,h.s⟩,h1⟩
   ·rename_i hh _ s t hq
    have a:=qLu _ _ hq
    have b:=qIF _ _ _ (Nat.le_refl _) hq
    simp only [List.length_tail,List.length_nil] at a b
    refine ⟨qIE (qN6 h (by omega)) ⟨by simp [kd,nd1],by simp only [nd1,qc];omega⟩,?_⟩
    rw [qBF];simp only;omega
  ·split
   ·refine ⟨qIE (qN6 h (by simp;omega)) ⟨by simp [kd,nd1],by simp [nd1,em];decide⟩,?_⟩
    rw [qBF];simp;omega
   ·split
    ·have b:=qF4 f (.bin 1 (deep+1)) (qZ [40] p).2 (qDR h) trivial
     have c:=qLw (w:= [41]) b.1
     exact ⟨c.1,Nat.le_trans c.2 (Nat.le_trans b.2 (by omega))⟩
    ·split
     ·rename_i hv
      refine ⟨qIE g2 ⟨by simp [kd,nd1],qLj hv.1 hv.2⟩,?_⟩
      rw [qBF];simp only;omega
     ·split
      ·refine ⟨qIE g2 ⟨by simp [kd,ndC],by simp [ndC,em];decide⟩,?_⟩
       rw [qBF];simp only;omega
      ·split
       ·rename_i op _
        have b:=qF4 f (.call op deep) (wr (tb p.1),p.2) g2 trivial
        exact ⟨b.1,Nat.le_trans b.2 (by simp only;omega)⟩
       ·exact ⟨⟨g2.r,g2.n,g2.s⟩,by show (wr (tb p.1)).length≤_;omega⟩
 |f+1,.call op deep,p,h,_=>by
  unfold pP
  have a:=qLw (w:= [40]) h
  have b:=qF4 f (.args op deep []) (qC2 [40] p) a.1 (by have:=a.1.r;show 0+_≤_;omega)
  exact ⟨b.1,Nat.le_trans b.2 a.2⟩
 |f+1,.args op deep kids,p,h,hk=>by
  replace hk:kids.length+p.1.length≤1500:=hk
  unfold pP
  split
  ·refine ⟨qIE h ⟨by simp [kd,ndK];omega,by simp [ndK,em];decide⟩,?_⟩
   rw [qBF];exact Nat.le_refl _
  ·simp only
   have a:=qUq h
   have qg:Gd (qFQ (qBX p) (fun p=>pP f (.bin 1 (deep+1)) p)).2∧(qFQ (qBX p) (fun p=>pP f (.bin 1 (deep+1)) p)).2.1.length≤p.1.length:=by
    unfold qFQ
    split
    ·rename_i x hx
     refine ⟨qIE a.1 (a.2.2 x hx),?_⟩
     rw [qBF];exact a.2.1
    ·have b:=qF4 f (.bin 1 (deep+1)) (qBX p).2 a.1 trivial
     exact ⟨b.1,Nat.le_trans b.2 a.2.1⟩
   generalize qFQ (qBX p) (fun p=>pP f (.bin 1 (deep+1)) p)=q at qg⊢
   have t0:=qg.2
   have t1:=qAE q.2.1
   have t2:=qJ7 [44] q.2
   split
   ·rename_i ht
    have t3:=qEe (by simp) ht
    have b:=qF4 f (.args op deep (kids++ [q.1])) (qZ [44] q.2).2 (qDR qg.1) (by show (kids++ [q.1]).length+_≤_;simp;omega)
    exact ⟨b.1,Nat.le_trans b.2 (by omega)⟩
   ·have c:=qLw (w:= [41]) (qDR (w:= [44]) qg.1)
    refine ⟨qIE c.1 ⟨by simp [kd,ndK];omega,by simp [ndK,em];decide⟩,?_⟩
    rw [qBF]
    exact Nat.le_trans c.2 (by omega)
def Ad (f:Nat):PJ→PS→Prop
 | .bin _ _,p=>20*(tb p.1).length+6≤f
 | .loop _ _ _,p=>20*(tb p.1).length+5≤f
 | .un _,p=>20*(tb p.1).length+4≤f
 | .at _,p=>20*(tb p.1).length+3≤f∧p.2.1=false
 | .call _ _,p=>20*(tb p.1).length+9≤f
 | .args _ _ _,p=>20*(tb p.1).length+8≤f
def Jd:PJ→Prop
 | .bin _ d=>0≤d∧d≤401
 | .loop _ d _=>0≤d∧d≤401
 | .un d=>0≤d∧d≤401
 | .at d=>0≤d∧d≤400
 | .call _ d=>0≤d∧d≤400
 | .args _ d _=>0≤d∧d≤400
def Wk:PJ→PS→Int×PS→Prop
 | .bin least deep,p,r=>Ev (qDL · least deep (BR p.1) p.2.2.length p.2.1 (p.2.2.map qW)) (qII r)
 | .loop least deep a,p,r=>∃n0,∀n,n0≤n→∀M,n0≤M→zC (qDr (qV n) n) M (least,deep,a,qGi p)=some (qII r)
 | .un deep,p,r=>Ev (qHB · deep (BR p.1) p.2.2.length p.2.1 (p.2.2.map qW)) (qII r)
 | .at deep,p,r=>Ev (qHw · deep (BR p.1) p.2.2.length p.2.1 (p.2.2.map qW)) (qII r)
 | .call op deep,p,r=>Ev (qCy · op deep (BR p.1) p.2.2.length p.2.1 (p.2.2.map qW)) (qII r)
 | .args op deep kids,p,r=>∃(ks:List Int) (p':PS),r=qEG (ndK 6 op ks) p'∧Gd p'∧ks.length≤1501∧∃n0,∀n,n0≤n→∀M,n0≤M→
   zC (qC5 (qV n) n) M (op,deep,kids.length,kids.map qA8,qGi p)=some (op,ks.length,ks.map qA8,qGi p')
theorem qN7 (w:List UInt8) {p:PS} (h:p.2.1=false):(BR (qZ w p).2.1,(qZ w p).2.2.2.length,!(qZ w p).1,(qZ w p).2.2.2.map qW)=qGi (qC2 w p):=by
 have e:(qZ w p).2.2=p.2:=by unfold qZ;split<;>rfl
 unfold qC2
 rw [if_neg (by rw [h];simp)]
 cases hc:(qZ w p).1 with
 |true=>rw [if_pos rfl];simp only [qGi,e,h];rfl
 |false=>rw [if_neg (by simp)];rfl
theorem qTP {r w:List UInt8} (hw:w≠ []) (h:w<+:r):(tb (r.drop w.length)).length<r.length:=by
 have h1:=qAE (r.drop w.length)
 have h2:=h.length_le
 have h3:0<w.length:=List.length_pos_iff.2 hw
 simp only [List.length_drop] at h1
 omega
theorem qXI {r:List UInt8} (h:qA3 r≠0):1≤qA3 r∧qA3 r≤11∧sgn r=(qAY (qA3 r)).toList∧sgn r≠ []:=by
 rcases qUm r with e|⟨a,b,c⟩
 ·exact absurd e h
 ·refine ⟨a,b,c,fun e=>h ?_⟩
  unfold qA3;rw [e];decide
def qVh (f:Nat) (deep:Int) (w:List UInt8) (p2:PS):Int×PS:=
 if (qj (BR w)).2.2.2=true∧((qj (BR w)).1=1∨(qj (BR w)).1=3) then qEG (nd1 ((qj (BR w)).1,(qj (BR w)).2.1,(qj (BR w)).2.2.1)) p2
 else if (qBG (BR w)).2.2.2.2=true then qEG (ndC (qBG (BR w))) p2
 else match qHO w 1 10 with
 |some op=>pP f (.call op deep) p2
 |none=>(-1,qUK p2)
def qUP (g:G_impl_reader_binary) (n:Nat) (deep:Int) (w:ByteArray) (c:ByteArray×Nat×Bool×List (List PV)):Tr (Int×ByteArray×Nat×Bool×List (List PV)):=
 (.opt (qAr n w) fun r=>(.ask r.2.2.2.2
  (.opt (qt n 2 0 0 0 ⟨#[]⟩ r.1 r.2.1 r.2.2.1 r.2.2.2.1 0 0 false false [] c.1 c.2.1 c.2.2.1 c.2.2.2) fun s=> .done (s.1,s.2.1,s.2.2.1,s.2.2.2.1,s.2.2.2.2))
  (.opt (zC (qAv g n) n (deep,w,1,c.1,c.2.1,c.2.2.1,c.2.2.2)) fun s=>(.alt s (fun t=> .done (t.1,t.2.1,t.2.2.1,t.2.2.2.1,t.2.2.2.2)) (fun t=> .done (-1,t.1,t.2.1,true,t.2.2.2))))))
def qWY (g:G_impl_reader_binary) (n:Nat) (deep:Int) (w:ByteArray) (c:ByteArray×Nat×Bool×List (List PV)):Tr (Int×ByteArray×Nat×Bool×List (List PV)):=
 (.opt (qf n w) fun r=>(.ask r.2.2.2
  (.ask (r.1==1) (.opt (qk n r.1 r.2.1 r.2.2.1 c.1 c.2.1 c.2.2.1 c.2.2.2) fun s=> .done (s.1,s.2.1,s.2.2.1,s.2.2.2.1,s.2.2.2.2))
   (.ask (r.1==3) (.opt (qk n r.1 r.2.1 r.2.2.1 c.1 c.2.1 c.2.2.1 c.2.2.2) fun s=> .done (s.1,s.2.1,s.2.2.1,s.2.2.2.1,s.2.2.2.2))
    (qUP g n deep w c)))
  (qUP g n deep w c)))
theorem qVE (f:Nat) (deep:Int) (r:List UInt8) (p2:PS) (hr:r.length≤1000) (hp:p2.2.2.length≤60) (hc:∀op,qHO (wd (tb r)) 1 10=some op→Ev (qCy · op deep (BR p2.1) p2.2.2.length p2.2.1 (p2.2.2.map qW)) (qII (pP f (.call op deep) p2))):
  ∃n0,∀n,n0≤n→(qUP (qV n) n deep (BR (wd (tb r))) (qGi p2)).run=some (qII (if (qBG (BR (wd (tb r)))).2.2.2.2=true then qEG (ndC (qBG (BR (wd (tb r))))) p2 else match qHO (wd (tb r)) 1 10 with
   |some op=>pP f (.call op deep) p2
   |none=>(-1,qUK p2))):=by
 obtain ⟨n1,h1⟩:=qVg r hr
 obtain ⟨n2,h2⟩:=qPF (ndC (qBG (BR (wd (tb r))))) p2 hp
 obtain ⟨n3,h3⟩:=qWl
 obtain ⟨n4,h4⟩:∃n4,∀n,n4≤n→∀op,qHO (wd (tb r)) 1 10=some op→qCy n op deep (BR p2.1) p2.2.2.length p2.2.1 (p2.2.2.map qW)=some (qII (pP f (.call op deep) p2)):=by
  cases hf:qHO (wd (tb r)) 1 10 with
  |none=>exact ⟨0,fun n _ op h=>by cases h⟩
  |some op=>obtain ⟨n4,h4⟩:=hc op hf;exact ⟨n4,fun n hn op' h=>by cases h;exact h4 n hn⟩
 refine ⟨n1+n2+n3+n4+12,fun n hn=>?_⟩
 have lp:=qUp (g:=qV n) deep (wd (tb r)) p2 (fun op=>pP f (.call op deep) p2) (h3 n (by omega)) 10 1 n (by omega) (by omega) (by omega) (h4 n (by omega))
 cases hb:(qBG (BR (wd (tb r)))).2.2.2.2 with
 |true=>
  rw [if_pos rfl]
  exact qA (h1 n (by omega)) (qD hb (qA (h2 n (by omega)) rfl))
 |false=>
  rw [if_neg (by simp)]
  refine qA (h1 n (by omega)) (qO hb (qA lp ?_))
  cases qHO (wd (tb r)) 1 10<;>rfl
theorem qVi (f:Nat) (deep:Int) (r:List UInt8) (p2:PS) (hr:r.length≤1000) (hp:p2.2.2.length≤60) (hc:∀op,qHO (wd (tb r)) 1 10=some op→Ev (qCy · op deep (BR p2.1) p2.2.2.length p2.2.1 (p2.2.2.map qW)) (qII (pP f (.call op deep) p2))):
  ∃n0,∀n,n0≤n→(qWY (qV n) n deep (BR (wd (tb r))) (qGi p2)).run=some (qII (qVh f deep (wd (tb r)) p2)):=by
 obtain ⟨n1,h1⟩:=qXH r hr
 obtain ⟨n2,h2⟩:=qLi ((qj (BR (wd (tb r)))).1,(qj (BR (wd (tb r)))).2.1,(qj (BR (wd (tb r)))).2.2.1) p2 hp
 obtain ⟨n3,h3⟩:=qVE f deep r p2 hr hp hc
 refine ⟨n1+n2+n3,fun n hn=>?_⟩
 have h2:=h2 n (by omega)
 have h3:=h3 n (by omega)
 unfold qVh
 refine qA (h1 n (by omega)) ?_
 by_cases ho:(qj (BR (wd (tb r)))).2.2.2=true
 ·refine qD ho ?_
  by_cases k1:(qj (BR (wd (tb r)))).1=1
  ·rw [if_pos ⟨ho,.inl k1⟩]
   exact qD (by rw [k1];rfl) (qA h2 rfl)
  ·refine qO (beq_eq_false_iff_ne.2 k1) ?_
   by_cases k3:(qj (BR (wd (tb r)))).1=3
   ·rw [if_pos ⟨ho,.inr k3⟩]
    exact qD (by rw [k3];rfl) (qA h2 rfl)
   ·rw [if_neg (fun h=>h.2.elim k1 k3)]
    exact qO (beq_eq_false_iff_ne.2 k3) h3
 ·rw [if_neg (fun h=>ho h.1)]
  exact qO (by rw [Bool.eq_false_iff];exact ho) h3
theorem qXJ (w:List UInt8) (p:PS):qZ w (tb p.1,p.2)=qZ w p:=by unfold qZ;simp only [qC9]
theorem qLx {c:UInt8} {r:List UInt8} (h:r.head?=some c):∃t,r=c::t:=by
 cases r with
 |nil=>cases h
 |cons d t=>simp at h;subst h;exact ⟨t,rfl⟩
theorem qGJ:∀(f:Nat) (j:PJ) (p:PS),Ad f j p→Jd j→Gd p→Kj j p→Wk j p (pP f j p)
 |0,j,p,ha,_,_,_=>by cases j<;>simp [Ad] at ha
 |f+1,.bin least deep,p,ha,hj,hg,_=>by
  replace ha:20*(tb p.1).length+6≤f+1:=ha
  obtain ⟨n1,h1⟩:=qGJ f (.un deep) p (by show 20*_+4≤f;omega) hj hg trivial
  have hl:=qEf f (.un deep) p
  obtain ⟨n2,h2⟩:=qGJ f (.loop least deep (pP f (.un deep) p).1) (pP f (.un deep) p).2 (by show 20*_+5≤f;omega) hj (qF4 f (.un deep) p hg trivial).1 trivial
  refine ⟨n1+n2+1,fun n hn=>?_⟩
  obtain ⟨k,rfl,hm⟩:=up1 hn
  exact qA (h1 k (by omega)) (qA (h2 k (by omega) k (by omega)) rfl)
 |f+1,.loop least deep a,(r,b,l),ha,hj,hg,_=>by
  replace ha:20*(tb r).length+5≤f+1:=ha
  have hn60:l.length≤60:=hg.n
  have hr1:r.length≤1000:=hg.r
  have ht:=qAE r
  unfold pP
  cases b with
  |true=>
   rw [if_pos rfl]
   refine ⟨1,fun n hn M hM=>?_⟩
   obtain ⟨M,rfl,hM⟩:=up1 hM
   exact qP (qO rfl rfl)
  |false=>
   rw [if_neg (by simp)]
   simp only
   obtain ⟨n1,h1⟩:=qWJ least deep a r l.length false (l.map qW)
   by_cases h0:qA3 (tb r)=0
   ·rw [if_pos (.inl h0)]
    refine ⟨n1+1,fun n hn M hM=>?_⟩
    obtain ⟨M,rfl,hM⟩:=up1 hM
    exact qP (qD rfl (qA (h1 n (by omega) n (by omega)) (qD (by simp only;rw [h0];rfl) rfl)))
   ·obtain ⟨o1,o2,o3,o4⟩:=qXI h0
    obtain ⟨n2,h2⟩:=qMg (qA3 (tb r)) ⟨o1,o2⟩
    by_cases hl:lvl (qA3 (tb r))<least
    ·rw [if_pos (.inr hl)]
     refine ⟨n1+n2+1,fun n hn M hM=>?_⟩
     obtain ⟨M,rfl,hM⟩:=up1 hM
     exact qP (qD rfl (qA (h1 n (by omega) n (by omega)) (qO (beq_eq_false_iff_ne.2 h0) (qA (h2 n (by omega)) (qD (decide_eq_true hl) rfl)))))
    ·rw [if_neg (fun h=>h.elim h0 hl)]
     have lv:=qUL (op:=qA3 (tb r))
     have hlt:=qTP o4 (qUn (tb r))
     have hp1:Gd ((tb r).drop (sgn (tb r)).length,false,l):=⟨by simp;omega,hn60,hg.s⟩
     obtain ⟨n3,h3⟩:=qIC (qA3 (tb r)) ⟨o1,o2⟩
     obtain ⟨n4,h4⟩:=qSp (qAY (qA3 (tb r))).toList (tb r) l.length false (l.map qW)
     obtain ⟨n5,h5⟩:=qGJ f (.bin (lvl (qA3 (tb r))+1) deep) ((tb r).drop (sgn (tb r)).length,false,l) (by show 20*_+6≤f;simp only;omega) hj hp1 trivial
     have g5:=qF4 f (.bin (lvl (qA3 (tb r))+1) deep) ((tb r).drop (sgn (tb r)).length,false,l) hp1 trivial
     have l5:=qEf f (.bin (lvl (qA3 (tb r))+1) deep) ((tb r).drop (sgn (tb r)).length,false,l)
     simp only at l5
     generalize pP f (.bin (lvl (qA3 (tb r))+1) deep) ((tb r).drop (sgn (tb r)).length,false,l)=q at h5 g5 l5⊢
     obtain ⟨n6,h6⟩:=qPF (ndK 5 (qA3 (tb r)) [a,q.1]) q.2 g5.1.n
     have g6:=qIE (x:=ndK 5 (qA3 (tb r)) [a,q.1]) g5.1 ⟨by simp [kd,ndK],by simp [ndK,em];decide⟩
     have e6:=qBF (ndK 5 (qA3 (tb r)) [a,q.1]) q.2
     generalize qEG (ndK 5 (qA3 (tb r)) [a,q.1]) q.2=c at h6 g6 e6⊢
     obtain ⟨n7,h7⟩:=qGJ f (.loop least deep c.1) c.2 (by show 20*(tb c.2.1).length+5≤f;rw [e6];omega) hj g6 trivial
     refine ⟨n1+n2+n3+n4+n5+n6+n7+1,fun n hn M hM=>?_⟩
     obtain ⟨M,rfl,hM⟩:=up1 hM
     have w1:IntKind.i64.wrap (lvl (qA3 (tb r))+1)=lvl (qA3 (tb r))+1:=qT (by omega)
     have h3:=h3 n (by omega)
     have h4:=h4 n (by omega)
     have h5:=h5 n (by omega)
     rw [qJg,qC9,←o3,if_pos rfl] at h4
     rw [←w1] at h5
     rw [qQ (v':=(least,deep,c.1,qGi c.2)) (by
      exact qD rfl (qA (h1 n (by omega) n (by omega)) (qO (beq_eq_false_iff_ne.2 h0) (qA (h2 n (by omega)) (qO (decide_eq_false hl) (qA h3 (qA h4 (qA (h2 n (by omega)) (qA h5 (qD rfl (qA (h6 n (by omega)) rfl)))))))))))]
     exact h7 n (by omega) M (by omega)
 |f+1,.un deep,p,ha,hj,hg,_=>by
  replace ha:20*(tb p.1).length+4≤f+1:=ha
  replace hj:0≤deep∧deep≤401:=hj
  unfold pP
  by_cases hd:deep>400
  ·rw [if_pos (.inl hd)]
   refine ⟨1,fun n hn=>?_⟩
   obtain ⟨k,rfl,hm⟩:=up1 hn
   exact qD (decide_eq_true hd) (qD rfl rfl)
  ·cases hb:p.2.1 with
   |true=>
    rw [if_pos (.inr rfl)]
    refine ⟨1,fun n hn=>?_⟩
    obtain ⟨k,rfl,hm⟩:=up1 hn
    refine qO (decide_eq_false hd) (qD hb ?_)
    rw [qC,hb];rfl
   |false=>
    rw [if_neg (fun h=>h.elim hd (by simp))]
    obtain ⟨n1,h1⟩:=qHP [45] p
    have t1:=qEp [45] p
    cases hc:(qZ [45] p).1 with
    |true=>
     rw [if_pos rfl]
     simp only
     have t2:=qEe (by simp) hc
     have t3:=qAE (qZ [45] p).2.1
     obtain ⟨n2,h2⟩:=qGJ f (.un (deep+1)) (qZ [45] p).2 (by show 20*_+4≤f;omega) (by show 0≤deep+1∧deep+1≤401;omega) (qDR hg) trivial
     have g2:=qF4 f (.un (deep+1)) (qZ [45] p).2 (qDR hg) trivial
     generalize pP f (.un (deep+1)) (qZ [45] p).2=q at h2 g2⊢
     obtain ⟨n3,h3⟩:=qPF (ndK 4 0 [q.1]) q.2 g2.1.n
     refine ⟨n1+n2+n3+1,fun n hn=>?_⟩
     obtain ⟨k,rfl,hm⟩:=up1 hn
     have w1:IntKind.i64.wrap (deep+1)=deep+1:=qT (by omega)
     have h2:=h2 k (by omega)
     rw [←w1] at h2
     exact qO (decide_eq_false hd) (qO hb (qA (h1 k (by omega)) (qD hc (qA h2 (qD rfl (qA (h3 k (by omega)) rfl))))))
    |false=>
     rw [if_neg (by simp)]
     have e:(qZ [45] p).2.2=p.2:=by unfold qZ;split<;>rfl
     obtain ⟨n2,h2⟩:=qGJ f (.at deep) (qZ [45] p).2 ⟨by omega,by rw [e];exact hb⟩ (by show 0≤deep∧deep≤400;omega) (qDR hg) trivial
     refine ⟨n1+n2+1,fun n hn=>?_⟩
     obtain ⟨k,rfl,hm⟩:=up1 hn
     exact qO (decide_eq_false hd) (qO hb (qA (h1 k (by omega)) (qO hc (qA (h2 k (by omega)) rfl))))
 |f+1,.at deep,(r0,b,l),ha,hj,hg,_=>by
  obtain ⟨ha,hb⟩:=ha
  replace ha:20*(tb r0).length+3≤f+1:=ha
  replace hb:b=false:=hb
  subst hb
  replace hj:0≤deep∧deep≤400:=hj
  have hn60:l.length≤60:=hg.n
  have hr1:r0.length≤1000:=hg.r
  have ht:=qAE r0
  have ett:=qC9 r0
  have eit:=qXJ [40] (r0,false,l)
  obtain ⟨n1,h1⟩:=qIa r0 l.length false (l.map qW)
  have wdec:∀op,qHO (wd (tb r0)) 1 10=some op→(wr (tb r0)).length<(tb r0).length:=fun op h=>by
   have e:=congrArg List.length (wdr (tb r0))
   simp only [List.length_append] at e
   have:wd (tb r0)≠ []:=fun e=>by
    rw [e,show qHO [] 1 10=none by decide+kernel] at h
    cases h
   have:=List.length_pos_iff.2 this
   omega
  unfold pP
  simp only at eit⊢
  rw [←eit]
  generalize tb r0=r at*
  have hw:=qID r
  have wordEv:∃n0,∀n,n0≤n→(qWY (qV n) n deep (BR (wd r)) (qGi (wr r,false,l))).run=some (qII (qVh f deep (wd r) (wr r,false,l))):=by
   have:=qVi f deep r (wr r,false,l) (by omega) hn60 (by
    rw [ett]
    intro op h
    exact qGJ f (.call op deep) (wr r,false,l) (by have:=wdec op h;have:=qAE (wr r);show 20*(tb (wr r)).length+9≤f;omega) hj ⟨by simp only;omega,hn60,hg.s⟩ trivial)
   rwa [ett] at this
  obtain ⟨n9,h9⟩:=wordEv
  obtain ⟨n8,h8⟩:=qTN (r,false,l) (by simp only;omega)
  simp only [ett] at h8
  by_cases hq:r.head?=some 34
  ·rw [if_pos hq]
   obtain ⟨t,rfl⟩:=qLx hq
   simp only [List.length_cons] at ht
   obtain ⟨n2,h2⟩:=qVD t false l (by omega) hn60
   refine ⟨n1+n2+3,fun n hn=>?_⟩
   obtain ⟨k,rfl,hm⟩:=up3 hn
   refine qA (h1 (k+2) (by omega)) (qA (qBx k (34::t) [34]) (qD rfl (qA (h2 (k+2) (by omega)) ?_)))
   rw [qC]
   simp only [List.tail_cons]
   all_goals (cases qCh [] t<;>rfl)
  ·rw [if_neg hq]
   have p34:List.isPrefixOf [34] r=false:=by rw [Bool.eq_false_iff];exact fun e=>hq ((qFy 34 r).1 e)
   by_cases hh:r.head?=some 35
   ·have p35:List.isPrefixOf [35] r=true:=(qFy 35 r).2 hh
    simp only [if_pos hh]
    obtain ⟨n2,h2⟩:=qWk deep r false l hn60
    cases he:qKZ r 1 5 with
    |some e=>
     simp only
     refine ⟨n1+n2+3,fun n hn=>?_⟩
     obtain ⟨k,rfl,hm⟩:=up3 hn
     have h2:=h2 (k+2) (by omega) (k+2) (by omega)
     rw [he] at h2
     exact qA (h1 (k+2) (by omega)) (qA (qBx k r [34]) (qO p34 (qA (qBx k r [35]) (qD p35 (qA h2 rfl)))))
    |none=>
     simp only
     rw [if_neg (fun h=>h.1 hh)]
     refine ⟨n1+n2+n8+n9+3,fun n hn=>?_⟩
     obtain ⟨k,rfl,hm⟩:=up3 hn
     have h2:=h2 (k+2) (by omega) (k+2) (by omega)
     rw [he] at h2
     exact qA (h1 (k+2) (by omega)) (qA (qBx k r [34]) (qO p34 (qA (qBx k r [35]) (qD p35 (qA h2 (qA (h8 (k+2) (by omega)) (h9 (k+2) (by omega))))))))
   ·have p35:List.isPrefixOf [35] r=false:=by rw [Bool.eq_false_iff];exact fun e=>hh ((qFy 35 r).1 e)
    simp only [if_neg hh]
    obtain ⟨n2,h2⟩:=qHP [40] (r,false,l)
    cases hc:(qZ [40] (r,false,l)).1 with
    |true=>
     rw [if_pos ⟨hh,rfl⟩]
     have t2:=qEe (by simp) hc
     have t3:=qAE (qZ [40] (r,false,l)).2.1
     simp only [ett] at t2
     have g1:Gd (r,false,l):=⟨by simp only;omega,hn60,hg.s⟩
     obtain ⟨n3,h3⟩:=qGJ f (.bin 1 (deep+1)) (qZ [40] (r,false,l)).2 (by show 20*_+6≤f;omega) (by show 0≤deep+1∧deep+1≤401;omega) (qDR g1) trivial
     generalize pP f (.bin 1 (deep+1)) (qZ [40] (r,false,l)).2=q at h3⊢
     obtain ⟨n4,h4⟩:=qHP [41] q.2
     refine ⟨n1+n2+n3+n4+3,fun n hn=>?_⟩
     obtain ⟨k,rfl,hm⟩:=up3 hn
     have w1:IntKind.i64.wrap (deep+1)=deep+1:=qT (by omega)
     have h3:=h3 (k+2) (by omega)
     rw [←w1] at h3
     cases hbb:q.2.2.1 with
     |true=>
      refine qA (h1 (k+2) (by omega)) (qA (qBx k r [34]) (qO p34 (qA (qBx k r [35]) (qO p35 (qA (h2 (k+2) (by omega)) (qD hc (qA h3 (qD hbb ?_))))))))
      rw [qC]
      unfold qC2
      rw [if_pos hbb]
      simp only [qII,hbb]
     |false=>
      refine qA (h1 (k+2) (by omega)) (qA (qBx k r [34]) (qO p34 (qA (qBx k r [35]) (qO p35 (qA (h2 (k+2) (by omega)) (qD hc (qA h3 (qO hbb (qA (h4 (k+2) (by omega)) ?_)))))))))
      rw [qC]
      exact congrArg (fun x=>some (q.1,x)) (qN7 [41] hbb)
    |false=>
     rw [if_neg (fun h=>by simp at h)]
     have e:(qZ [40] (r,false,l)).2=(r,false,l):=by
      unfold qZ at hc⊢
      split at hc
      ·cases hc
      ·rename_i hne
       rw [if_neg hne];simp only [ett]
     rw [hc,e] at h2
     refine ⟨n1+n2+n8+n9+3,fun n hn=>?_⟩
     obtain ⟨k,rfl,hm⟩:=up3 hn
     exact qA (h1 (k+2) (by omega)) (qA (qBx k r [34]) (qO p34 (qA (qBx k r [35]) (qO p35 (qA (h2 (k+2) (by omega)) (qO rfl (qA (h8 (k+2) (by omega)) (h9 (k+2) (by omega)))))))))
 |f+1,.call op deep,p,ha,hj,hg,_=>by
  replace ha:20*(tb p.1).length+9≤f+1:=ha
  unfold pP
  have gm:=qLw (w:= [40]) hg
  have rm:=qLt [40] p
  obtain ⟨ks,p',e1,e2,e3,n2,h2⟩:=qGJ f (.args op deep []) (qC2 [40] p) (by show 20*_+8≤f;omega) hj gm.1 (by have:=gm.1.r;show 0+_≤_;omega)
  obtain ⟨n1,h1⟩:=qHP [40] p
  obtain ⟨n3,h3⟩:=qPF (ndK 6 op ks) p' e2.n
  rw [e1]
  refine ⟨n1+n2+n3+1,fun n hn=>?_⟩
  obtain ⟨k,rfl,hm⟩:=up1 hn
  have h2:=h2 k (by omega) k (by omega)
  by_cases hb:p.2.1=true
  ·have em:qGi (qC2 [40] p)=(BR p.1,p.2.2.length,true,p.2.2.map qW):=by
    unfold qC2;rw [if_pos hb];simp only [qGi,hb]
   rw [em] at h2
   exact qD hb (qA h2 (qD (decide_eq_true (by simp)) (qA (h3 k (by omega)) rfl)))
  ·have hb:p.2.1=false:=by rw [Bool.eq_false_iff];exact hb
   have em:=qN7 [40] hb
   rw [←em] at h2
   exact qO hb (qA (h1 k (by omega)) (qA h2 (qD (decide_eq_true (by simp)) (qA (h3 k (by omega)) rfl))))
 |f+1,.args op deep kids,p,ha,hj,hg,hk=>by
  replace ha:20*(tb p.1).length+8≤f+1:=ha
  replace hk:kids.length+p.1.length≤1500:=hk
  replace hj:0≤deep∧deep≤400:=hj
  unfold pP
  cases hb:p.2.1 with
  |true=>
   rw [if_pos rfl]
   refine ⟨kids,p,rfl,hg,by omega,1,fun n hn M hM=>?_⟩
   obtain ⟨M,rfl,hM⟩:=up1 hM
   exact qP (qO (by show (!p.2.1)=false;rw [hb];rfl) rfl)
  |false=>
   rw [if_neg (by simp)]
   simp only
   obtain ⟨x,hx,n1,h1⟩:=qWK p hg.r
   have ga:=qUq hg
   have ra:=qJf p
   have tl0:=qAE p.1
   have nb:∀k:Nat,(!(qGi p).2.2.1)=true:=fun _=>by show (!p.2.1)=true;rw [hb];rfl
   cases hi:(qBX p).1 with
   |some y=>
    have hxy:=hx y hi
    subst hxy
    obtain ⟨n3,h3⟩:=qPF x (qBX p).2 ga.1.n
    have eo:qFQ (qBX p) (fun p=>pP f (.bin 1 (deep+1)) p)=qEG x (qBX p).2:=by unfold qFQ;rw [hi]
    rw [eo]
    have gq:Gd (qEG x (qBX p).2).2∧(qEG x (qBX p).2).2.1.length≤p.1.length∧(tb (qEG x (qBX p).2).2.1).length≤(tb p.1).length:=⟨qIE ga.1 (ga.2.2 x hi),by rw [qBF];exact ga.2.1,by rw [qBF];exact ra⟩
    have n2:=0
    generalize qEG x (qBX p).2=Q at h3 gq⊢
    obtain ⟨n4,h4⟩:=qHP [44] Q.2
    cases hc:(qZ [44] Q.2).1 with
    |true=>
     obtain ⟨ks,p',e1,e2,e3,n6,h6⟩:=qGJ f (.args op deep (kids++ [Q.1])) (qZ [44] Q.2).2 (by have:=qEe (by simp) hc;show 20*(tb (qZ [44] Q.2).2.1).length+8≤f;have:=qAE (qZ [44] Q.2).2.1;omega) ⟨hj.1,hj.2⟩ (qDR gq.1) (by have:=qEe (by simp) hc;have:=qAE Q.2.1;show (kids++ [Q.1]).length+_≤_;simp;omega)
     refine ⟨ks,p',by rw [if_pos rfl];exact e1,e2,e3,n1+n2+n3+n4+n6+1,fun k hn M hM=>?_⟩
     obtain ⟨M,rfl,hM⟩:=up1 hM
     rw [qQ (v':=(op,deep,(kids++ [Q.1]).length,(kids++ [Q.1]).map qA8,qGi (qZ [44] Q.2).2)) (by
      have h1:=h1 k (by omega)
      rw [hi] at h1
      refine qD (nb 0) (qA h1 (qD rfl (qA (h3 k (by omega)) (qD rfl (qD (decide_eq_true ⟨by simp,by decide,by decide,by simp;omega,rfl⟩) (qA (h4 k (by omega)) ?_))))))
      refine qO (by simp only;rw [hc];rfl) ?_
      rw [qC]
      simp only [List.length_append,List.map_append]
      rfl)]
     exact h6 k (by omega) M (by omega)
    |false=>
     obtain ⟨n5,h5⟩:=qHP [41] (qZ [44] Q.2).2
     refine ⟨kids++ [Q.1],qC2 [41] (qZ [44] Q.2).2,by rw [if_neg (by simp)],(qLw (qDR gq.1)).1,by simp;omega,n1+n2+n3+n4+n5+1,fun k hn M hM=>?_⟩
     obtain ⟨M,rfl,hM⟩:=up1 hM
     cases hbb:(qZ [44] Q.2).2.2.1 with
     |true=>
      rw [qP (r:=(op,(kids++ [Q.1]).length,(kids++ [Q.1]).map qA8,qGi (qC2 [41] (qZ [44] Q.2).2))) (by
       have h1:=h1 k (by omega)
       rw [hi] at h1
       refine qD (nb 0) (qA h1 (qD rfl (qA (h3 k (by omega)) (qD rfl (qD (decide_eq_true ⟨by simp,by decide,by decide,by simp;omega,rfl⟩) (qA (h4 k (by omega)) ?_))))))
       refine qD (by simp only;rw [hc];rfl) (qD hbb ?_)
       rw [qC]
       unfold qC2
       rw [if_pos hbb]
       simp only [List.length_append,List.map_append,qGi,hbb]
       rfl)]
     |false=>
      rw [qP (r:=(op,(kids++ [Q.1]).length,(kids++ [Q.1]).map qA8,qGi (qC2 [41] (qZ [44] Q.2).2))) (by
       have h1:=h1 k (by omega)
       rw [hi] at h1
       refine qD (nb 0) (qA h1 (qD rfl (qA (h3 k (by omega)) (qD rfl (qD (decide_eq_true ⟨by simp,by decide,by decide,by simp;omega,rfl⟩) (qA (h4 k (by omega)) ?_))))))
       refine qD (by simp only;rw [hc];rfl) (qO hbb (qA (h5 k (by omega)) ?_))
       rw [qC]
       simp only [List.length_append,List.map_append]
       exact congrArg (fun x=>some (Sum.inr (op,kids.length+1,kids.map qA8++ [[PV.i IntKind.i64 Q.1]],x))) (qN7 [41] hbb))]
   |none=>
    have eo:qFQ (qBX p) (fun p=>pP f (.bin 1 (deep+1)) p)=pP f (.bin 1 (deep+1)) (qBX p).2:=by unfold qFQ;rw [hi]
    rw [eo]
    obtain ⟨n3,h3⟩:=qGJ f (.bin 1 (deep+1)) (qBX p).2 (by show 20*_+6≤f;omega) (by show 0≤deep+1∧deep+1≤401;omega) ga.1 trivial
    have g3:=qF4 f (.bin 1 (deep+1)) (qBX p).2 ga.1 trivial
    have l3:=qEf f (.bin 1 (deep+1)) (qBX p).2
    have w1:IntKind.i64.wrap (deep+1)=deep+1:=qT (by omega)
    have gq:Gd (pP f (.bin 1 (deep+1)) (qBX p).2).2∧(pP f (.bin 1 (deep+1)) (qBX p).2).2.1.length≤p.1.length∧(tb (pP f (.bin 1 (deep+1)) (qBX p).2).2.1).length≤(tb p.1).length:=⟨g3.1,Nat.le_trans g3.2 ga.2.1,Nat.le_trans l3 ra⟩
    rw [←w1] at h3
    have n2:=0
    rw [w1] at h3
    generalize pP f (.bin 1 (deep+1)) (qBX p).2=Q at h3 gq⊢
    obtain ⟨n4,h4⟩:=qHP [44] Q.2
    cases hc:(qZ [44] Q.2).1 with
    |true=>
     obtain ⟨ks,p',e1,e2,e3,n6,h6⟩:=qGJ f (.args op deep (kids++ [Q.1])) (qZ [44] Q.2).2 (by have:=qEe (by simp) hc;show 20*(tb (qZ [44] Q.2).2.1).length+8≤f;have:=qAE (qZ [44] Q.2).2.1;omega) ⟨hj.1,hj.2⟩ (qDR gq.1) (by have:=qEe (by simp) hc;have:=qAE Q.2.1;show (kids++ [Q.1]).length+_≤_;simp;omega)
     refine ⟨ks,p',by rw [if_pos rfl];exact e1,e2,e3,n1+n2+n3+n4+n6+1,fun k hn M hM=>?_⟩
     obtain ⟨M,rfl,hM⟩:=up1 hM
     rw [qQ (v':=(op,deep,(kids++ [Q.1]).length,(kids++ [Q.1]).map qA8,qGi (qZ [44] Q.2).2)) (by
      have h1:=h1 k (by omega)
      rw [hi] at h1
      have h3:=h3 k (by omega)
      rw [←w1] at h3
      refine qD (nb 0) (qA h1 (qO rfl (qA h3 (qD rfl (qD (decide_eq_true ⟨by simp,by decide,by decide,by simp;omega,rfl⟩) (qA (h4 k (by omega)) ?_))))))
      refine qO (by simp only;rw [hc];rfl) ?_
      rw [qC]
      simp only [List.length_append,List.map_append]
      rfl)]
     exact h6 k (by omega) M (by omega)
    |false=>
     obtain ⟨n5,h5⟩:=qHP [41] (qZ [44] Q.2).2
     refine ⟨kids++ [Q.1],qC2 [41] (qZ [44] Q.2).2,by rw [if_neg (by simp)],(qLw (qDR gq.1)).1,by simp;omega,n1+n2+n3+n4+n5+1,fun k hn M hM=>?_⟩
     obtain ⟨M,rfl,hM⟩:=up1 hM
     cases hbb:(qZ [44] Q.2).2.2.1 with
     |true=>
      rw [qP (r:=(op,(kids++ [Q.1]).length,(kids++ [Q.1]).map qA8,qGi (qC2 [41] (qZ [44] Q.2).2))) (by
       have h1:=h1 k (by omega)
       rw [hi] at h1
       have h3:=h3 k (by omega)
       rw [←w1] at h3
       refine qD (nb 0) (qA h1 (qO rfl (qA h3 (qD rfl (qD (decide_eq_true ⟨by simp,by decide,by decide,by simp;omega,rfl⟩) (qA (h4 k (by omega)) ?_))))))
       refine qD (by simp only;rw [hc];rfl) (qD hbb ?_)
       rw [qC]
       unfold qC2
       rw [if_pos hbb]
       simp only [List.length_append,List.map_append,qGi,hbb]
       rfl)]
     |false=>
      rw [qP (r:=(op,(kids++ [Q.1]).length,(kids++ [Q.1]).map qA8,qGi (qC2 [41] (qZ [44] Q.2).2))) (by
       have h1:=h1 k (by omega)
       rw [hi] at h1
       have h3:=h3 k (by omega)
       rw [←w1] at h3
       refine qD (nb 0) (qA h1 (qO rfl (qA h3 (qD rfl (qD (decide_eq_true ⟨by simp,by decide,by decide,by simp;omega,rfl⟩) (qA (h4 k (by omega)) ?_))))))
       refine qD (by simp only;rw [hc];rfl) (qO hbb (qA (h5 k (by omega)) ?_))
       rw [qC]
       simp only [List.length_append,List.map_append]
       exact congrArg (fun x=>some (Sum.inr (op,kids.length+1,kids.map qA8++ [[PV.i IntKind.i64 Q.1]],x))) (qN7 [41] hbb))]
def pos (s r:List UInt8):Int:=((s.length-r.length:Nat):Int)
def qDc (s:List UInt8) (q:PS):ByteArray×Int×Bool×Nat×List (List PV):=(BR s,pos s q.1,q.2.1,q.2.2.length,q.2.2.map qW)
def qDA (s:List UInt8) (r:Int×PS):Int×ByteArray×Int×Bool×Nat×List (List PV):=(r.1,qDc s r.2)
theorem qT0 {s r:List UInt8} (h:r<:+s):s.drop (s.length-r.length)=r:=by
 obtain ⟨t,rfl⟩:=h
 simp
theorem qUr (s r:List UInt8):(pos s r).toNat=s.length-r.length:=by unfold pos;simp
theorem qMi (s r:List UInt8):0≤pos s r:=by unfold pos;omega
theorem qD8 {s r:List UInt8} (h:r<:+s):r.length≤s.length:=h.length_le
theorem qLy {s r t:List UInt8} {k:Nat} (h:r<:+s) (e:t=r.drop k) (hk:k≤r.length):pos s r+(k:Int)=pos s t:=by
 subst e
 have:=qD8 h
 unfold pos
 simp only [List.length_drop]
 omega
theorem qN8 {s r:List UInt8} (h:r<:+s):(BR s).toList[(pos s r).toNat]?=r.head?:=by
 rw [qAZ,qUr,←List.head?_drop,qT0 h]
theorem qUQ {s r:List UInt8} (h:r<:+s):tb r<:+s:=(List.dropWhile_suffix _).trans h
theorem qRf {s t:List UInt8} {c:UInt8} (h:(c::t)<:+s):t<:+s:=(List.suffix_cons c t).trans h
theorem qQY {s r:List UInt8} {k:Nat} (h:r<:+s):(BR s).extract (pos s r).toNat (pos s r+(k:Int)).toNat=BR (r.take k):=by
 rw [qGI,qUr,show (pos s r+(k:Int)).toNat=(s.length-r.length)+k by unfold pos;omega,←List.take_drop,qT0 h]
theorem qA6 {b:Bool} (h:b=true):(!b)=false:=by rw [h];rfl
theorem qDS {b:Bool} (h:b=false):(!b)=true:=by rw [h];rfl
theorem qSr {s:List UInt8} (hs:s.length≤1000) (n:Nat) (b:Bool) (m:Nat) (rows:List (List PV)):∀(r:List UInt8) (M:Nat),r<:+s→r.length+1≤M→zC (qES n) M (BR s,pos s r,b,m,rows)=some (BR s,pos s (tb r),b,m,rows)
 |r,0,_,h=>by omega
 | [],M+1,h,_=>by
  exact qP (qO (decide_eq_false (show ¬pos s []<((BR s).size:Int) by rw [qc];unfold pos;simp)) rfl)
 |c::t,M+1,h,hM=>by
  have hl:=qD8 h
  simp only [List.length_cons] at hl hM
  have g:=qN8 h
  have p1:pos s (c::t)<((BR s).size:Int):=by rw [qc];unfold pos;simp only [List.length_cons];omega
  by_cases hc:c=32
  ·subst hc
   have w1:IntKind.i64.wrap (pos s (32::t)+1)=pos s t:=by
    have:=qLy (k:=1) h (t:=t) rfl (by simp)
    rw [qT (by unfold pos;omega)];exact this
   rw [qQ (v':=(BR s,pos s t,b,m,rows)) (by
    refine qD (decide_eq_true p1) (qD (decide_eq_true (qMi _ _)) (qA g (qD rfl ?_)))
    rw [qC,w1])]
   have e:tb (32::t)=tb t:=by simp [tb]
   rw [e]
   exact qSr hs n b m rows t M (qRf h) (by omega)
  ·have e:tb (c::t)=c::t:=by simp [tb,hc]
   rw [e]
   refine qP (qD (decide_eq_true p1) (qD (decide_eq_true (qMi _ _)) (qA g (qO ?_ rfl))))
   rw [beq_eq_false_iff_ne]
   intro e
   exact hc (UInt8.toNat_inj.1 (show c.toNat=32 by omega))
theorem qTQ {s:List UInt8} (hs:s.length≤1000) (q:PS) (h:q.1<:+s):Ev (qB3 · (BR s) (pos s q.1) q.2.1 q.2.2.length (q.2.2.map qW)) (qDc s (tb q.1,q.2)):=by
 have hl:=qD8 h
 refine ⟨q.1.length+2,fun n hn=>?_⟩
 obtain ⟨k,rfl,hm⟩:=up1 hn
 exact qA (qSr hs k q.2.1 q.2.2.length (q.2.2.map qW) q.1 k h (by omega)) rfl
theorem qIG {s:List UInt8} (hs:s.length≤1000) (w:List UInt8) (hw:w.length≤1000) (q:PS) (h:q.1<:+s):Ev (qAJ · (BR w) (BR s) (pos s q.1) q.2.1 q.2.2.length (q.2.2.map qW)) ((sIs w q).1,qDc s (sIs w q).2):=by
 obtain ⟨n1,h1⟩:=qTQ hs q h
 have ht:=qUQ h
 have hl:=qD8 ht
 refine ⟨n1+1,fun n hn=>?_⟩
 obtain ⟨k,rfl,hm⟩:=up1 hn
 have w1:IntKind.i64.wrap (pos s (tb q.1)+((BR w).size:Int))=pos s (tb q.1)+(w.length:Int):=by rw [qc];exact qT (by unfold pos;omega)
 unfold sIs
 cases hb:q.2.1 with
 |true=>
  rw [if_pos rfl]
  have h1:=h1 k (by omega)
  rw [hb] at h1
  refine qA h1 (qD hb ?_)
  rw [qC]
 |false=>
  have h1:=h1 k (by omega)
  rw [hb] at h1
  rw [if_neg (by simp)]
  by_cases hf:pos s (tb q.1)+(w.length:Int)>(s.length:Int)
  ·have hn:¬w.isPrefixOf (tb q.1)=true:=by
    intro e
    have:=(List.isPrefixOf_iff_prefix.1 e).length_le
    unfold pos at hf
    omega
   rw [if_neg hn]
   refine qA h1 (qO hb (qD (decide_eq_true (show IntKind.i64.wrap (pos s (tb q.1)+((BR w).size:Int))>((BR s).size:Int) by rw [w1,qc];exact hf)) ?_))
   rw [qC]
  ·have hx:=qQY (k:=w.length) ht
   have hwl:w.length≤(tb q.1).length:=by unfold pos at hf;omega
   have cmp:((BR s).extract (pos s (tb q.1)).toNat (IntKind.i64.wrap (pos s (tb q.1)+((BR w).size:Int))).toNat).toList==(BR w).toList↔w.isPrefixOf (tb q.1)=true:=by
    rw [w1,hx,qAZ,qAZ,beq_iff_eq,List.isPrefixOf_iff_prefix,List.prefix_iff_eq_take]
    exact ⟨fun e=>e.symm,fun e=>e.symm⟩
   refine qA h1 (qO hb (qO (decide_eq_false (show ¬IntKind.i64.wrap (pos s (tb q.1)+((BR w).size:Int))>((BR s).size:Int) by rw [w1,qc];exact hf)) (qD (decide_eq_true (show 0≤pos s (tb q.1)∧pos s (tb q.1)≤IntKind.i64.wrap (pos s (tb q.1)+((BR w).size:Int))∧IntKind.i64.wrap (pos s (tb q.1)+((BR w).size:Int))≤((BR s).size:Int) by rw [w1,qc];exact ⟨qMi _ _,by omega,by omega⟩)) ?_)))
   by_cases hp:w.isPrefixOf (tb q.1)=true
   ·rw [if_pos hp]
    refine qO (qA6 (cmp.2 hp)) ?_
    rw [qC]
    show some (true,BR s,IntKind.i64.wrap (pos s (tb q.1)+((BR w).size:Int)),q.2.1,q.2.2.length,q.2.2.map qW)=_
    rw [w1,qLy ht rfl hwl]
    rfl
   ·rw [if_neg hp]
    refine qD (qDS (by rw [Bool.eq_false_iff];exact fun e=>hp (cmp.1 e))) ?_
    rw [qC]
theorem qLk {s:List UInt8} (x:Nd) (q:PS) (h:q.2.2.length≤5000) (hx:qQM x):Ev (qv · x.1 x.2.1 x.2.2.1 x.2.2.2.1 x.2.2.2.2.1 x.2.2.2.2.2.1 x.2.2.2.2.2.2.1 x.2.2.2.2.2.2.2.1 x.2.2.2.2.2.2.2.2.1 x.2.2.2.2.2.2.2.2.2.1 x.2.2.2.2.2.2.2.2.2.2.1 x.2.2.2.2.2.2.2.2.2.2.2.1 x.2.2.2.2.2.2.2.2.2.2.2.2.1 ((kd x).map qA8) (BR s) (pos s q.1) q.2.1 q.2.2.length (q.2.2.map qW)) (qDA s (qE9 x q)):=by
 obtain ⟨n1,h1⟩:=qJc x (by have:=hx.2;omega)
 refine ⟨n1+1,fun n hn=>?_⟩
 obtain ⟨k,rfl,hm⟩:=up1 hn
 have w2:IntKind.i64.wrap ((((q.2.2.length+1):Nat):Int)-1)=(q.2.2.length:Int):=by rw [qT (by omega)];omega
 refine qD rfl (qD (decide_eq_true ⟨by simp,by decide,by decide,by simp;omega,rfl⟩) ?_)
 unfold qE9
 by_cases h6:60<q.2.2.length+1
 ·rw [if_pos (.inl h6)]
  refine qD (decide_eq_true (by omega)) ?_
  rw [qC,w2]
  simp only [qDA,qDc,List.map_append,List.length_append]
  rfl
 ·refine qO (decide_eq_false (by omega)) (qA (h1 k (by omega)) ?_)
  cases ho:qF3 x with
  |true=>
   rw [if_neg (fun e=>e.elim h6 (by simp))]
   refine qO rfl ?_
   rw [qC,w2]
   simp only [qDA,qDc,List.map_append,List.length_append]
   rfl
  |false=>
   rw [if_pos (.inr rfl)]
   refine qD rfl ?_
   rw [qC,w2]
   simp only [qDA,qDc,List.map_append,List.length_append]
   rfl
theorem qPW {s:List UInt8} (hs:s.length≤1000) (n:Nat) (at0:Int) (b:Bool) (m:Nat) (rows:List (List PV)):∀(r:List UInt8) (M:Nat),r<:+s→r.length+1≤M→zC (qCY n) M (at0,BR s,pos s r,b,m,rows)=some (at0,BR s,pos s (wr r),b,m,rows)
 |r,0,_,h=>by omega
 | [],M+1,h,_=>by
  exact qP (qO (decide_eq_false (show ¬pos s []<((BR s).size:Int) by rw [qc];unfold pos;simp)) rfl)
 |c::t,M+1,h,hM=>by
  have hl:=qD8 h
  simp only [List.length_cons] at hl hM
  have g:=qN8 h
  have p1:pos s (c::t)<((BR s).size:Int):=by rw [qc];unfold pos;simp only [List.length_cons];omega
  have p0:decide (0≤pos s (c::t))=true:=decide_eq_true (qMi _ _)
  have w1:IntKind.i64.wrap (pos s (c::t)+1)=pos s t:=by
   have:=qLy (k:=1) h (t:=t) rfl (by simp)
   rw [qT (by unfold pos;omega)];exact this
  have yes:(wch c=true)→(qCY n (at0,BR s,pos s (c::t),b,m,rows)).run=some (.inl (at0,BR s,pos s t,b,m,rows)):=fun hc=>by
   have fin:some (Sum.inl (at0,BR s,IntKind.i64.wrap (pos s (c::t)+1),b,m,rows))=(some (Sum.inl (at0,BR s,pos s t,b,m,rows)):Option (_⊕(Int×ByteArray×Int×Bool×Nat×List (List PV)))):=by rw [w1]
   refine qD (decide_eq_true p1) (qD p0 (qA g ?_))
   by_cases a1:(c.toNat:Int)≥65
   ·refine qD (decide_eq_true a1) (qD p0 (qA g ?_))
    by_cases a2:(c.toNat:Int)≤90
    ·exact qD (decide_eq_true a2) fin
    ·refine qO (decide_eq_false a2) (qD p0 (qA g ?_))
     by_cases a3:(c.toNat:Int)≥48
     ·refine qD (decide_eq_true a3) (qD p0 (qA g ?_))
      by_cases a4:(c.toNat:Int)≤57
      ·exact qD (decide_eq_true a4) fin
      ·refine qO (decide_eq_false a4) (qD p0 (qA g ?_))
       have a5:c=36:=by
        unfold wch at hc
        simp only [Bool.or_eq_true,Bool.and_eq_true,decide_eq_true_eq,beq_iff_eq] at hc
        rcases hc with hc|hc|hc
        ·omega
        ·omega
        ·exact hc
       exact qD (by rw [a5];rfl) fin
     ·omega
   ·refine qO (decide_eq_false a1) (qD p0 (qA g ?_))
    by_cases a3:(c.toNat:Int)≥48
    ·refine qD (decide_eq_true a3) (qD p0 (qA g ?_))
     by_cases a4:(c.toNat:Int)≤57
     ·exact qD (decide_eq_true a4) fin
     ·refine qO (decide_eq_false a4) (qD p0 (qA g ?_))
      have a5:c=36:=by
       unfold wch at hc
       simp only [Bool.or_eq_true,Bool.and_eq_true,decide_eq_true_eq,beq_iff_eq] at hc
       rcases hc with hc|hc|hc
       ·omega
       ·omega
       ·exact hc
      exact qD (by rw [a5];rfl) fin
    ·refine qO (decide_eq_false a3) (qD p0 (qA g ?_))
     have a5:c=36:=by
      unfold wch at hc
      simp only [Bool.or_eq_true,Bool.and_eq_true,decide_eq_true_eq,beq_iff_eq] at hc
      rcases hc with hc|hc|hc
      ·omega
      ·omega
      ·exact hc
     exact qD (by rw [a5];rfl) fin
  have no:(wch c=false)→(qCY n (at0,BR s,pos s (c::t),b,m,rows)).run=some (.inr (at0,BR s,pos s (c::t),b,m,rows)):=fun hc=>by
   have hc':¬((65≤c.toNat∧c.toNat≤90)∨(48≤c.toNat∧c.toNat≤57)∨c=36):=fun e=>by
    have:wch c=true:=by
     unfold wch
     simp only [Bool.or_eq_true,Bool.and_eq_true,decide_eq_true_eq,beq_iff_eq]
     exact e
    rw [hc] at this;cases this
   have a5:((c.toNat:Int)==36)=false:=by
    rw [beq_eq_false_iff_ne];intro e
    exact hc' (.inr (.inr (UInt8.toNat_inj.1 (show c.toNat=36 by omega))))
   refine qD (decide_eq_true p1) (qD p0 (qA g ?_))
   by_cases a1:(c.toNat:Int)≥65
   ·have a2:¬(c.toNat:Int)≤90:=fun e=>hc' (.inl ⟨by omega,by omega⟩)
    refine qD (decide_eq_true a1) (qD p0 (qA g (qO (decide_eq_false a2) ?_)))
    refine qD p0 (qA g (qD (decide_eq_true (show (c.toNat:Int)≥48 by omega)) ?_))
    exact qD p0 (qA g (qO (decide_eq_false (show ¬(c.toNat:Int)≤57 by omega)) (qD p0 (qA g (qO a5 rfl)))))
   ·refine qO (decide_eq_false a1) (qD p0 (qA g ?_))
    by_cases a3:(c.toNat:Int)≥48
    ·have a4:¬(c.toNat:Int)≤57:=fun e=>hc' (.inr (.inl ⟨by omega,by omega⟩))
     exact qD (decide_eq_true a3) (qD p0 (qA g (qO (decide_eq_false a4) (qD p0 (qA g (qO a5 rfl))))))
    ·exact qO (decide_eq_false a3) (qD p0 (qA g (qO a5 rfl)))
  cases hc:wch c with
  |true=>
   rw [qQ (yes hc),show wr (c::t)=wr t by simp [wr,hc]]
   exact qPW hs n at0 b m rows t M (qRf h) (by omega)
  |false=>
   rw [qP (no hc),show wr (c::t)=c::t by simp [wr,hc]]
theorem qRg {s:List UInt8} (hs:s.length≤1000) (q:PS) (h:q.1<:+s):Ev (qDk · (BR s) (pos s q.1) q.2.1 q.2.2.length (q.2.2.map qW)) (BR (wd q.1),qDc s (wr q.1,q.2)):=by
 have hl:=qD8 h
 have hw:=qID q.1
 have hd:=congrArg List.length (wdr q.1)
 simp only [List.length_append] at hd
 refine ⟨q.1.length+2,fun n hn=>?_⟩
 obtain ⟨k,rfl,hm⟩:=up1 hn
 refine qA (qPW hs k (pos s q.1) q.2.1 q.2.2.length (q.2.2.map qW) q.1 k h (by omega)) (qD (decide_eq_true ⟨qMi _ _,by unfold pos;simp only;omega,by rw [qc];unfold pos;simp only;omega⟩) ?_)
 rw [qC]
 have e:(pos s (wr q.1))=pos s q.1+((wd q.1).length:Int):=by unfold pos;omega
 have x:=qQY (k:=(wd q.1).length) h
 rw [←e] at x
 have t:q.1.take (wd q.1).length=wd q.1:=by
  have:=List.take_left (l₁:=wd q.1) (l₂:=wr q.1)
  rwa [wdr] at this
 rw [t] at x
 show some ((BR s).extract (pos s q.1).toNat (pos s (wr q.1)).toNat,_)=_
 rw [x]
 rfl
theorem qIb {s:List UInt8} (hs:s.length≤1000) {n:Nat} (b:Bool) (l:List Nd) (res:Int×PS):∀(k:Nat) (r acc:List UInt8) (M:Nat),r.length≤k→r<:+s→acc.length+r.length≤1001→r.length+1≤M→
  (∀w t,qCh acc r=some (w,t)→qv n 1 0 2 0 (BR w) 0 0 false false 0 0 false false [] (BR s) (pos s t) b l.length (l.map qW)=some (qDA s res))→
  zC (qEs n) M (BR acc,BR s,pos s r,b,l.length,l.map qW)=some (match qCh acc r with
   |none=> .inr (BR s,pos s [],b,l.length,l.map qW)
   |some _=> .inl (qDA s res))
 |k,r,acc,0,_,_,_,h,_=>by omega
 |k,[],acc,M+1,_,h,_,_,_=>by
  exact qP (qO (decide_eq_false (show ¬pos s []<((BR s).size:Int) by rw [qc];unfold pos;simp)) rfl)
 |0,c::t,acc,M+1,hk,_,_,_,_=>by simp at hk
 |k+1,c::t,acc,M+1,hk,h,ha,hM,hr=>by
  have hl:=qD8 h
  simp only [List.length_cons] at hl hM hk ha
  have g:=qN8 h
  have p1:pos s (c::t)<((BR s).size:Int):=by rw [qc];unfold pos;simp only [List.length_cons];omega
  have p0:decide (0≤pos s (c::t))=true:=decide_eq_true (qMi _ _)
  have pa:=qLy (k:=1) h (t:=t) rfl (by simp)
  have w1:IntKind.i64.wrap (pos s (c::t)+1)=pos s t:=by rw [qT (by unfold pos;omega)];exact pa
  by_cases hc:c=34
  ·subst hc
   have ht:=qRf h
   by_cases hq:t.head?=some 34
   ·obtain ⟨u,rfl⟩:=qLx hq
    simp only [List.length_cons] at hl hM hk ha
    rw [qWg] at hr⊢
    have g2:=qN8 ht
    have pb:=qLy (k:=1) ht (t:=u) rfl (by simp)
    have w2:IntKind.i64.wrap (pos s (34::u)+1)=pos s u:=by rw [qT (by unfold pos;omega)];exact pb
    rw [qQ (v':=(BR (acc++ [34]),BR s,pos s u,b,l.length,l.map qW)) (by
     refine qD (decide_eq_true p1) (qD p0 (qA g (qO rfl (qO (decide_eq_false (show ¬IntKind.i64.wrap (pos s (34::34::u)+1)≥((BR s).size:Int) by rw [w1,qc];unfold pos;simp only [List.length_cons];omega)) (qD (decide_eq_true (show 0≤IntKind.i64.wrap (pos s (34::34::u)+1) by rw [w1];exact qMi _ _)) (qA (x:=34) (by show (BR s).toList[(IntKind.i64.wrap (pos s (34::34::u)+1)).toNat]?=_;rw [w1];exact g2) (qO rfl (qD (decide_eq_true (show (BR acc).size+1≤9223372036854775807 by rw [qc];omega)) ?_))))))))
     rw [qC]
     show some (Sum.inl (BR acc++BR [34],BR s,IntKind.i64.wrap (IntKind.i64.wrap (pos s (34::34::u)+1)+1),b,l.length,l.map qW))=_
     rw [w1,w2,qPD])]
    exact qIb hs b l res k u _ M (by omega) (qRf ht) (by simp;omega) (by omega) hr
   ·rw [qWh acc t hq] at hr⊢
    have hr:=hr acc t rfl
    refine qP (qD (decide_eq_true p1) (qD p0 (qA g (qO rfl ?_))))
    cases t with
    |nil=>
     refine qD (decide_eq_true (show IntKind.i64.wrap (pos s [34]+1)≥((BR s).size:Int) by rw [w1,qc];unfold pos;simp)) ?_
     rw [←w1] at hr
     exact qA hr rfl
    |cons d u=>
     have g2:=qN8 ht
     have hd:¬d=34:=fun e=>hq (by rw [e];rfl)
     refine qO (decide_eq_false (show ¬IntKind.i64.wrap (pos s (34::d::u)+1)≥((BR s).size:Int) by rw [w1,qc];unfold pos;simp only [List.length_cons] at hl⊢;omega)) (qD (decide_eq_true (show 0≤IntKind.i64.wrap (pos s (34::d::u)+1) by rw [w1];exact qMi _ _)) (qA (x:=d) (by show (BR s).toList[(IntKind.i64.wrap (pos s (34::d::u)+1)).toNat]?=_;rw [w1];exact g2) (qD ?_ ?_)))
     ·rw [bne_iff_ne]
      intro e
      exact hd (UInt8.toNat_inj.1 (show d.toNat=34 by omega))
     ·rw [←w1] at hr
      exact qA hr rfl
  ·rw [qWi acc t hc] at hr⊢
   have hx:=qQY (k:=1) h
   rw [show ((1:Nat):Int)=1 from rfl] at hx pa
   have hx:(BR s).extract (pos s (c::t)).toNat (IntKind.i64.wrap (pos s (c::t)+1)).toNat=BR [c]:=by
    rw [w1,←pa];exact hx
   rw [qQ (v':=(BR (acc++ [c]),BR s,pos s t,b,l.length,l.map qW)) (by
    refine qD (decide_eq_true p1) (qD p0 (qA g (qD ?_ (qD (decide_eq_true (show 0≤pos s (c::t)∧pos s (c::t)≤IntKind.i64.wrap (pos s (c::t)+1)∧IntKind.i64.wrap (pos s (c::t)+1)≤((BR s).size:Int) by rw [w1,qc];exact ⟨qMi _ _,by unfold pos;simp only [List.length_cons];omega,by unfold pos;omega⟩)) (qD (decide_eq_true (show (BR acc).size+((BR s).extract (pos s (c::t)).toNat (IntKind.i64.wrap (pos s (c::t)+1)).toNat).size≤9223372036854775807 by rw [hx,qc,qc];simp;omega)) ?_)))))
    ·rw [bne_iff_ne]
     intro e
     exact hc (UInt8.toNat_inj.1 (show c.toNat=34 by omega))
    ·rw [qC]
     show some (Sum.inl (BR acc++(BR s).extract (pos s (c::t)).toNat (IntKind.i64.wrap (pos s (c::t)+1)).toNat,BR s,IntKind.i64.wrap (pos s (c::t)+1),b,l.length,l.map qW))=_
     rw [hx,qPD,w1])]
   exact qIb hs b l res k t _ M (by omega) (qRf h) (by simp;omega) (by omega) hr
theorem qVj {s:List UInt8} (hs:s.length≤1000) (q:PS) (h:q.1<:+s) (hn:q.2.2.length≤5000):Ev (qF7 · (BR s) (pos s q.1) q.2.1 q.2.2.length (q.2.2.map qW)) (qDA s (match qCh [] q.1 with
  |none=>(0,[],true,q.2.2)
  |some (w,t)=>qE9 (nd1 (2,0,BR w)) (t,q.2))):=by
 have hl:=qD8 h
 cases hq:qCh [] q.1 with
 |none=>
  refine ⟨q.1.length+2,fun n hn=>?_⟩
  obtain ⟨k,rfl,hm⟩:=up1 hn
  have lp:=qIb hs (n:=k) q.2.1 q.2.2 (0,q) q.1.length q.1 [] k (Nat.le_refl _) h (by simp;omega) (by omega) (fun w t e=>by rw [hq] at e;cases e)
  rw [hq] at lp
  exact qA lp rfl
 |some wt=>
  obtain ⟨w,t⟩:=wt
  have hw:=qIF _ _ _ (Nat.le_refl _) hq
  simp only [List.length_nil] at hw
  obtain ⟨n1,h1⟩:=qLk (s:=s) (nd1 (2,0,BR w)) (t,q.2) hn ⟨by simp [kd,nd1],by simp only [nd1,qc];omega⟩
  refine ⟨n1+q.1.length+2,fun n hn=>?_⟩
  obtain ⟨k,rfl,hm⟩:=up1 hn
  have lp:=qIb hs (n:=k) q.2.1 q.2.2 (qE9 (nd1 (2,0,BR w)) (t,q.2)) q.1.length q.1 [] k (Nat.le_refl _) h (by simp;omega) (by omega) (fun w' t' e=>by rw [hq] at e;cases e;exact h1 k (by omega))
  rw [hq] at lp
  exact qA lp rfl
theorem qTR:∀o∈qCn,(qAY o).toList≠ []∧(qAY o).size≤2:=by decide+kernel
theorem qVk:∀o∈qCn,1≤o∧o≤11:=by decide
def opR:List (List PV):=qCn.map qA8
def rsL (level:Int) (r:List UInt8):List Int→List UInt8
 | []=>r
 |o::l=>if lvl o=level then rsL level (tb r) l else rsL level r l
theorem qPG {s:List UInt8} (hs:s.length≤1000) {n:Nat} (level:Int) (R:List UInt8) (hR:tb R=R) (m:Nat) (rows:List (List PV))
  (h1:∀o∈qCn,qCw n o=some (lvl o)) (h2:∀o∈qCn,qDU n o=some (qAY o)):
  ∀(k i:Nat) (r:List UInt8) (M:Nat),i+k=11→k+1≤M→tb r=R→
  (∀r',tb r'=R→(r'=r∨r'=R)→∀o∈qCn,qAJ n (qAY o) (BR s) (pos s r') false m rows=some (if (qAY o).toList.isPrefixOf R=true then (true,BR s,pos s (R.drop (qAY o).size),false,m,rows) else (false,BR s,pos s R,false,m,rows)))→
  zC (qFa n) M (level,11,(i:Int),opR,BR s,pos s r,false,m,rows)=some (if qEo level R (qCn.drop i)=0 then .inr (BR s,pos s (rsL level r (qCn.drop i)),false,m,rows) else .inl (qEo level R (qCn.drop i),BR s,pos s (R.drop (qAY (qEo level R (qCn.drop i))).size),false,m,rows))
 |k,i,r,0,_,h,_,_=>by omega
 |0,i,r,M+1,hk,_,_,_=>by
  have hi:i=11:=by omega
  subst hi
  exact qP (qO rfl rfl)
 |k+1,i,r,M+1,hk,hM,hr,h3=>by
  have hi:i<qCn.length:=by simp [qCn];omega
  obtain ⟨o,ho⟩:∃o,qCn[i]?=some o:=⟨_,List.getElem?_eq_getElem hi⟩
  have hin:=List.mem_of_getElem? ho
  have hR2:opR[i]?=some [PV.i .i64 o]:=by simp [opR,List.getElem?_map,ho,qA8]
  have hc:zB .i64 [PV.i .i64 o] 0=some o:=rfl
  have hd:qCn.drop i=o::qCn.drop (i+1):=qEI ho
  have w5:IntKind.i64.wrap ((i:Int)+1)=((i+1:Nat):Int):=by rw [qT (by omega)];omega
  have g1:decide ((i:Int)<((11:Nat):Int))=true:=decide_eq_true (by omega)
  have g2:decide (11=opR.length∧0≤(i:Int)∧(i:Int)<((11:Nat):Int))=true:=decide_eq_true ⟨rfl,by omega,by omega⟩
  have h0:o≠0:=by have:=qVk o hin;omega
  rw [hd]
  by_cases hl:lvl o=level
  ·have is:=h3 r hr (.inl rfl) o hin
   by_cases hp:(qAY o).toList.isPrefixOf R=true
   ·have e:qEo level R (o::qCn.drop (i+1))=o:=by unfold qEo;rw [if_pos ⟨hl,hp⟩]
    rw [e,if_neg h0]
    rw [if_pos hp] at is
    exact qP (qD g1 (qD g2 (qA hR2 (qA hc (qA (h1 o hin) (qD (beq_iff_eq.2 hl) (qD g2 (qA hR2 (qA hc (qA (h2 o hin) (qA is (qD rfl (qD g2 (qA hR2 (qA hc rfl)))))))))))))))
   ·have e:qEo level R (o::qCn.drop (i+1))=qEo level R (qCn.drop (i+1)):=by
     conv=>lhs;unfold qEo
     rw [if_neg (fun h=>hp h.2)]
    have e2:rsL level r (o::qCn.drop (i+1))=rsL level R (qCn.drop (i+1)):=by
     conv=>lhs;unfold rsL
     rw [if_pos hl,hr]
    rw [e,e2]
    rw [if_neg hp] at is
    rw [qQ (v':=(level,11,((i+1:Nat):Int),opR,BR s,pos s R,false,m,rows)) (by
     refine qD g1 (qD g2 (qA hR2 (qA hc (qA (h1 o hin) (qD (beq_iff_eq.2 hl) (qD g2 (qA hR2 (qA hc (qA (h2 o hin) (qA is (qO rfl ?_)))))))))))
     rw [qC,w5])]
    exact qPG hs level R hR m rows h1 h2 k (i+1) R M (by omega) (by omega) hR (fun r' a b=>h3 r' a (.inr (b.elim id id)))
  ·have e:qEo level R (o::qCn.drop (i+1))=qEo level R (qCn.drop (i+1)):=by
    conv=>lhs;unfold qEo
    rw [if_neg (fun h=>hl h.1)]
   have e2:rsL level r (o::qCn.drop (i+1))=rsL level r (qCn.drop (i+1)):=by
    conv=>lhs;unfold rsL
    rw [if_neg hl]
   rw [e,e2]
   rw [qQ (v':=(level,11,((i+1:Nat):Int),opR,BR s,pos s r,false,m,rows)) (by
    refine qD g1 (qD g2 (qA hR2 (qA hc (qA (h1 o hin) (qO (beq_eq_false_iff_ne.2 hl) ?_)))))
    rw [qC,w5])]
   exact qPG hs level R hR m rows h1 h2 k (i+1) r M (by omega) (by omega) hr h3
theorem qWo {level:Int} (h:1≤level∧level≤4) (r:List UInt8):rsL level r qCn=tb r:=by
 have c:level=1∨level=2∨level=3∨level=4:=by omega
 rcases c with rfl|rfl|rfl|rfl<;>simp [rsL,qCn,lvl,qC9]
theorem qWp {s:List UInt8} (hs:s.length≤1000) {level:Int} (hl:1≤level∧level≤4) (q:PS) (hb:q.2.1=false) (h:q.1<:+s):Ev (qFb · level (BR s) (pos s q.1) q.2.1 q.2.2.length (q.2.2.map qW)) (qDA s (sOp level q)):=by
 obtain ⟨n1,h1⟩:=qA9 (F:=fun o n=>qCw n o) (f:=lvl) qCn (fun o _=>qKY o)
 obtain ⟨n2,h2⟩:=qA9 (F:=fun o n=>qDU n o) (f:=qAY) qCn (fun o ho=>qLe o (qVk o ho))
 obtain ⟨n3,h3⟩:=qA9 (F:=fun o n=>qAJ n (qAY o) (BR s) (pos s q.1) q.2.1 q.2.2.length (q.2.2.map qW)) (f:=fun o=>((sIs (qAY o).toList q).1,qDc s (sIs (qAY o).toList q).2)) qCn (fun o ho=>by
  have:=qIG hs (qAY o).toList (by rw [qAa];have:=(qTR o ho).2;omega) q h
  rwa [qJg] at this)
 obtain ⟨n4,h4⟩:=qA9 (F:=fun o n=>qAJ n (qAY o) (BR s) (pos s (tb q.1)) q.2.1 q.2.2.length (q.2.2.map qW)) (f:=fun o=>((sIs (qAY o).toList (tb q.1,q.2)).1,qDc s (sIs (qAY o).toList (tb q.1,q.2)).2)) qCn (fun o ho=>by
  have:=qIG hs (qAY o).toList (by rw [qAa];have:=(qTR o ho).2;omega) (tb q.1,q.2) (qUQ h)
  rwa [qJg] at this)
 refine ⟨n1+n2+n3+n4+13,fun n hn=>?_⟩
 obtain ⟨k,rfl,hm⟩:=up1 hn
 have lp:=qPG hs (n:=k) level (tb q.1) (qC9 q.1) q.2.2.length (q.2.2.map qW) (h1 k (by omega)) (h2 k (by omega)) 11 0 q.1 k (by omega) (by omega) rfl (fun r' _ hr' o ho=>by
  rcases hr' with rfl|rfl
  ·have:=h3 k (by omega) o ho
   rw [hb] at this
   refine this.trans ?_
   unfold sIs
   rw [if_neg (by rw [hb];simp)]
   by_cases hp:(qAY o).toList.isPrefixOf (tb q.1)=true
   ·rw [if_pos hp,if_pos hp,qAa];simp only [qDc,hb]
   ·rw [if_neg hp,if_neg hp];simp only [qDc,hb]
  ·have:=h4 k (by omega) o ho
   rw [hb] at this
   refine this.trans ?_
   unfold sIs
   rw [if_neg (by rw [hb];simp)]
   simp only [qC9]
   by_cases hp:(qAY o).toList.isPrefixOf (tb q.1)=true
   ·rw [if_pos hp,if_pos hp,qAa];simp only [qDc,hb]
   ·rw [if_neg hp,if_neg hp];simp only [qDc,hb])
 rw [List.drop_zero,qWo hl] at lp
 unfold sOp
 rw [if_neg (by rw [hb];simp)]
 show qFb (k+1) level (BR s) (pos s q.1) q.2.1 q.2.2.length (q.2.2.map qW)=_
 rw [hb]
 by_cases h0:qEo level (tb q.1) qCn=0
 ·rw [if_pos h0] at lp
  rw [if_pos h0]
  refine qA lp ?_
  simp only [qDA,qDc,hb,h0]
  rfl
 ·rw [if_neg h0] at lp
  rw [if_neg h0]
  refine qA lp ?_
  simp only [qDA,qDc,hb]
  rfl
theorem qRh {s:List UInt8} (hs:s.length≤1000) {n:Nat} (r:List UInt8) (hr:r<:+s) (b:Bool) (l:List Nd)
  (h1:∀i,1≤i∧i≤5→qBm n i=some (qh i)) (h2:∀i,1≤i∧i≤5→qDj n i=some (4,i,em))
  (h4:∀i,1≤i∧i≤5→qv n 1 0 4 i em 0 0 false false 0 0 false false [] (BR s) (pos s (r.drop ((qh i).size-1))) b l.length (l.map qW)=some (qDA s (qE9 (nd1 (4,i,em)) (r.drop ((qh i).size-1),b,l)))):
  ∀(k:Nat) (i:Int) (M:Nat),1≤i→i+k=6→k+1≤M→zC (qDG n) M (i,BR s,pos s r,b,l.length,l.map qW)=some (match qTp r i k with
   |some e=> .inl (qDA s (qE9 (nd1 (4,e,em)) (r.drop ((qh e).size-1),b,l)))
   |none=> .inr (BR s,pos s r,b,l.length,l.map qW))
 |k,i,0,_,_,h=>by omega
 |0,i,M+1,hi,hk,h=>by
  exact qP (qO (decide_eq_false (show ¬i≤5 by omega)) rfl)
 |k+1,i,M+1,hi,hk,h=>by
  have hi5:1≤i∧i≤5:=⟨hi,by omega⟩
  have hsz:1≤(qh i).size∧(qh i).size≤7:=by
   have c:i=1∨i=2∨i=3∨i=4∨i=5:=by omega
   rcases c with rfl|rfl|rfl|rfl|rfl<;>decide+kernel
  have hx:(qh i).extract ((1:Int)).toNat (((qh i).size:Nat):Int).toNat=BR (qh i).toList.tail:=by
   conv=>lhs;rw [←qJg (qh i)]
   rw [qGI,qc,qAa]
   congr 1
   rw [Int.toNat_natCast,List.take_of_length_le (by rw [qAa];omega)]
   exact List.drop_one
  have hxs:((qh i).extract ((1:Int)).toNat (((qh i).size:Nat):Int).toNat).size=(qh i).size-1:=by
   rw [hx,qc,List.length_tail,qAa]
  have hl:=qD8 hr
  have w1:IntKind.i64.wrap (pos s r+(((qh i).extract ((1:Int)).toNat (((qh i).size:Nat):Int).toNat).size:Int))=pos s r+(((qh i).size-1:Nat):Int):=by
   rw [hxs];exact qT (by unfold pos;omega)
  have w2:IntKind.i64.wrap (i+1)=i+1:=qT (by omega)
  have ih:=qRh hs r hr b l h1 h2 h4 k (i+1) M (by omega) (by omega) (by omega)
  unfold qTp
  by_cases hf:pos s r+(((qh i).size-1:Nat):Int)≤(s.length:Int)
  ·have hk2:(qh i).size-1≤r.length:=by unfold pos at hf;omega
   have cmp:(((BR s).extract (pos s r).toNat (IntKind.i64.wrap (pos s r+(((qh i).extract ((1:Int)).toNat (((qh i).size:Nat):Int).toNat).size:Int))).toNat).toList==((qh i).extract ((1:Int)).toNat (((qh i).size:Nat):Int).toNat).toList)=true↔(qh i).toList.tail.isPrefixOf r=true:=by
    rw [w1,qQY hr,hx,qAZ,qAZ,beq_iff_eq,List.isPrefixOf_iff_prefix,List.prefix_iff_eq_take,List.length_tail,qAa]
    exact ⟨fun e=>e.symm,fun e=>e.symm⟩
   have g1:decide (IntKind.i64.wrap (pos s r+(((qh i).extract ((1:Int)).toNat (((qh i).size:Nat):Int).toNat).size:Int))≤((BR s).size:Int))=true:=decide_eq_true (by rw [w1,qc];exact hf)
   have g2:decide (0≤pos s r∧pos s r≤IntKind.i64.wrap (pos s r+(((qh i).extract ((1:Int)).toNat (((qh i).size:Nat):Int).toNat).size:Int))∧IntKind.i64.wrap (pos s r+(((qh i).extract ((1:Int)).toNat (((qh i).size:Nat):Int).toNat).size:Int))≤((BR s).size:Int))=true:=decide_eq_true (by rw [w1,qc];exact ⟨qMi _ _,by omega,hf⟩)
   by_cases hp:(qh i).toList.tail.isPrefixOf r=true
   ·rw [if_pos hp]
    have h4:=h4 i hi5
    rw [←qLy hr rfl hk2,←w1] at h4
    exact qP (qD (decide_eq_true (show i≤5 by omega)) (qA (h1 i hi5) (qD (decide_eq_true ⟨by decide,by omega,Int.le_refl _⟩) (qD g1 (qD g2 (qD (cmp.2 hp) (qA (h2 i hi5) (qA h4 rfl))))))))
   ·rw [if_neg hp]
    rw [qQ (v':=(i+1,BR s,pos s r,b,l.length,l.map qW)) (by
     refine qD (decide_eq_true (show i≤5 by omega)) (qA (h1 i hi5) (qD (decide_eq_true ⟨by decide,by omega,Int.le_refl _⟩) (qD g1 (qD g2 (qO (by rw [Bool.eq_false_iff];exact fun e=>hp (cmp.1 e)) ?_)))))
     rw [qC,w2])]
    exact ih
  ·have hp:¬(qh i).toList.tail.isPrefixOf r=true:=by
    intro e
    have:=(List.isPrefixOf_iff_prefix.1 e).length_le
    rw [List.length_tail,qAa] at this
    unfold pos at hf
    omega
   rw [if_neg hp]
   rw [qQ (v':=(i+1,BR s,pos s r,b,l.length,l.map qW)) (by
    refine qD (decide_eq_true (show i≤5 by omega)) (qA (h1 i hi5) (qD (decide_eq_true ⟨by decide,by omega,Int.le_refl _⟩) (qO (decide_eq_false (by rw [w1,qc];exact hf)) ?_)))
    rw [qC,w2])]
   exact ih
theorem qWL {s:List UInt8} (hs:s.length≤1000) (r:List UInt8) (hr:r<:+s) (b:Bool) (l:List Nd) (hl:l.length≤5000):∃n0,∀n,n0≤n→∀M,n0≤M→zC (qDG n) M (1,BR s,pos s r,b,l.length,l.map qW)=some (match qTp r 1 5 with
   |some e=> .inl (qDA s (qE9 (nd1 (4,e,em)) (r.drop ((qh e).size-1),b,l)))
   |none=> .inr (BR s,pos s r,b,l.length,l.map qW)):=by
 obtain ⟨n1,h1⟩:=qHM (F:=qBm) (f:=qh) (lo:=1) (by decide) (fun i hi=>qH9 i ⟨by omega,hi.2⟩)
 obtain ⟨n2,h2⟩:=qHM (F:=qDj) (f:=fun i=>(4,i,em)) (lo:=1) (by decide) (fun i _=>qQI i)
 obtain ⟨n4,h4⟩:=qHM (F:=fun n i=>qv n 1 0 4 i em 0 0 false false 0 0 false false [] (BR s) (pos s (r.drop ((qh i).size-1))) b l.length (l.map qW)) (f:=fun i=>qDA s (qE9 (nd1 (4,i,em)) (r.drop ((qh i).size-1),b,l))) (lo:=1) (by decide) (fun i _=>qLk (s:=s) (nd1 (4,i,em)) (r.drop ((qh i).size-1),b,l) hl ⟨by simp [kd,nd1],by simp [nd1,em];decide⟩)
 exact ⟨n1+n2+n4+7,fun n hn M hM=>qRh hs r hr b l (h1 n (by omega)) (h2 n (by omega)) (h4 n (by omega)) 5 1 M (by omega) (by omega) (by omega)⟩
theorem qWM:∃n0,∀n,n0≤n→∀i,1≤i∧i≤10→qDE n i=some (fnS i):=by
 obtain ⟨n1,h1⟩:=qA9 (F:=fun (i:Nat) n=>qDE n ((i:Int)+1)) (f:=fun i=>fnS ((i:Int)+1)) (List.range 10) (fun i hi=>qN0 _ (by have:=List.mem_range.1 hi;omega))
 refine ⟨n1,fun n hn i hi=>?_⟩
 have:=h1 n hn (i-1).toNat (List.mem_range.2 (by omega))
 rwa [show (((i-1).toNat:Nat):Int)+1=i by omega] at this
theorem qWq {i j:Int} (hi:1≤i∧i≤10) (hj:1≤j∧j≤10) (h:(fnS i).toList=(fnS j).toList):i=j:=by
 have t:∀a:Fin 10,∀b:Fin 10,(fnS (((a.val:Nat):Int)+1)).toList=(fnS (((b.val:Nat):Int)+1)).toList→a=b:=by decide+kernel
 have:=t ⟨(i-1).toNat,by omega⟩ ⟨(j-1).toNat,by omega⟩ (by
  simp only
  rw [show (((i-1).toNat:Nat):Int)+1=i by omega,show (((j-1).toNat:Nat):Int)+1=j by omega]
  exact h)
 have:=congrArg Fin.val this
 simp only at this
 omega
theorem qSs {g:G_spec_l3Rd_row} {n:Nat} {s:List UInt8} (w:List UInt8) (q:PS) (h1:∀i,1≤i∧i≤10→qDE n i=some (fnS i)):
  ∀(k:Nat) (i:Int) (M:Nat),1≤i→i+k=11→k+1≤M→(∀j,i≤j∧j≤10→(fnS j).toList≠w)→zC (qDx g n) M (BR w,i,qDc s q)=some (.inr (BR w,qDc s q))
 |k,i,0,_,_,h,_=>by omega
 |0,i,M+1,hi,hk,h,_=>qP (qO (decide_eq_false (show ¬i≤10 by omega)) rfl)
 |k+1,i,M+1,hi,hk,h,hn=>by
  have w1:IntKind.i64.wrap (i+1)=i+1:=qT (by omega)
  rw [qQ (v':=(BR w,i+1,qDc s q)) (by
   refine qD (decide_eq_true (show i≤10 by omega)) (qA (h1 i ⟨hi,by omega⟩) (qO (by rw [beq_eq_false_iff_ne];show (fnS i).toList≠(BR w).toList;rw [qAZ];exact hn i ⟨Int.le_refl _,by omega⟩) ?_))
   rw [qC,w1])]
  exact qSs w q h1 k (i+1) M (by omega) (by omega) (by omega) (fun j hj=>hn j ⟨by omega,hj.2⟩)
theorem qLz {g:G_spec_l3Rd_row} {n:Nat} {s:List UInt8} (w:List UInt8) (q:PS) (res:Int→Int×PS) (h1:∀i,1≤i∧i≤10→qDE n i=some (fnS i))
  (h2:qAJ n ⟨#[40]⟩ (BR s) (pos s q.1) q.2.1 q.2.2.length (q.2.2.map qW)=some ((sIs [40] q).1,qDc s (sIs [40] q).2)):
  ∀(k:Nat) (i:Int) (M:Nat),1≤i→i+k=11→k+1≤M→(∀op,qHO w i k=some op→(sIs [40] q).1=true→g.spec_l3Rd_call op (BR s) (pos s (sIs [40] q).2.1) (sIs [40] q).2.2.1 (sIs [40] q).2.2.2.length ((sIs [40] q).2.2.2.map qW)=some (qDA s (res op)))→
   zC (qDx g n) M (BR w,i,qDc s q)=some (match qHO w i k with
   |some op=>if (sIs [40] q).1=true then .inl (qDA s (res op)) else .inr (BR w,qDc s (sIs [40] q).2)
   |none=> .inr (BR w,qDc s q))
 |k,i,0,_,_,h,_=>by omega
 |0,i,M+1,hi,hk,h,_=>qP (qO (decide_eq_false (show ¬i≤10 by omega)) rfl)
 |k+1,i,M+1,hi,hk,h,hc=>by
  have w1:IntKind.i64.wrap (i+1)=i+1:=qT (by omega)
  unfold qHO at hc⊢
  by_cases hq:(fnS i).toList=w
  ·rw [if_pos hq] at hc⊢
   have hqb:((fnS i).toList==(BR w).toList)=true:=by rw [beq_iff_eq,qAZ];exact hq
   simp only
   cases hi2:(sIs [40] q).1 with
   |true=>
    rw [if_pos rfl]
    exact qP (qD (decide_eq_true (show i≤10 by omega)) (qA (h1 i ⟨hi,by omega⟩) (qD hqb (qA h2 (qD hi2 (qA (hc i rfl hi2) rfl))))))
   |false=>
    rw [if_neg (by simp)]
    rw [qQ (v':=(BR w,i+1,qDc s (sIs [40] q).2)) (by
     refine qD (decide_eq_true (show i≤10 by omega)) (qA (h1 i ⟨hi,by omega⟩) (qD hqb (qA h2 (qO hi2 ?_))))
     rw [qC,w1])]
    exact qSs w _ h1 k (i+1) M (by omega) (by omega) (by omega) (fun j hj e=>by
     have:=qWq (i:=i) (j:=j) ⟨hi,by omega⟩ ⟨by omega,hj.2⟩ (hq.trans e.symm)
     omega)
  ·rw [if_neg hq] at hc⊢
   rw [qQ (v':=(BR w,i+1,qDc s q)) (by
    refine qD (decide_eq_true (show i≤10 by omega)) (qA (h1 i ⟨hi,by omega⟩) (qO (by rw [beq_eq_false_iff_ne];show (fnS i).toList≠(BR w).toList;rw [qAZ];exact hq) ?_))
    rw [qC,w1])]
   exact qLz w q res h1 h2 k (i+1) M (by omega) (by omega) (by omega) hc
structure Go (k:Nat) (q q':PS):Prop where
 suf:q'.1<:+q.1
 sum:q'.2.2.length+q'.1.length+k≤q.2.2.length+q.1.length
 sm:(∀x∈q.2.2,qQM x)→∀x∈q'.2.2,qQM x
theorem Go.refl (q:PS):Go 0 q q:=⟨List.suffix_rfl,Nat.le_refl _,id⟩
theorem Go.trans {a b:Nat} {p q r:PS} (h:Go a p q) (h':Go b q r):Go (a+b) p r:=⟨h'.suf.trans h.suf,by have:=h.sum;have:=h'.sum;omega,fun e=>h'.sm (h.sm e)⟩
theorem Go.tr0 {p q r:PS} (h:Go 0 p q) (h':Go 0 q r):Go 0 p r:=h.trans h'
theorem Go.add {p q:PS} {x:Nd} (h:Go 1 p q) (hx:qQM x):Go 0 p (qE9 x q).2:=by
 refine ⟨h.suf,?_,fun e y hy=>?_⟩
 ·have:=h.sum
  simp only [qE9,List.length_append,List.length_singleton]
  omega
 ·simp only [qE9,List.mem_append,List.mem_singleton] at hy
  rcases hy with hy|rfl
  ·exact h.sm e y hy
  ·exact hx
theorem Go.weak {k:Nat} {p q:PS} (h:Go k p q):Go 0 p q:=⟨h.suf,by have:=h.sum;omega,h.sm⟩
theorem Go.of (q:PS) {r:List UInt8} (b:Bool) {k:Nat} (h:r<:+q.1) (hk:r.length+k≤q.1.length):Go k q (r,b,q.2.2):=⟨h,by simp only;omega,id⟩
theorem qN9 (q:PS):Go 0 q (tb q.1,q.2):=⟨List.dropWhile_suffix _,by have:=qAE q.1;simp only;omega,id⟩
theorem qSt (q:PS):Go 0 q (wr (tb q.1),q.2):=⟨(List.dropWhile_suffix _).trans (List.dropWhile_suffix _),by have:=qAE q.1;have:=qID (tb q.1);simp only;omega,id⟩
theorem qVl (q:PS) (h:wd (tb q.1)≠ []):Go 1 q (wr (tb q.1),q.2):=⟨(List.dropWhile_suffix _).trans (List.dropWhile_suffix _),by
 have:=qAE q.1
 have e:=congrArg List.length (wdr (tb q.1))
 have:=List.length_pos_iff.2 h
 simp only [List.length_append] at e
 simp only;omega,id⟩
theorem qMj {w:List UInt8} {q:PS} (h:(sIs w q).1=true):w<+:tb q.1∧(sIs w q).2=((tb q.1).drop w.length,q.2)∧q.2.1=false:=by
 unfold sIs at h⊢
 split at h
 ·cases h
 ·rename_i hb
  rw [if_neg hb]
  split at h
  ·rename_i hp
   rw [if_pos hp]
   exact ⟨List.isPrefixOf_iff_prefix.1 hp,rfl,by rw [Bool.eq_false_iff];exact hb⟩
  ·cases h
theorem qSu {w:List UInt8} {q:PS} (h:(sIs w q).1=false):(sIs w q).2=(tb q.1,q.2):=by
 unfold sIs at h⊢
 split at h
 ·rename_i hb;rw [if_pos hb]
 ·rename_i hb
  rw [if_neg hb]
  split at h
  ·cases h
  ·rename_i hp;rw [if_neg hp]
theorem qLl (w:List UInt8) (q:PS):Go 0 q (sIs w q).2:=by
 cases h:(sIs w q).1 with
 |true=>
  obtain ⟨_,h2,_⟩:=qMj h
  rw [h2]
  exact Go.tr0 (qN9 q) ⟨List.drop_suffix _ _,by simp,id⟩
 |false=>rw [qSu h];exact qN9 q
theorem qFz {w:List UInt8} (hw:w≠ []) {q:PS} (h:(sIs w q).1=true):Go 1 q (sIs w q).2:=by
 obtain ⟨h1,h2,_⟩:=qMj h
 rw [h2]
 have l1:=h1.length_le
 have l2:=List.length_pos_iff.2 hw
 have:=qAE q.1
 exact ⟨(List.drop_suffix _ _).trans (List.dropWhile_suffix _),by simp;omega,id⟩
theorem qRi {k:Nat} {p q:PS} (h:Go k p q):Go k p (qNJ q):=⟨h.suf,h.sum,h.sm⟩
theorem qVm:∀(t r:List UInt8),(tb r).length≤(tb (t++r)).length
 | [],r=>Nat.le_refl _
 |c::t,r=>by
  have ih:=qVm t r
  have:=qAE (t++r)
  by_cases hc:c=32
  ·rw [show tb (c::t++r)=tb (t++r) by simp [tb,hc]];exact ih
  ·rw [show tb (c::t++r)=c::(t++r) by simp [tb,hc]]
   simp only [List.length_cons];omega
theorem Go.tb {k:Nat} {p q:PS} (h:Go k p q):(tb q.1).length≤(tb p.1).length:=by
 obtain ⟨t,ht⟩:=h.suf
 rw [←ht];exact qVm t q.1
theorem qUs {w:List UInt8} (hw:w≠ []) {q:PS} (h:(sIs w q).1=true):(tb (sIs w q).2.1).length<(tb q.1).length:=by
 obtain ⟨h1,h2,_⟩:=qMj h
 rw [h2]
 exact qTP hw h1
theorem qUt (level:Int) (r:List UInt8):∀l:List Int,qEo level r l≠0→qEo level r l∈l∧(qAY (qEo level r l)).toList<+:r
 | [],h=>absurd rfl h
 |o::l,h=>by
  unfold qEo at h⊢
  split at h
  ·rename_i hc
   rw [if_pos hc]
   exact ⟨List.mem_cons_self ..,List.isPrefixOf_iff_prefix.1 hc.2⟩
  ·rename_i hc
   rw [if_neg hc]
   have:=qUt level r l h
   exact ⟨List.mem_cons_of_mem _ this.1,this.2⟩
theorem qWZ (level:Int) (q:PS):Go 0 q (sOp level q).2∧((sOp level q).1≠0→Go 1 q (sOp level q).2∧(tb (sOp level q).2.1).length<(tb q.1).length):=by
 unfold sOp
 split
 ·exact ⟨qN9 q,fun h=>absurd rfl h⟩
 ·simp only
  by_cases h:qEo level (tb q.1) qCn=0
  ·rw [if_pos h]
   exact ⟨qN9 q,fun e=>absurd h e⟩
  ·rw [if_neg h]
   obtain ⟨h1,h2⟩:=qUt level (tb q.1) qCn h
   have ne:=(qTR _ h1).1
   have l1:=h2.length_le
   have l2:=List.length_pos_iff.2 ne
   rw [qAa] at l1 l2
   have l3:=qAE q.1
   have g:Go 1 q ((tb q.1).drop (qAY (qEo level (tb q.1) qCn)).size,q.2):=⟨(List.drop_suffix _ _).trans (List.dropWhile_suffix _),by simp;omega,id⟩
   have t:=qTP ne h2
   rw [qAa] at t
   exact ⟨g.weak,fun _=>⟨g,t⟩⟩
theorem qPH:∀(k:Nat) (acc r:List UInt8) {w t:List UInt8},r.length≤k→qCh acc r=some (w,t)→t<:+r
 |k,acc,[],w,t,hk,h=>by simp [qCh] at h
 |0,acc,c::r,w,t,hk,h=>by simp at hk
 |k+1,acc,c::r,w,t,hk,h=>by
  simp only [List.length_cons] at hk
  by_cases hc:c=34
  ·subst hc
   by_cases hq:r.head?=some 34
   ·obtain ⟨u,rfl⟩:=qLx hq
    rw [qWg] at h
    simp only [List.length_cons] at hk
    have:=qPH k _ u (by omega) h
    exact this.trans ((List.suffix_cons 34 u).trans (List.suffix_cons 34 _))
   ·rw [qWh acc r hq] at h
    cases h
    exact List.suffix_cons 34 _
  ·rw [qWi acc r hc] at h
   exact (qPH k _ r (by omega) h).trans (List.suffix_cons c _)
def Ks:SJ→PS→Prop
 | .call _ kids,q=>q.2.1=true∨kids.length+q.1.length≤1500
 |_,_=>True
theorem qKA {k op:Int} {kids:List Int} (h:kids.length≤2000):qQM (ndK k op kids):=⟨h,by simp [ndK,em];decide⟩
theorem qCJ {k:Nat} {p q:PS} (h:Go k p q):q.1.length≤p.1.length:=h.suf.length_le
theorem qF5 (H:RdOK):∀(f:Nat) (j:SJ) (q:PS),q.1.length≤1000→Ks j q→Go 0 q (sP f j q).2
 |0,j,q,_,_=>Go.refl q
 |f+1,.row level,q,hr,_=>by
  unfold sP
  split
  ·exact Go.refl q
  ·split
   ·exact qF5 H f .one q hr trivial
   ·have a:=qF5 H f (.row (level+1)) q hr trivial
    exact a.tr0 (qF5 H f (.rl level _) _ (Nat.le_trans (qCJ a) hr) trivial)
 |f+1,.rl level a,q,hr,_=>by
  unfold sP
  split
  ·exact Go.refl q
  ·simp only
   have o:=qWZ level q
   split
   ·exact o.1
   ·rename_i h0
    have o1:=(o.2 h0).1
    have b:=qF5 H f (.row (level+1)) (sOp level q).2 (Nat.le_trans (qCJ o1) hr) trivial
    have c:=Go.add (x:=ndK 5 (sOp level q).1 [a,(sP f (.row (level+1)) (sOp level q).2).1]) (o1.trans b) (qKA (by simp))
    exact c.tr0 (qF5 H f (.rl level _) _ (Nat.le_trans (qCJ c) hr) trivial)
 |f+1,.one,q,hr,_=>by
  unfold sP
  split
  ·rename_i h
   have a:=qFz (by simp) h
   have b:=qF5 H f (.row 5) (sIs [45] q).2 (Nat.le_trans (qCJ a) hr) trivial
   exact Go.add (a.trans b) (qKA (by simp))
  ·have a:=qLl [45] q
   split
   ·rename_i h
    have c:=a.tr0 (qFz (by simp) h).weak
    have b:=qF5 H f (.row 1) (sIs [40] (sIs [45] q).2).2 (Nat.le_trans (qCJ c) hr) trivial
    have d:=(c.tr0 b).tr0 (qLl [41] _)
    simp only
    split
    ·exact d
    ·exact qRi d
   ·simp only
    have t:=qN9 q
    split
    ·rename_i h
     have c:=qFz (by simp) h
     obtain ⟨_,e,_⟩:=qMj h
     split
     ·exact ⟨List.nil_suffix,by simp,id⟩
     ·rename_i w u hq
      have d:=qPH _ _ _ (Nat.le_refl _) hq
      have d2:=d.length_le
      have dz:=qIF _ _ _ (Nat.le_refl _) hq
      have g:=t.trans c
      have l:=qCJ g
      have sg:=g.sum
      have eq:(sIs [34] (tb q.1,q.2)).2.2=q.2:=by rw [e]
      rw [eq] at sg
      simp only [List.length_nil] at dz
      exact Go.add (q:=(u,q.2)) ⟨d.trans g.suf,by simp only;omega,id⟩ ⟨by simp [kd,nd1],by simp only [nd1,qc];omega⟩
    ·split
     ·rename_i h
      have c:=qFz (by simp) h
      obtain ⟨_,e,_⟩:=qMj h
      have g:=t.trans c
      have l:=qCJ g
      have sg:=g.sum
      have eq:(sIs [35] (tb q.1,q.2)).2.2=q.2:=by rw [e]
      rw [eq] at sg
      split
      ·exact Go.add (q:=(_,q.2)) ⟨(List.drop_suffix _ _).trans g.suf,by simp;omega,id⟩ ⟨by simp [kd,nd1],by simp [nd1,em];decide⟩
      ·exact ⟨g.suf,by simp only;omega,id⟩
     ·have w:=qSt q
      split
      ·split
       ·have c:=w.tr0 (qLl [40] _)
        exact c.tr0 (qF5 H f (.call _ []) _ (Nat.le_trans (qCJ c) hr) (.inr (by have:=qCJ c;simp only [List.length_nil];omega)))
       ·exact qRi (w.tr0 (qLl [40] _))
      ·split
       ·rename_i hv
        exact Go.add (qVl q hv.2) ⟨by simp [kd,nd1],qLj hv.1 (H.v _ (qUM _) hv.2 hv.1)⟩
       ·split
        ·rename_i hp
         exact Go.add (qVl q (fun e=>by rw [e,H.p0] at hp;cases hp)) ⟨by simp [kd,ndC],by simp [ndC,em];decide⟩
        ·exact qRi w
 |f+1,.call op kids,q,hr,hk=>by
  unfold sP
  split
  ·exact Go.refl q
  ·rename_i hb
   have hk:kids.length+q.1.length≤1500:=hk.elim (fun h=>absurd h hb) id
   have a:=qF5 H f .arg q hr trivial
   simp only
   split
   ·rename_i h
    exact Go.add (a.trans (qFz (by simp) h)) (qKA (by simp;omega))
   ·have c:=a.tr0 (qLl [41] _)
    split
    ·rename_i h
     have d:=c.trans (qFz (by simp) h)
     obtain ⟨e1,e2,_⟩:=qMj h
     have l:=e1.length_le
     have l2:=qCJ c
     have l3:=qAE (sIs [41] (sP f .arg q).2).2.1
     simp only [List.length_cons,List.length_nil] at l
     exact d.weak.tr0 (qF5 H f (.call op _) _ (Nat.le_trans (qCJ d) hr) (.inr (by rw [e2];simp;omega)))
    ·have d:=qRi (c.tr0 (qLl [44] _))
     exact d.tr0 (qF5 H f (.call op _) _ (Nat.le_trans (qCJ d) hr) (.inl rfl))
 |f+1,.arg,q,hr,_=>by
  unfold sP
  simp only
  have w:=qSt q
  split
  ·rename_i h
   have c:=w.trans (qFz (by simp) h.2)
   have d:=c.trans (qSt _)
   split
   ·exact Go.add d ⟨by simp [kd,ndA],by simp [ndA,em];decide⟩
   ·exact ⟨d.suf,by have:=d.sum;simp only at this⊢;omega,d.sm⟩
  ·have t:=qN9 q
   exact t.tr0 (qF5 H f (.row 1) _ (Nat.le_trans (qCJ t) hr) trivial)
def As (f:Nat):SJ→PS→Prop
 | .row level,q=>((20*(tb q.1).length+10:Nat):Int)-level≤f∧1≤level∧level≤5
 | .rl level _,q=>20*(tb q.1).length+5≤f∧1≤level∧level≤4
 | .one,q=>20*(tb q.1).length+4≤f∧q.2.1=false
 | .call _ _,q=>(q.2.1=true∧1≤f)∨20*(tb q.1).length+12≤f
 | .arg,q=>20*(tb q.1).length+10≤f
def Iv (s:List UInt8) (q:PS):Prop:=q.1<:+s∧q.2.2.length+q.1.length≤2000
theorem Iv.go {s:List UInt8} {k:Nat} {q q':PS} (h:Iv s q) (g:Go k q q'):Iv s q':=⟨g.suf.trans h.1,by have:=g.sum;have:=h.2;omega⟩
def Ws (s:List UInt8):SJ→PS→Int×PS→Prop
 | .row level,q,r=>Ev (qFD · level (BR s) (pos s q.1) q.2.1 q.2.2.length (q.2.2.map qW)) (qDA s r)
 | .rl level a,q,r=>∃x,(x= .inl (qDA s r)∨x= .inr (qDA s r))∧∃n0,∀n,n0≤n→∀M,n0≤M→zC (qFF (qe n) n) M (level,a,qDc s q)=some x
 | .one,q,r=>Ev (qKJ · (BR s) (pos s q.1) q.2.1 q.2.2.length (q.2.2.map qW)) (qDA s r)
 | .call op kids,q,r=>∃x,(x= .inl (qDA s r)∨(x= .inr (qDc s r.2)∧r.1=0))∧∃n0,∀n,n0≤n→∀M,n0≤M→zC (qEt (qe n) n) M (op,kids.length,kids.map qA8,qDc s q)=some x
 | .arg,q,r=>Ev (qKK · (BR s) (pos s q.1) q.2.1 q.2.2.length (q.2.2.map qW)) (qDA s r)
theorem srp (r:List UInt8) (h:r.length≤1000):Ev (qAy · (BR (wd r))) (qBG (BR (wd r))):=qNx _ (by rw [qc];have:=qTO r;omega)
theorem srv (r:List UInt8) (h:r.length≤1000):Ev (qAR · (BR (wd r))) (qj (BR (wd r))):=qIY _ (by rw [qc];have:=qTO r;omega)
theorem qXK {r:List UInt8} (h:wd r≠ []):(tb (wr r)).length<r.length:=by
 have e:=congrArg List.length (wdr r)
 have:=List.length_pos_iff.2 h
 have:=qAE (wr r)
 simp only [List.length_append] at e
 omega
def qTS (n:Nat) (w:ByteArray) (c:ByteArray×Int×Bool×Nat×List (List PV)):Tr (Int×ByteArray×Int×Bool×Nat×List (List PV)):=
 (.opt (qAy n w) fun r=>(.ask (!r.2.2.2.2) (.done (0,c.1,c.2.1,true,c.2.2.2.1,c.2.2.2.2))
  (.opt (qv n 2 0 0 0 ⟨#[]⟩ r.1 r.2.1 r.2.2.1 r.2.2.2.1 0 0 false false [] c.1 c.2.1 c.2.2.1 c.2.2.2.1 c.2.2.2.2) fun t=> .done (t.1,t.2.1,t.2.2.1,t.2.2.2.1,t.2.2.2.2.1,t.2.2.2.2.2))))
def qWr (n:Nat) (w:ByteArray) (c:ByteArray×Int×Bool×Nat×List (List PV)):Tr (Int×ByteArray×Int×Bool×Nat×List (List PV)):=
 (.opt (qAR n w) fun r=>(.ask r.2.2.2
  (.ask (!(w.toList==(⟨#[]⟩:ByteArray).toList))
   (.opt (qv n 1 0 r.1 r.2.1 r.2.2.1 0 0 false false 0 0 false false [] c.1 c.2.1 c.2.2.1 c.2.2.2.1 c.2.2.2.2) fun t=> .done (t.1,t.2.1,t.2.2.1,t.2.2.2.1,t.2.2.2.2.1,t.2.2.2.2.2))
   (qTS n w c))
  (qTS n w c)))
def qRj (w:List UInt8) (q3:PS):Int×PS:=
 if (qj (BR w)).2.2.2=true∧w≠ [] then qE9 (nd1 ((qj (BR w)).1,(qj (BR w)).2.1,(qj (BR w)).2.2.1)) q3
 else if (qBG (BR w)).2.2.2.2=true then qE9 (ndC (qBG (BR w))) q3
 else (0,qNJ q3)
theorem qSv (H:RdOK) {s:List UInt8} (r:List UInt8) (q:PS) (hr:r.length≤1000) (hn:q.2.2.length≤5000):∃n0,∀n,n0≤n→(qWr n (BR (wd r)) (qDc s q)).run=some (qDA s (qRj (wd r) q)):=by
 obtain ⟨n1,h1⟩:=srv r hr
 obtain ⟨n2,h2⟩:=srp r hr
 obtain ⟨n4,h4⟩:=qLk (s:=s) (ndC (qBG (BR (wd r)))) q hn ⟨by simp [kd,ndC],by simp [ndC,em];decide⟩
 have place:∃n0,∀n,n0≤n→(qTS n (BR (wd r)) (qDc s q)).run=some (qDA s (if (qBG (BR (wd r))).2.2.2.2=true then qE9 (ndC (qBG (BR (wd r)))) q else (0,qNJ q))):=by
  refine ⟨n2+n4,fun n hn=>?_⟩
  cases hp:(qBG (BR (wd r))).2.2.2.2 with
  |true=>rw [if_pos rfl];exact qA (h2 n (by omega)) (qO (qA6 hp) (qA (h4 n (by omega)) rfl))
  |false=>rw [if_neg (by simp)];exact qA (h2 n (by omega)) (qD (qDS hp) rfl)
 obtain ⟨n5,h5⟩:=place
 by_cases hv:(qj (BR (wd r))).2.2.2=true∧wd r≠ []
 ·obtain ⟨n3,h3⟩:=qLk (s:=s) (nd1 ((qj (BR (wd r))).1,(qj (BR (wd r))).2.1,(qj (BR (wd r))).2.2.1)) q hn ⟨by simp [kd,nd1],qLj hv.1 (H.v _ (qUM _) hv.2 hv.1)⟩
  refine ⟨n1+n3,fun n hn=>?_⟩
  unfold qRj
  rw [if_pos hv]
  exact qA (h1 n (by omega)) (qD hv.1 (qD (qDS (by rw [beq_eq_false_iff_ne,qAZ,qAP];exact hv.2)) (qA (h3 n (by omega)) rfl)))
 ·refine ⟨n1+n5,fun n hn=>?_⟩
  unfold qRj
  rw [if_neg hv]
  refine qA (h1 n (by omega)) ?_
  by_cases ho:(qj (BR (wd r))).2.2.2=true
  ·have e:wd r= []:=Classical.byContradiction fun e=>hv ⟨ho,e⟩
   exact qD ho (qO (qA6 (by rw [beq_iff_eq,qAZ,qAP];exact e)) (h5 n (by omega)))
  ·exact qO (by rw [Bool.eq_false_iff];exact ho) (h5 n (by omega))
theorem qGK (H:RdOK) {s:List UInt8} (hs:s.length≤1000):∀(f:Nat) (j:SJ) (q:PS),As f j q→Iv s q→Ks j q→Ws s j q (sP f j q)
 |0,j,q,ha,_,_=>by cases j<;>simp [As] at ha<;>omega
 |f+1,.row level,q,ha,hi,_=>by
  obtain ⟨ha,hl1,hl5⟩:=ha
  have hr:q.1.length≤1000:=Nat.le_trans (qD8 hi.1) hs
  unfold sP
  by_cases hb:q.2.1=true
  ·rw [if_pos hb]
   refine ⟨1,fun n hn=>?_⟩
   obtain ⟨k,rfl,hm⟩:=up1 hn
   exact qD hb rfl
  ·have hb:q.2.1=false:=by rw [Bool.eq_false_iff];exact hb
   rw [if_neg (by rw [hb];simp)]
   by_cases h5:level=5
   ·rw [if_pos h5]
    obtain ⟨n1,h1⟩:=qGK H hs f .one q ⟨by omega,hb⟩ hi trivial
    refine ⟨n1+1,fun n hn=>?_⟩
    obtain ⟨k,rfl,hm⟩:=up1 hn
    exact qO hb (qD (beq_iff_eq.2 h5) (qA (h1 k (by omega)) rfl))
   ·rw [if_neg h5]
    have g:=qF5 H f (.row (level+1)) q hr trivial
    have gl:=g.tb
    obtain ⟨n1,h1⟩:=qGK H hs f (.row (level+1)) q ⟨by omega,by omega,by omega⟩ hi trivial
    generalize sP f (.row (level+1)) q=Q at g gl h1⊢
    obtain ⟨x,hx,n2,h2⟩:=qGK H hs f (.rl level Q.1) Q.2 ⟨by omega,by omega,by omega⟩ (hi.go g) trivial
    refine ⟨n1+n2+1,fun n hn=>?_⟩
    obtain ⟨k,rfl,hm⟩:=up1 hn
    have w1:IntKind.i64.wrap (level+1)=level+1:=qT (by omega)
    have h1:=h1 k (by omega)
    rw [←w1] at h1
    have h2:=h2 k (by omega) k (by omega)
    rcases hx with rfl|rfl
    ·exact qO hb (qO (beq_eq_false_iff_ne.2 h5) (qA h1 (qA h2 rfl)))
    ·exact qO hb (qO (beq_eq_false_iff_ne.2 h5) (qA h1 (qA h2 rfl)))
 |f+1,.rl level a,q,ha,hi,_=>by
  obtain ⟨ha,hl1,hl4⟩:=ha
  have hr:q.1.length≤1000:=Nat.le_trans (qD8 hi.1) hs
  unfold sP
  by_cases hb:q.2.1=true
  ·rw [if_pos hb]
   refine ⟨.inr (qDA s (a,q)),.inr rfl,1,fun n hn M hM=>?_⟩
   obtain ⟨M,rfl,hM⟩:=up1 hM
   exact qP (qO (qA6 hb) rfl)
  ·have hb:q.2.1=false:=by rw [Bool.eq_false_iff];exact hb
   rw [if_neg (by rw [hb];simp)]
   simp only
   obtain ⟨n1,h1⟩:=qWp hs (level:=level) ⟨hl1,hl4⟩ q hb hi.1
   have o:=qWZ level q
   generalize sOp level q=O at h1 o⊢
   by_cases h0:O.1=0
   ·rw [if_pos h0]
    refine ⟨.inl (qDA s (a,O.2)),.inl rfl,n1+1,fun n hn M hM=>?_⟩
    obtain ⟨M,rfl,hM⟩:=up1 hM
    exact qP (qD (qDS hb) (qA (h1 n (by omega)) (qD (beq_iff_eq.2 h0) rfl)))
   ·rw [if_neg h0]
    obtain ⟨o1,o2⟩:=o.2 h0
    have b:=qF5 H f (.row (level+1)) O.2 (Nat.le_trans (qCJ o1) hr) trivial
    obtain ⟨n2,h2⟩:=qGK H hs f (.row (level+1)) O.2 ⟨by omega,by omega,by omega⟩ (hi.go o1) trivial
    have ib:=(hi.go o1).go b
    have tbb:=b.tb
    have c:=Go.add (x:=ndK 5 O.1 [a,(sP f (.row (level+1)) O.2).1]) (o1.trans b) (qKA (by simp))
    generalize sP f (.row (level+1)) O.2=Q at h2 b ib tbb c⊢
    obtain ⟨n3,h3⟩:=qLk (s:=s) (ndK 5 O.1 [a,Q.1]) Q.2 (by have:=ib.2;omega) (qKA (by simp))
    have rest:(qE9 (ndK 5 O.1 [a,Q.1]) Q.2).2.1=Q.2.1:=rfl
    generalize qE9 (ndK 5 O.1 [a,Q.1]) Q.2=C at h3 c rest⊢
    obtain ⟨x,hx,n4,h4⟩:=qGK H hs f (.rl level C.1) C.2 ⟨by rw [rest];omega,hl1,hl4⟩ (hi.go c) trivial
    refine ⟨x,hx,n1+n2+n3+n4+1,fun n hn M hM=>?_⟩
    obtain ⟨M,rfl,hM⟩:=up1 hM
    have w1:IntKind.i64.wrap (level+1)=level+1:=qT (by omega)
    have h2:=h2 n (by omega)
    rw [←w1] at h2
    rw [qQ (v':=(level,C.1,qDc s C.2)) (by
     exact qD (qDS hb) (qA (h1 n (by omega)) (qO (beq_eq_false_iff_ne.2 h0) (qA h2 (qD rfl (qA (h3 n (by omega)) rfl))))))]
    exact h4 n (by omega) M (by omega)
 |f+1,.one,q,ha,hi,_=>by
  obtain ⟨ha,hb⟩:=ha
  have hr:q.1.length≤1000:=Nat.le_trans (qD8 hi.1) hs
  unfold sP
  obtain ⟨n1,h1⟩:=qIG hs [45] (by simp) q hi.1
  cases c1:(sIs [45] q).1 with
  |true=>
   rw [if_pos rfl]
   have a:=qFz (by simp) c1
   have al:=qUs (by simp) c1
   have b:=qF5 H f (.row 5) (sIs [45] q).2 (Nat.le_trans (qCJ a) hr) trivial
   obtain ⟨n2,h2⟩:=qGK H hs f (.row 5) (sIs [45] q).2 ⟨by omega,by omega,by omega⟩ (hi.go a) trivial
   have ib:=(hi.go a).go b
   simp only
   generalize sP f (.row 5) (sIs [45] q).2=Q at h2 ib⊢
   obtain ⟨n3,h3⟩:=qLk (s:=s) (ndK 4 0 [Q.1]) Q.2 (by have:=ib.2;omega) (qKA (by simp))
   refine ⟨n1+n2+n3+1,fun n hn=>?_⟩
   obtain ⟨k,rfl,hm⟩:=up1 hn
   exact qA (h1 k (by omega)) (qD c1 (qA (h2 k (by omega)) (qD rfl (qA (h3 k (by omega)) rfl))))
  |false=>
   rw [if_neg (by simp)]
   have a:=qLl [45] q
   obtain ⟨n2,h2⟩:=qIG hs [40] (by simp) (sIs [45] q).2 (hi.go a).1
   cases c2:(sIs [40] (sIs [45] q).2).1 with
   |true=>
    rw [if_pos rfl]
    have b:=qFz (by simp) c2
    have al:=qUs (by simp) c2
    have atb:=a.tb
    have g1:=a.trans b
    have b2:=qF5 H f (.row 1) (sIs [40] (sIs [45] q).2).2 (Nat.le_trans (qCJ g1) hr) trivial
    obtain ⟨n3,h3⟩:=qGK H hs f (.row 1) (sIs [40] (sIs [45] q).2).2 ⟨by omega,by omega,by omega⟩ (hi.go g1) trivial
    have ib:=(hi.go g1).go b2
    simp only
    generalize sP f (.row 1) (sIs [40] (sIs [45] q).2).2=Q at h3 ib⊢
    obtain ⟨n4,h4⟩:=qIG hs [41] (by simp) Q.2 ib.1
    refine ⟨n1+n2+n3+n4+1,fun n hn=>?_⟩
    obtain ⟨k,rfl,hm⟩:=up1 hn
    refine qA (h1 k (by omega)) (qO c1 (qA (h2 k (by omega)) (qD c2 (qA (h3 k (by omega)) (qA (h4 k (by omega)) ?_)))))
    cases c3:(sIs [41] Q.2).1 with
    |true=>rw [if_pos rfl];exact qO rfl rfl
    |false=>rw [if_neg (by simp)];exact qD rfl rfl
   |false=>
    rw [if_neg (by simp)]
    have e2:(sIs [40] (sIs [45] q).2).2=(tb q.1,q.2):=by
     rw [qSu c2,qSu c1];simp only [qC9]
    rw [e2] at h2
    have t:=qN9 q
    have it:=hi.go t
    obtain ⟨n3,h3⟩:=qIG hs [34] (by simp) (tb q.1,q.2) it.1
    simp only
    cases c3:(sIs [34] (tb q.1,q.2)).1 with
    |true=>
     rw [if_pos rfl]
     have b:=qFz (by simp) c3
     have ib:=it.go b
     have eq2:(sIs [34] (tb q.1,q.2)).2.2=q.2:=by obtain ⟨_,e,_⟩:=qMj c3;rw [e]
     obtain ⟨n4,h4⟩:=qVj hs (sIs [34] (tb q.1,q.2)).2 ib.1 (by have:=ib.2;omega)
     refine ⟨n1+n2+n3+n4+1,fun n hn=>?_⟩
     obtain ⟨k,rfl,hm⟩:=up1 hn
     refine qA (h1 k (by omega)) (qO c1 (qA (h2 k (by omega)) (qO c2 (qA (h3 k (by omega)) (qD c3 (qA (h4 k (by omega)) ?_))))))
     rw [qC,eq2]
     all_goals (cases qCh [] (sIs [34] (tb q.1,q.2)).2.1<;>rfl)
    |false=>
     rw [if_neg (by simp)]
     have e3:(sIs [34] (tb q.1,q.2)).2=(tb q.1,q.2):=by rw [qSu c3];simp only [qC9]
     rw [e3] at h3
     obtain ⟨n4,h4⟩:=qIG hs [35] (by simp) (tb q.1,q.2) it.1
     cases c4:(sIs [35] (tb q.1,q.2)).1 with
     |true=>
      rw [if_pos rfl]
      have b:=qFz (by simp) c4
      have ib:=it.go b
      have eq2:(sIs [35] (tb q.1,q.2)).2.2=q.2:=by obtain ⟨_,e,_⟩:=qMj c4;rw [e]
      obtain ⟨n5,h5⟩:=qWL hs (sIs [35] (tb q.1,q.2)).2.1 ib.1 q.2.1 q.2.2 (by have:=hi.2;omega)
      have h4:=fun k hk=>h4 k hk
      refine ⟨n1+n2+n3+n4+n5+1,fun n hn=>?_⟩
      obtain ⟨k,rfl,hm⟩:=up1 hn
      have h4:=h4 k (by omega)
      have h5:=h5 k (by omega) k (by omega)
      have e4:qDc s (sIs [35] (tb q.1,q.2)).2=(BR s,pos s (sIs [35] (tb q.1,q.2)).2.1,q.2.1,q.2.2.length,q.2.2.map qW):=by unfold qDc;rw [eq2]
      rw [e4] at h4
      refine qA (h1 k (by omega)) (qO c1 (qA (h2 k (by omega)) (qO c2 (qA (h3 k (by omega)) (qO c3 (qA h4 (qD c4 (qA h5 ?_))))))))
      cases qTp (sIs [35] (tb q.1,q.2)).2.1 1 5<;>rfl
     |false=>
      rw [if_neg (by simp)]
      have e4:(sIs [35] (tb q.1,q.2)).2=(tb q.1,q.2):=by rw [qSu c4];simp only [qC9]
      rw [e4] at h4
      obtain ⟨n5,h5⟩:=qRg hs (tb q.1,q.2) it.1
      have w:=qSt q
      have iw:=hi.go w
      have htl:=qAE q.1
      obtain ⟨n6,h6⟩:=qIG hs [40] (by simp) (wr (tb q.1),q.2) iw.1
      obtain ⟨n7,h7⟩:=qWM
      obtain ⟨n9,h9⟩:=qSv H (s:=s) (tb q.1) (wr (tb q.1),q.2) (by omega) (by have:=hi.2;simp only;omega)
      have gi:=qLl [40] (wr (tb q.1),q.2)
      cases hf:qHO (wd (tb q.1)) 1 10 with
      |none=>
       simp only
       refine ⟨n1+n2+n3+n4+n5+n6+n7+n9+12+1,fun n hn=>?_⟩
       obtain ⟨k,rfl,hm⟩:=up1 hn
       have lp:=qLz (g:=qe k) (s:=s) (wd (tb q.1)) (wr (tb q.1),q.2) (fun _=>(0,q)) (h7 k (by omega)) (h6 k (by omega)) 10 1 k (by omega) (by omega) (by omega) (fun op h=>by rw [hf] at h;cases h)
       rw [hf] at lp
       exact qA (h1 k (by omega)) (qO c1 (qA (h2 k (by omega)) (qO c2 (qA (h3 k (by omega)) (qO c3 (qA (h4 k (by omega)) (qO c4 (qA (h5 k (by omega)) (qA lp (h9 k (by omega)))))))))))
      |some op=>
       have wne:wd (tb q.1)≠ []:=fun e=>by rw [e,H.f0] at hf;cases hf
       have wlt:=qXK wne
       simp only
       cases c5:(sIs [40] (wr (tb q.1),q.2)).1 with
       |true=>
        rw [if_pos rfl]
        have il:=qUs (by simp) c5
        simp only at il
        obtain ⟨x,hx,n8,h8⟩:=qGK H hs f (.call op []) (sIs [40] (wr (tb q.1),q.2)).2 (.inr (by omega)) (iw.go gi) (.inr (by have:=qCJ (w.tr0 gi);simp only [List.length_nil];omega))
        have hcall:Ev (qJK · op (BR s) (pos s (sIs [40] (wr (tb q.1),q.2)).2.1) (sIs [40] (wr (tb q.1),q.2)).2.2.1 (sIs [40] (wr (tb q.1),q.2)).2.2.2.length ((sIs [40] (wr (tb q.1),q.2)).2.2.2.map qW)) (qDA s (sP f (.call op []) (sIs [40] (wr (tb q.1),q.2)).2)):=by
         refine ⟨n8+1,fun n hn=>?_⟩
         obtain ⟨k,rfl,hm⟩:=up1 hn
         have h8:=h8 k (by omega) k (by omega)
         rcases hx with rfl|⟨rfl,hz⟩
         ·exact qA h8 rfl
         ·refine qA h8 ?_
          show some ((0:Int),qDc s _)=some (_,qDc s _)
          rw [hz]
        obtain ⟨n10,h10⟩:=hcall
        refine ⟨n1+n2+n3+n4+n5+n6+n7+n10+12+1,fun n hn=>?_⟩
        obtain ⟨k,rfl,hm⟩:=up1 hn
        have lp:=qLz (g:=qe k) (s:=s) (wd (tb q.1)) (wr (tb q.1),q.2) (fun op=>sP f (.call op []) (sIs [40] (wr (tb q.1),q.2)).2) (h7 k (by omega)) (h6 k (by omega)) 10 1 k (by omega) (by omega) (by omega) (fun op' h _=>by rw [hf] at h;cases h;exact h10 k (by omega))
        rw [hf] at lp
        simp only at lp
        rw [if_pos c5] at lp
        exact qA (h1 k (by omega)) (qO c1 (qA (h2 k (by omega)) (qO c2 (qA (h3 k (by omega)) (qO c3 (qA (h4 k (by omega)) (qO c4 (qA (h5 k (by omega)) (qA lp rfl)))))))))
       |false=>
        rw [if_neg (by simp)]
        obtain ⟨v1,v2⟩:=H.f _ _ hf
        obtain ⟨n9,h9⟩:=qSv H (s:=s) (tb q.1) (sIs [40] (wr (tb q.1),q.2)).2 (by omega) (by have:=(iw.go gi).2;omega)
        have er:qRj (wd (tb q.1)) (sIs [40] (wr (tb q.1),q.2)).2=(0,qNJ (sIs [40] (wr (tb q.1),q.2)).2):=by
         unfold qRj
         rw [if_neg (fun h=>by rw [v1] at h;cases h.1),if_neg (by rw [v2];simp)]
        rw [er] at h9
        refine ⟨n1+n2+n3+n4+n5+n6+n7+n9+12+1,fun n hn=>?_⟩
        obtain ⟨k,rfl,hm⟩:=up1 hn
        have lp:=qLz (g:=qe k) (s:=s) (wd (tb q.1)) (wr (tb q.1),q.2) (fun _=>(0,q)) (h7 k (by omega)) (h6 k (by omega)) 10 1 k (by omega) (by omega) (by omega) (fun op' h h'=>by rw [c5] at h';cases h')
        rw [hf] at lp
        simp only at lp
        rw [if_neg (by rw [c5];simp)] at lp
        exact qA (h1 k (by omega)) (qO c1 (qA (h2 k (by omega)) (qO c2 (qA (h3 k (by omega)) (qO c3 (qA (h4 k (by omega)) (qO c4 (qA (h5 k (by omega)) (qA lp (h9 k (by omega)))))))))))
 |f+1,.call op kids,q,ha,hi,hk=>by
  have hr:q.1.length≤1000:=Nat.le_trans (qD8 hi.1) hs
  unfold sP
  by_cases hb:q.2.1=true
  ·rw [if_pos hb]
   refine ⟨.inr (qDc s q),.inr ⟨rfl,rfl⟩,1,fun n hn M hM=>?_⟩
   obtain ⟨M,rfl,hM⟩:=up1 hM
   exact qP (qO (qA6 hb) rfl)
  ·have hk:kids.length+q.1.length≤1500:=hk.elim (fun h=>absurd h hb) id
   have ha:20*(tb q.1).length+12≤f+1:=ha.elim (fun h=>absurd h.1 hb) id
   have hb:q.2.1=false:=by rw [Bool.eq_false_iff];exact hb
   rw [if_neg (by rw [hb];simp)]
   simp only
   have a:=qF5 H f .arg q hr trivial
   obtain ⟨n1,h1⟩:=qGK H hs f .arg q (by show 20*_+10≤f;omega) hi trivial
   generalize sP f .arg q=A at a h1⊢
   have ia:=hi.go a
   have ta:=a.tb
   have ra:=qCJ a
   obtain ⟨n2,h2⟩:=qIG hs [41] (by simp) A.2 ia.1
   have kl:decide (kids.length=(kids.map qA8).length∧0<1∧0<8∧(kids.length+([[(PV.i .i64 A.1)]]:List (List PV)).length)*8≤140737488355328∧([[(PV.i .i64 A.1)]]:List (List PV)).all (fun e=>e.length==1)=true)=true:=decide_eq_true ⟨by simp,by decide,by decide,by simp;omega,rfl⟩
   have k1:(kids++ [A.1]).length=kids.length+1:=by simp
   have k2:(kids++ [A.1]).map qA8=kids.map qA8++ [[PV.i .i64 A.1]]:=by simp [qA8]
   cases c1:(sIs [41] A.2).1 with
   |true=>
    rw [if_pos rfl]
    have g:=a.trans (qFz (by simp) c1)
    obtain ⟨n3,h3⟩:=qLk (s:=s) (ndK 6 op (kids++ [A.1])) (sIs [41] A.2).2 (by have:=(hi.go g).2;omega) (qKA (by simp;omega))
    refine ⟨.inl (qDA s (qE9 (ndK 6 op (kids++ [A.1])) (sIs [41] A.2).2)),.inl rfl,n1+n2+n3+1,fun n hn M hM=>?_⟩
    obtain ⟨M,rfl,hM⟩:=up1 hM
    have h3:_=some _:=h3 n (by omega)
    simp only [ndK,kd] at h3
    rw [k2] at h3
    exact qP (qD (qDS hb) (qA (h1 n (by omega)) (qD rfl (qD kl (qA (h2 n (by omega)) (qD c1 (qD (decide_eq_true (by simp)) (qA h3 rfl))))))))
   |false=>
    rw [if_neg (by simp)]
    have g:=a.tr0 (qLl [41] A.2)
    have gt:=(qLl [41] A.2).tb
    have i2:=hi.go g
    obtain ⟨n3,h3⟩:=qIG hs [44] (by simp) (sIs [41] A.2).2 i2.1
    cases c2:(sIs [44] (sIs [41] A.2).2).1 with
    |true=>
     rw [if_pos rfl]
     have b:=qFz (by simp) c2
     have bl:=qUs (by simp) c2
     have bs:=qCJ (g.trans b)
     have b1:=b.sum
     have eq3:(sIs [44] (sIs [41] A.2).2).2.2=(sIs [41] A.2).2.2:=by obtain ⟨_,e,_⟩:=qMj c2;rw [e]
     rw [eq3] at b1
     have g0:=qCJ g
     obtain ⟨x,hx,n4,h4⟩:=qGK H hs f (.call op (kids++ [A.1])) (sIs [44] (sIs [41] A.2).2).2 (.inr (by omega)) (i2.go b) (.inr (by rw [k1];omega))
     refine ⟨x,hx,n1+n2+n3+n4+1,fun n hn M hM=>?_⟩
     obtain ⟨M,rfl,hM⟩:=up1 hM
     have h4:=h4 n (by omega) M (by omega)
     rw [k1,k2] at h4
     rw [qQ (v':=(op,kids.length+1,kids.map qA8++ [[PV.i .i64 A.1]],qDc s (sIs [44] (sIs [41] A.2).2).2)) (by
      exact qD (qDS hb) (qA (h1 n (by omega)) (qD rfl (qD kl (qA (h2 n (by omega)) (qO c1 (qA (h3 n (by omega)) (qO (qA6 c2) rfl))))))))]
     exact h4
    |false=>
     rw [if_neg (by simp)]
     have b:=qLl [44] (sIs [41] A.2).2
     obtain ⟨x,hx,n4,h4⟩:=qGK H hs f (.call op (kids++ [A.1])) (qNJ (sIs [44] (sIs [41] A.2).2).2) (.inl ⟨rfl,by omega⟩) (i2.go (qRi b)) (.inl rfl)
     refine ⟨x,hx,n1+n2+n3+n4+1,fun n hn M hM=>?_⟩
     obtain ⟨M,rfl,hM⟩:=up1 hM
     have h4:=h4 n (by omega) M (by omega)
     rw [k1,k2] at h4
     rw [qQ (v':=(op,kids.length+1,kids.map qA8++ [[PV.i .i64 A.1]],qDc s (qNJ (sIs [44] (sIs [41] A.2).2).2))) (by
      exact qD (qDS hb) (qA (h1 n (by omega)) (qD rfl (qD kl (qA (h2 n (by omega)) (qO c1 (qA (h3 n (by omega)) (qD (qDS c2) rfl))))))))]
     exact h4
 |f+1,.arg,q,ha,hi,_=>by
  replace ha:20*(tb q.1).length+10≤f+1:=ha
  have hr:q.1.length≤1000:=Nat.le_trans (qD8 hi.1) hs
  have htl:=qAE q.1
  unfold sP
  simp only
  have t:=qN9 q
  have it:=hi.go t
  have w:=qSt q
  have iw:=hi.go w
  obtain ⟨n1,h1⟩:=qTQ hs q hi.1
  obtain ⟨n2,h2⟩:=qRg hs (tb q.1,q.2) it.1
  obtain ⟨n3,h3⟩:=srp (tb q.1) (by omega)
  obtain ⟨n4,h4⟩:=qIG hs [58] (by simp) (wr (tb q.1),q.2) iw.1
  have eq2:(sIs [58] (wr (tb q.1),q.2)).2.2=q.2:=by
   cases c:(sIs [58] (wr (tb q.1),q.2)).1 with
   |true=>obtain ⟨_,e,_⟩:=qMj c;rw [e]
   |false=>rw [qSu c]
  by_cases hc:(qBG (BR (wd (tb q.1)))).2.2.2.2=true∧(sIs [58] (wr (tb q.1),q.2)).1=true
  ·rw [if_pos hc]
   have g:=w.trans (qFz (by simp) hc.2)
   have ig:=hi.go g
   have rg:=qCJ g
   generalize sIs [58] (wr (tb q.1),q.2)=I at*
   have gt:=qN9 I.2
   have gw:=qSt I.2
   have il:=qAE I.2.1
   obtain ⟨n5,h5⟩:=qTQ hs I.2 ig.1
   obtain ⟨n6,h6⟩:=qRg hs (tb I.2.1,I.2.2) (ig.go gt).1
   obtain ⟨n7,h7⟩:=srp (tb I.2.1) (by omega)
   cases hp:(qBG (BR (wd (tb I.2.1)))).2.2.2.2 with
   |true=>
    rw [if_pos rfl]
    obtain ⟨n8,h8⟩:=qLk (s:=s) (ndA (qBG (BR (wd (tb q.1)))) (qBG (BR (wd (tb I.2.1))))) (wr (tb I.2.1),I.2.2) (by have:=(ig.go gw).2;simp only at this⊢;omega) ⟨by simp [kd,ndA],by simp [ndA,em];decide⟩
    refine ⟨n1+n2+n3+n4+n5+n6+n7+n8+1,fun n hn=>?_⟩
    obtain ⟨k,rfl,hm⟩:=up1 hn
    exact qA (h1 k (by omega)) (qA (h2 k (by omega)) (qA (h3 k (by omega)) (qD hc.1 (qA (h4 k (by omega)) (qD hc.2 (qA (h5 k (by omega)) (qA (h6 k (by omega)) (qA (h7 k (by omega)) (qO (qA6 hp) (qA (h8 k (by omega)) rfl))))))))))
   |false=>
    rw [if_neg (by simp)]
    refine ⟨n1+n2+n3+n4+n5+n6+n7+1,fun n hn=>?_⟩
    obtain ⟨k,rfl,hm⟩:=up1 hn
    exact qA (h1 k (by omega)) (qA (h2 k (by omega)) (qA (h3 k (by omega)) (qD hc.1 (qA (h4 k (by omega)) (qD hc.2 (qA (h5 k (by omega)) (qA (h6 k (by omega)) (qA (h7 k (by omega)) (qD (qDS hp) rfl)))))))))
  ·rw [if_neg hc]
   obtain ⟨n5,h5⟩:=qGK H hs f (.row 1) (tb q.1,q.2) ⟨by simp only [qC9];omega,by omega,by omega⟩ it trivial
   refine ⟨n1+n2+n3+n4+n5+1,fun n hn=>?_⟩
   obtain ⟨k,rfl,hm⟩:=up1 hn
   cases hp:(qBG (BR (wd (tb q.1)))).2.2.2.2 with
   |true=>
    have ht:(sIs [58] (wr (tb q.1),q.2)).1=false:=by rw [Bool.eq_false_iff];exact fun e=>hc ⟨hp,e⟩
    have h4:=h4 k (by omega)
    have e4:qDc s (sIs [58] (wr (tb q.1),q.2)).2=(BR s,pos s (sIs [58] (wr (tb q.1),q.2)).2.1,q.2.1,q.2.2.length,q.2.2.map qW):=by unfold qDc;rw [eq2]
    rw [e4] at h4
    exact qA (h1 k (by omega)) (qA (h2 k (by omega)) (qA (h3 k (by omega)) (qD hp (qA h4 (qO ht (qA (h5 k (by omega)) rfl))))))
   |false=>exact qA (h1 k (by omega)) (qA (h2 k (by omega)) (qA (h3 k (by omega)) (qO hp (qA (h5 k (by omega)) rfl))))
theorem qVF {w:List UInt8} (h:w.all wch=true) (hn:w≠ []):(qBZ (BR w)).1=1∨(qBZ (BR w)).1=3:=by
 cases w with
 |nil=>exact absurd rfl hn
 |cons c t=>
  simp only [List.all_cons,Bool.and_eq_true] at h
  have h39:¬(c::t).head?=some 39:=by
   intro e;simp at e;rw [e] at h;exact absurd h.1 (by decide)
  have h35:¬(c::t).head?=some 35:=by
   intro e;simp at e;rw [e] at h;exact absurd h.1 (by decide)
  unfold qBZ
  rw [qAZ,if_neg h39]
  split
  ·exact .inr rfl
  ·split
   ·exact .inr rfl
   ·exact .inl rfl
theorem qWs:RdOK where
 v:=fun w h hn ho=>by
  have c:=qVF h hn
  unfold qj at ho⊢
  split at ho
  ·rename_i hc;rw [if_pos hc];exact c
  ·cases ho
 v0:=by
  have:(qj (BR [])).1=0:=by
   have:(qj ⟨#[]⟩).1=0:=by decide+kernel
   exact this
  rw [this];decide
 p0:=by
  have:(qBG ⟨#[]⟩).2.2.2.2=false:=by decide+kernel
  exact this
 f:=fun w op h=>by
  have t:∀a:Fin 10,(qj (fnS (((a.val:Nat):Int)+1))).2.2.2=false∧(qBG (fnS (((a.val:Nat):Int)+1))).2.2.2.2=false:=by decide+kernel
  have e:∀(k:Nat) (i:Int),1≤i→i+k≤11→qHO w i k=some op→∃j:Int,1≤j∧j≤10∧(fnS j).toList=w:=by
   intro k
   induction k with
   |zero=>intro i _ _ h;cases h
   |succ k ih=>
    intro i h1 h2 h
    unfold qHO at h
    split at h
    ·rename_i hq;exact ⟨i,h1,by omega,hq⟩
    ·exact ih (i+1) (by omega) (by omega) h
  obtain ⟨j,j1,j2,rfl⟩:=e 10 1 (by omega) (by omega) h
  rw [qJg]
  have:=t ⟨(j-1).toNat,by omega⟩
  simp only at this
  rwa [show (((j-1).toNat:Nat):Int)+1=j by omega] at this
 f0:=by decide+kernel
 n:=fun n hn=>by
  have c:n=1∨n=2∨n=3∨n=4∨n=5:=by omega
  rcases c with rfl|rfl|rfl|rfl|rfl
  ·exact ⟨[68,73,86,33],by decide+kernel⟩
  ·exact ⟨[84,89,80,69,33],by decide+kernel⟩
  ·exact ⟨[82,69,70,33],by decide+kernel⟩
  ·exact ⟨[79,86,69,82,33],by decide+kernel⟩
  ·exact ⟨[67,89,67,76,69,33],by decide+kernel⟩
def qSw (s:ByteArray):PS:=(pP 4050 (.bin 1 0) (s.toList,false,[])).2
def qBH (s:ByteArray):List Nd×Bool:=
 if qDZ s 200=true∧(qSw s).2.1=false∧tb (qSw s).1= []∧qFP (qSw s).2.2=true then ((qSw s).2.2,true) else ([],false)
theorem qL0 {s:ByteArray} (h:qDZ s 200=true):s.toList.length≤200:=by
 unfold qDZ at h
 simp only [Bool.and_eq_true,decide_eq_true_eq] at h
 rw [qAa];omega
theorem qUR {s:ByteArray} (h:qDZ s 200=true):Gd (s.toList,false,[]):=⟨by have:=qL0 h;simp only;omega,by simp,fun x hx=>by cases hx⟩
theorem qJh {l:List Nd} (h:∀x∈l,qQM x):∀c∈l,(kd c).length≤140737488351232∧c.2.2.2.2.1.size≤140737488351232:=fun c hc=>by
 have:=h c hc
 exact ⟨by have:=this.1;omega,by have:=this.2;omega⟩
theorem qHF (s:ByteArray) (hb:s.size≤140737488351232):Ev (qD2 · s) ((qBH s).1.map qW,(qBH s).2):=by
 obtain ⟨n1,h1⟩:=qLX s 200 hb
 by_cases hp:qDZ s 200=true
 ·have hl:=qL0 hp
  have htb:=qAE s.toList
  have hg:=qUR hp
  obtain ⟨n2,h2⟩:=qGJ 4050 (.bin 1 0) (s.toList,false,[]) (by show 20*(tb s.toList).length+6≤4050;omega) ⟨by decide,by decide⟩ hg trivial
  have g:=(qF4 4050 (.bin 1 0) (s.toList,false,[]) hg trivial).1
  have e0:(pP 4050 (.bin 1 0) (s.toList,false,[])).2=qSw s:=rfl
  rw [e0] at g
  generalize pP 4050 (.bin 1 0) (s.toList,false,[])=P at h2 e0
  rw [qJg] at h2
  unfold qBH
  rw [←e0] at g⊢
  obtain ⟨n3,h3⟩:=qIa P.2.1 P.2.2.2.length P.2.2.1 (P.2.2.2.map qW)
  obtain ⟨n4,h4⟩:=qIZ P.2.2.2 (by have:=g.n;omega) (qJh g.s)
  refine ⟨n1+n2+n3+n4+1,fun n hn=>?_⟩
  obtain ⟨k,rfl,hm⟩:=up1 hn
  have h1:=h1 k (by omega)
  rw [hp] at h1
  refine qA h1 (qO rfl (qA (h2 k (by omega)) (qA (h3 k (by omega)) ?_)))
  by_cases hbad:P.2.2.1=true
  ·rw [if_neg (fun h=>by rw [hbad] at h;cases h.2.1)]
   exact qD hbad (qD rfl rfl)
  ·have hbad:P.2.2.1=false:=by rw [Bool.eq_false_iff];exact hbad
   refine qO hbad ?_
   by_cases hr:tb P.2.1= []
   ·refine qO (qA6 (by rw [beq_iff_eq,qAP];show (BR (tb P.2.1)).toList= [];rw [qAZ];exact hr)) (qD (decide_eq_true (by simp)) (qA (h4 k (by omega)) (qD (qF _) ?_)))
    cases ho:qFP P.2.2.2 with
    |true=>
     rw [if_pos ⟨hp,hbad,hr,rfl⟩]
     exact qO rfl (qD (decide_eq_true (by simp)) rfl)
    |false=>
     rw [if_neg (fun h=>by cases h.2.2.2)]
     exact qD rfl (qD rfl rfl)
   ·rw [if_neg (fun h=>hr h.2.2.1)]
    exact qD (qDS (by rw [beq_eq_false_iff_ne,qAP];show (BR (tb P.2.1)).toList≠ [];rw [qAZ];exact hr)) (qD rfl rfl)
 ·refine ⟨n1+1,fun n hn=>?_⟩
  obtain ⟨k,rfl,hm⟩:=up1 hn
  unfold qBH
  rw [if_neg (fun h=>hp h.1)]
  exact qA (h1 k (by omega)) (qD (qDS (by rw [Bool.eq_false_iff];exact hp)) (qD rfl rfl))
theorem qVG {l:List Nd} (h:∃x∈l,qF3 x=false):qFP l=false:=by
 obtain ⟨x,hx,hb⟩:=h
 rw [Bool.eq_false_iff]
 intro ho
 unfold qFP at ho
 simp only [Bool.and_eq_true] at ho
 obtain ⟨i,hi⟩:=List.mem_iff_getElem?.1 hx
 have hil:=(List.getElem?_eq_some_iff.1 hi).1
 have:=(qGg.1 ho.2.1 (i:Int) (by omega) (by omega)).1
 unfold qHN at this
 have e:ndi l (i:Int)=x:=by unfold ndi;simp [hi]
 rw [e,hb] at this
 cases this
theorem qHG (s:ByteArray) (hb:s.size≤140737488351232):Ev (qDy · s) ((qBH s).1.map qW,(qBH s).2):=by
 obtain ⟨n1,h1⟩:=qKU s hb
 by_cases hp:qDZ s 200=true
 ·have hl:=qL0 hp
  have hs:s.toList.length≤1000:=by omega
  have htb:=qAE s.toList
  have hg:=qUR hp
  have gi:=(qF4 4050 (.bin 1 0) (s.toList,false,[]) hg trivial).1
  have sim:=(qWH qWs (tb s.toList).length).2.2.1 (s.toList,false,[]) (s.toList,false,[]) 0 4 4050 4050 (by omega) ⟨rfl,rfl,rfl,rfl⟩ rfl (by omega) (by omega) (by omega) (by omega)
  rw [show (5:Int)-((4:Nat):Int)=1 from rfl] at sim
  have iv:Iv s.toList (s.toList,false,[]):=⟨List.suffix_rfl,by simp;omega⟩
  obtain ⟨n2,h2⟩:=qGK qWs hs 4050 (.row 1) (s.toList,false,[]) ⟨by simp only;omega,by omega,by omega⟩ iv trivial
  have g:=qF5 qWs 4050 (.row 1) (s.toList,false,[]) hs trivial
  have e0:(pP 4050 (.bin 1 0) (s.toList,false,[])).2=qSw s:=rfl
  generalize pP 4050 (.bin 1 0) (s.toList,false,[])=P at sim e0 gi
  generalize sP 4050 (.row 1) (s.toList,false,[])=Q at sim h2 g
  unfold qBH
  rw [←e0]
  obtain ⟨n3,h3⟩:=qTQ hs Q.2 (iv.go g).1
  obtain ⟨n4,h4⟩:=qFx Q.2.2.2 (qJh (g.sm (fun x hx=>by cases hx)))
  have p0:pos s.toList s.toList=0:=by unfold pos;simp
  simp only [qJg,p0] at h2 h3
  have g2:=(qUQ (iv.go g).1)
  refine ⟨n1+n2+n3+n4+1,fun n hn=>?_⟩
  obtain ⟨k,rfl,hm⟩:=up1 hn
  have h1:=h1 k (by omega)
  rw [hp] at h1
  have h2:=h2 k (by omega)
  have h3:=h3 k (by omega)
  have e1:qDA s.toList Q=(Q.1,s,pos s.toList Q.2.1,Q.2.2.1,Q.2.2.2.length,Q.2.2.2.map qW):=by unfold qDA qDc;rw [qJg]
  have e2:qDc s.toList (tb Q.2.1,Q.2.2)=(s,pos s.toList (tb Q.2.1),Q.2.2.1,Q.2.2.2.length,Q.2.2.2.map qW):=by unfold qDc;rw [qJg]
  rw [e1] at h2
  rw [e2] at h3
  refine qA h1 (qO rfl (qA h2 (qA h3 ?_)))
  rcases sim with ⟨_,hk,_⟩|⟨hbad,hd⟩
  ·obtain ⟨k1,k2,k3,k4⟩:=hk
   rw [k1,k3,k4]
   refine qO k2 ?_
   by_cases hr:tb Q.2.1= []
   ·refine qO (decide_eq_false (show ¬pos s.toList (tb Q.2.1)<(s.size:Int) by rw [hr];unfold pos;simp [qAa])) (qD (decide_eq_true (by simp)) (qA (h4 k (by omega)) (qD (qF _) ?_)))
    cases ho:qFP Q.2.2.2 with
    |true=>
     rw [if_pos ⟨hp,rfl,hr,rfl⟩]
     exact qO rfl (qD (decide_eq_true (by simp)) rfl)
    |false=>
     rw [if_neg (fun h=>by cases h.2.2.2)]
     exact qD rfl (qD rfl rfl)
   ·rw [if_neg (fun h=>hr h.2.2.1)]
    have hlp:=List.length_pos_iff.2 hr
    have hsl:=qD8 g2
    exact qD (decide_eq_true (show pos s.toList (tb Q.2.1)<(s.size:Int) by rw [qAa] at hsl;unfold pos;rw [qAa];omega)) (qD rfl rfl)
  ·rw [if_neg (fun h=>by
    rcases hd with hd|hd
    ·rw [hd] at h;cases h.2.1
    ·rw [qVG hd] at h;cases h.2.2.2)]
   exact qD hbad (qD rfl rfl)
 ·refine ⟨n1+1,fun n hn=>?_⟩
  obtain ⟨k,rfl,hm⟩:=up1 hn
  unfold qBH
  rw [if_neg (fun h=>hp h.1)]
  exact qA (h1 k (by omega)) (qD (qDS (by rw [Bool.eq_false_iff];exact hp)) (qD rfl rfl))
theorem qLm (s:ByteArray):(qBH s).1.length≤60∧∀x∈(qBH s).1,qQM x:=by
 unfold qBH
 split
 ·rename_i h
  have g:=(qF4 4050 (.bin 1 0) (s.toList,false,[]) (qUR h.1) trivial).1
  exact ⟨g.n,g.s⟩
 ·exact ⟨by simp,fun x hx=>by cases hx⟩
theorem qRk:∀(l:List UInt8) (acc:Nat) {u:Nat},l.all qBN=true→Lib.parseUintM (2^64-1) acc l= .ok u→u=qAp acc l
 | [],acc,u,_,h=>by simp only [Lib.parseUintM] at h;cases h;rfl
 |c::r,acc,u,hd,h=>by
  simp only [List.all_cons,Bool.and_eq_true] at hd
  have hc:=hd.1
  simp only [qBN,Bool.and_eq_true,decide_eq_true_eq] at hc
  unfold Lib.parseUintM at h
  rw [qEn]
  rw [if_pos hc] at h
  by_cases h1:1844674407370955162≤acc
  ·rw [if_pos h1] at h;cases h
  ·rw [if_neg h1] at h
   by_cases h2:2^64-1<acc*10+(c.toNat-48)
   ·rw [if_pos h2] at h;cases h
   ·rw [if_neg h2] at h
    exact qRk r _ hd.2 h
theorem qUS {p:UInt8→Bool}:∀l:List UInt8,(l.dropWhile p= [])↔l.all p=true
 | []=>by simp
 |c::r=>by
  rw [List.dropWhile_cons,List.all_cons]
  by_cases h:p c=true
  ·rw [if_pos h,h,Bool.true_and];exact qUS r
  ·rw [if_neg h];simp [h]
theorem qUu {p:UInt8→Bool}:∀(l:List UInt8) {a:UInt8} {r:List UInt8},l.dropWhile p=a::r→p a=false
 | [],a,r,h=>by simp at h
 |c::l,a,r,h=>by
  rw [List.dropWhile_cons] at h
  by_cases hc:p c=true
  ·rw [if_pos hc] at h;exact qUu l h
  ·rw [if_neg hc] at h
   cases h
   rw [Bool.eq_false_iff];exact hc
theorem qVn:∀i:Fin 256,((⟨#[48,49,50,51,52,53,54,55,56,57]⟩:ByteArray).data.toList.contains (UInt8.ofNat i.val))=qBN (UInt8.ofNat i.val):=by decide+kernel
theorem qT1 {p:UInt8→Bool} {t:List UInt8}:((t.reverse.dropWhile p).reverse.dropWhile p= [])↔t.all p=true:=by
 rw [qUS]
 constructor
 ·intro h
  cases hx:t.reverse.dropWhile p with
  |nil=>
   rw [qUS] at hx
   rw [List.all_eq_true] at hx⊢
   exact fun x hx'=>hx x (by simpa using hx')
  |cons a r=>
   rw [List.all_eq_true] at h
   have h1:=h a (by rw [hx];simp)
   rw [qUu _ hx] at h1
   cases h1
 ·intro h
  rw [List.all_eq_true] at h⊢
  intro x hx
  rw [List.mem_reverse] at hx
  exact h x (by simpa using (List.dropWhile_suffix p).subset hx)
def qIJ (s:List UInt8):List UInt8:=if s.head?=some 45 then s.tail else s
def qLn (s:List UInt8):Int:=if s.head?=some 45 then-((qAp 0 (qIJ s):Nat):Int) else ((qAp 0 (qIJ s):Nat):Int)
def qSV (s:List UInt8):Bool:=decide (qIJ s≠ [])&&(qIJ s).all qBN
def qF0 (s:List UInt8):Bool:=qSV s&&okV 1 (qLn s) em
theorem qVo (s:List UInt8):(qIJ s).length≤s.length:=by unfold qIJ;split<;>simp
theorem qT2 (s:List UInt8) (h:s.length≤1000):Ev (qFE · (BR s)) (qSV s):=by
 refine ⟨10,fun n hn=>?_⟩
 obtain ⟨k,rfl⟩:∃k,n=k+5:=⟨n-5,by omega⟩
 have tp:qEa (k+4) (BR s) ⟨#[45]⟩=some (BR (qIJ s)):=by
  have hp:qAF (k+2) (BR s) ⟨#[45]⟩=some (List.isPrefixOf [45] s):=by
   have:=qBx (k+1) s [45]
   simp only [qm,qCa,qC,qE,qH,qJ,qK,qM,Option.bind_some,qF,qG,qN] at this
   have e:∀o:Option Bool,(o.bind fun x=>some x)=o:=fun o=>by cases o<;>rfl
   rw [e] at this
   exact this
  have inner:qBh (k+3) (BR s) ⟨#[45]⟩=some (BR (qIJ s)):=by
   by_cases hh:s.head?=some 45
   ·rw [(qFy 45 s).2 hh] at hp
    obtain ⟨t,rfl⟩:=qLx hh
    unfold qIJ
    rw [if_pos hh]
    refine qA hp (qD rfl (qD (decide_eq_true ⟨by decide,by rw [qc];show (1:Int)≤_;simp;omega,Int.le_refl _⟩) ?_))
    rw [qC]
    show some ((BR (45::t)).extract 1 ((((BR (45::t)).size:Nat):Int)).toNat)=_
    rw [qGI,qc]
    simp
   ·have e:List.isPrefixOf [45] s=false:=by rw [Bool.eq_false_iff];exact fun e=>hh ((qFy 45 s).1 e)
    rw [e] at hp
    unfold qIJ
    rw [if_neg hh]
    exact qA hp (qO rfl rfl)
  exact qA inner rfl
 have tl:=qVo s
 unfold qSV
 generalize qIJ s=t at tp tl⊢
 refine qA tp ?_
 by_cases ht:t= []
 ·subst ht
  refine qO (qA6 (by rw [qAZ,qAP];rfl)) ?_
  rfl
 ·refine qD (qDS (by rw [beq_eq_false_iff_ne,qAZ,qAP];exact ht)) ?_
  have tr:qH2 (k+4) (BR t) ⟨#[48,49,50,51,52,53,54,55,56,57]⟩=some (BR (((t.reverse.dropWhile qBN).reverse).dropWhile qBN)):=by
   show zAL (BR t) ⟨#[48,49,50,51,52,53,54,55,56,57]⟩=_
   unfold zAL
   rw [if_pos ⟨by rw [qc];omega,by decide,by decide+kernel⟩]
   unfold Lib.trimS Lib.trimLeftS Lib.trimRightS
   have:(fun c=>(⟨#[48,49,50,51,52,53,54,55,56,57]⟩:ByteArray).data.toList.contains c)=qBN:=funext (qUN qVn)
   rw [this,←Go.Lib.toList_data (BR t),qAZ]
   rfl
  refine qA tr ?_
  rw [qC]
  congr 1
  have dt:decide (t≠ [])=true:=decide_eq_true ht
  rw [dt,Bool.true_and,qAZ,qAP]
  by_cases ha:t.all qBN=true
  ·rw [qT1.2 ha,ha];rfl
  ·have hx:¬(t.reverse.dropWhile qBN).reverse.dropWhile qBN= []:=fun e=>ha (qT1.1 e)
   rw [beq_eq_false_iff_ne.2 hx,Bool.eq_false_iff.2 ha]
theorem qWt {n:Int}:okV 1 n em=true↔-1000000000000000≤n∧n≤1000000000000000:=by
 simp [okV,em,qAP]
theorem qPI {s:List UInt8} (h:qSV s=true):(∀n,Lib.parseIntB 64 s= .ok n→n=qLn s)∧(qF0 s=true→Lib.parseIntB 64 s= .ok (qLn s)):=by
 have hd:=h
 unfold qSV at hd
 simp only [Bool.and_eq_true,decide_eq_true_eq] at hd
 obtain ⟨h1,h2⟩:=hd
 have p:(2:Nat)^(64-1)=9223372036854775808:=by decide
 have hne:s≠ []:=fun e=>h1 (by rw [e];rfl)
 obtain ⟨c,r,rfl⟩:∃c r,s=c::r:=by
  cases s with
  |nil=>exact absurd rfl hne
  |cons c r=>exact ⟨c,r,rfl⟩
 have c45:(c.toNat=45)↔c=45:=⟨fun e=>UInt8.toNat_inj.1 (show c.toNat=(45:UInt8).toNat from e),fun e=>by rw [e];rfl⟩
 have nt:qIJ (c::r)=if c.toNat=43∨c.toNat=45 then r else c::r:=by
  unfold qIJ
  by_cases hc:c=45
  ·subst hc;simp
  ·have hc2:¬c.toNat=45:=fun e=>hc (c45.1 e)
   have ht:qIJ (c::r)=c::r:=by unfold qIJ;rw [if_neg (by simpa using hc)]
   rw [ht] at h2
   simp only [List.all_cons,Bool.and_eq_true,qBN,decide_eq_true_eq] at h2
   rw [if_neg (by simpa using hc),if_neg (by omega)]
 have nv:qLn (c::r)=if c.toNat=45 then-((qAp 0 (qIJ (c::r)):Nat):Int) else ((qAp 0 (qIJ (c::r)):Nat):Int):=by
  unfold qLn
  by_cases hc:c=45
  ·subst hc;rfl
  ·rw [if_neg (by simpa using hc),if_neg (fun e=>hc (c45.1 e))]
 unfold Lib.parseIntB
 simp only
 rw [←nt]
 unfold Lib.parseUintB
 rw [if_neg h1]
 constructor
 ·intro n hn
  rcases hq:Lib.parseUintM (2^64-1) 0 (qIJ (c::r)) with u|_|_
  rotate_left
  ·rw [hq] at hn;cases hn
  ·rw [hq] at hn;cases hn
  ·have hu:=qRk _ 0 h2 hq
   rw [hq] at hn
   simp only at hn
   split at hn
   ·cases hn
   ·split at hn
    ·cases hn
    ·injection hn with hn
     rw [nv,←hu,←hn]
 ·intro ho
  unfold qF0 at ho
  simp only [Bool.and_eq_true] at ho
  have hb:=qWt.1 ho.2
  have hv:qAp 0 (qIJ (c::r))≤1000000000000000:=by
   rw [nv] at hb
   split at hb<;>omega
  rw [qO4 _ 0 h2 (by omega)]
  simp only
  rw [if_neg (by rw [p];omega),if_neg (by rw [p];omega),nv]
def szL:List UInt8→List UInt8
 | []=> []
 |c::t=>if t≠ []∧c=48 then szL t else c::t
theorem qQZ:∀l:List UInt8,qAp 0 (szL l)=qAp 0 l
 | []=>rfl
 |c::t=>by
  unfold szL
  split
  ·rename_i h
   rw [qQZ t,qEn,h.2]
   rfl
  ·rfl
theorem qTT:∀l:List UInt8,(szL l).all qBN=l.all qBN
 | []=>rfl
 |c::t=>by
  unfold szL
  split
  ·rename_i h
   rw [qTT t,List.all_cons,h.2]
   simp [qBN]
  ·rfl
theorem qWa:∀l:List UInt8,l≠ []→szL l≠ []
 | [],h=>absurd rfl h
 |c::t,_=>by
  unfold szL
  split
  ·rename_i h;exact qWa t h.1
  ·simp
theorem qTU:∀l:List UInt8,(szL l).head?=some 48→(szL l).length=1
 | [],h=>by cases h
 |c::t,h=>by
  unfold szL at h⊢
  split at h
  ·rename_i hc;rw [if_pos hc];exact qTU t h
  ·rename_i hc
   rw [if_neg hc]
   have h48:c=48:=by simpa using h
   have:t= []:=Classical.byContradiction fun e=>hc ⟨e,h48⟩
   rw [this];rfl
theorem qVp {l:List UInt8} (h:l≠ []):qHD (szL l)=l.all qBN:=by
 unfold qHD
 rw [qTT]
 have h1:(szL l== [])=false:=beq_eq_false_iff_ne.2 (qWa l h)
 rw [h1]
 by_cases e:(szL l).head?=some 48
 ·rw [qTU l e];simp
 ·rw [beq_eq_false_iff_ne.2 e];simp
theorem qT3:∀(l:List UInt8) (acc:Nat),acc*10^l.length≤qAp acc l
 | [],acc=>by rw [qH8];simp
 |c::r,acc=>by
  have:=qT3 r (acc*10+(c.toNat-48))
  rw [qEn,List.length_cons,Nat.pow_succ]
  refine Nat.le_trans ?_ this
  rw [show acc*(10^r.length*10)=acc*10*10^r.length by rw [Nat.mul_comm (10^r.length) 10,Nat.mul_assoc]]
  exact Nat.mul_le_mul_right _ (by omega)
theorem qWu {l:List UInt8} (hd:l.all qBN=true) (h:16<(szL l).length):10000000000000000≤qAp 0 l:=by
 rw [←qQZ]
 rw [←qTT] at hd
 have hh:=qTU l
 cases hz:szL l with
 |nil=>rw [hz] at h;simp at h
 |cons c r=>
  rw [hz] at h hd hh
  simp only [List.length_cons] at h
  have hc:¬c=48:=fun e=>by
   have:=hh (by rw [e];rfl)
   simp only [List.length_cons] at this
   omega
  simp only [List.all_cons,Bool.and_eq_true,qBN,decide_eq_true_eq] at hd
  have hc2:¬c.toNat=48:=fun e=>hc (UInt8.toNat_inj.1 (show c.toNat=(48:UInt8).toNat from e))
  rw [qEn]
  have a:=qT3 r (0*10+(c.toNat-48))
  have p:10^16≤10^r.length:=Nat.pow_le_pow_right (by decide) (by omega)
  have p16:(10:Nat)^16=10000000000000000:=by decide
  have:1*10^r.length≤(0*10+(c.toNat-48))*10^r.length:=Nat.mul_le_mul_right _ (by omega)
  omega
theorem qOA (n:Nat) (neg:Bool) (a b:Int) (e:ByteArray):∀(l:List UInt8) (M:Nat),l.length≤1000→l.length+1≤M→zC (qB6 n) M (BR l,neg,a,b,e)=some (BR (szL l),neg,a,b,e)
 |l,0,_,h=>by omega
 | [],M+1,_,_=>qP (qO (decide_eq_false (show ¬((BR []).size:Int)>1 by rw [qc];decide)) rfl)
 |c::t,M+1,hl,h=>by
  simp only [List.length_cons] at h hl
  unfold szL
  by_cases ht:t= []
  ·rw [if_neg (fun h=>h.1 ht)]
   subst ht
   exact qP (qO (decide_eq_false (show ¬((BR [c]).size:Int)>1 by rw [qc];simp)) rfl)
  ·have hpos:=List.length_pos_iff.2 ht
   have g0:decide (((BR (c::t)).size:Int)>1)=true:=decide_eq_true (by rw [qc];simp only [List.length_cons];omega)
   have g1:(BR (c::t)).toList[((0:Int)).toNat]?=some c:=by rw [qAZ];rfl
   by_cases hc:c=48
   ·rw [if_pos ⟨ht,hc⟩]
    subst hc
    rw [qQ (v':=(BR t,neg,a,b,e)) (by
     refine qD g0 (qD rfl (qA g1 (qD rfl (qD (decide_eq_true ⟨by decide,by rw [qc];simp only [List.length_cons];omega,Int.le_refl _⟩) ?_))))
     rw [qC]
     show some (Sum.inl ((BR (48::t)).extract 1 ((((BR (48::t)).size:Nat):Int)).toNat,neg,a,b,e))=_
     rw [qGI,qc]
     simp)]
    exact qOA n neg a b e t M (by omega) (by omega)
   ·rw [if_neg (fun h=>hc h.2)]
    refine qP (qD g0 (qD rfl (qA g1 (qO ?_ rfl))))
    rw [beq_eq_false_iff_ne]
    intro e
    exact hc (UInt8.toNat_inj.1 (show c.toNat=48 by omega))
theorem qWv {l:List UInt8} (h:l≠ []):l1I (szL l) 16=if (szL l).length≤16∧l.all qBN=true then (((qAp 0 l:Nat):Int),true) else (0,false):=by
 unfold l1I
 rw [qVp h,qQZ]
 by_cases hh:(szL l).length≤16∧l.all qBN=true
 ·rw [if_pos hh,if_pos ⟨by have:=hh.1;omega,hh.2⟩]
 ·rw [if_neg hh,if_neg (fun e=>hh ⟨by have:=e.1;omega,e.2⟩)]
theorem qT4 (neg:Bool) (t:List UInt8) (ht:t≠ []) (hl:t.length≤1000):∃r:Int×Int×ByteArray×Bool,(r.2.2.2=(t.all qBN&&okV 1 (if neg=true then-((qAp 0 t:Nat):Int) else ((qAp 0 t:Nat):Int)) em))∧(r.2.2.2=true→r=(1,(if neg=true then-((qAp 0 t:Nat):Int) else ((qAp 0 t:Nat):Int)),em,true))∧
  ∃n0,∀n,n0≤n→∃v:ByteArray×Bool×Int×Int×ByteArray,zC (qB6 n) n (BR t,neg,0,0,⟨#[]⟩)=some v∧
   (Tr.opt (qz n v.1 16) fun r221=>(.ask (v.2.1)
    (.ask (r221.2) (.opt (qa n 1 (IntKind.i64.wrap (0-r221.1)) ⟨#[]⟩) fun r222=>(.done ((1:Int),(IntKind.i64.wrap (0-r221.1)),(⟨#[]⟩:ByteArray),r222))) (.done ((1:Int),(IntKind.i64.wrap (0-r221.1)),(⟨#[]⟩:ByteArray),false)))
    (.ask (r221.2) (.opt (qa n 1 r221.1 ⟨#[]⟩) fun r223=>(.done ((1:Int),r221.1,(⟨#[]⟩:ByteArray),r223))) (.done ((1:Int),r221.1,(⟨#[]⟩:ByteArray),false))))).run=some r:=by
 have hi:=qE8 (BR (szL t)) 16 (by decide)
 rw [qAZ,qWv ht] at hi
 obtain ⟨n1,h1⟩:=hi
 by_cases hh:(szL t).length≤16∧t.all qBN=true
 ·have hv:qAp 0 t<10^(0+(szL t).length):=by
   have:=qTE (szL t) 0 0 (by rw [qTT];exact hh.2) (by decide)
   rwa [qQZ] at this
  have hp:10^(0+(szL t).length)≤10^16:=Nat.pow_le_pow_right (by decide) (by omega)
  have p16:(10:Nat)^16=10000000000000000:=by decide
  have w1:IntKind.i64.wrap (0-((qAp 0 t:Nat):Int))= -((qAp 0 t:Nat):Int):=by rw [qT (by omega)];omega
  cases neg with
  |true=>
   obtain ⟨n2,h2⟩:=qAI 1 (-((qAp 0 t:Nat):Int)) em (by decide)
   refine ⟨(1,-((qAp 0 t:Nat):Int),em,okV 1 (-((qAp 0 t:Nat):Int)) em),by rw [hh.2];simp,fun e=>?_,n1+n2+t.length+1,fun n hn=>⟨_,qOA n true 0 0 _ t n hl (by omega),?_⟩⟩
   ·simp only at e;rw [e];rfl
   ·have h1:=h1 n (by omega)
    rw [if_pos hh] at h1
    have h2:=h2 n (by omega)
    rw [←w1] at h2
    refine qA h1 (qD rfl (qD rfl (qA h2 ?_)))
    rw [qC,w1];rfl
  |false=>
   obtain ⟨n2,h2⟩:=qAI 1 ((qAp 0 t:Nat):Int) em (by decide)
   refine ⟨(1,((qAp 0 t:Nat):Int),em,okV 1 ((qAp 0 t:Nat):Int) em),by rw [hh.2];simp,fun e=>?_,n1+n2+t.length+1,fun n hn=>⟨_,qOA n false 0 0 _ t n hl (by omega),?_⟩⟩
   ·simp only at e;rw [e];rfl
   ·have h1:=h1 n (by omega)
    rw [if_pos hh] at h1
    exact qA h1 (qO rfl (qD rfl (qA (h2 n (by omega)) rfl)))
 ·have hno:(t.all qBN&&okV 1 (if neg=true then-((qAp 0 t:Nat):Int) else ((qAp 0 t:Nat):Int)) em)=false:=by
   rw [Bool.eq_false_iff]
   intro e
   simp only [Bool.and_eq_true] at e
   have hb:=qWt.1 e.2
   have:16<(szL t).length:=by
    have:¬(szL t).length≤16:=fun h=>hh ⟨h,e.1⟩
    omega
   have:=qWu e.1 this
   split at hb<;>omega
  cases neg with
  |true=>
   refine ⟨(1,IntKind.i64.wrap (0-0),em,false),hno.symm,(fun e=>by cases e),n1+t.length+1,fun n hn=>⟨_,qOA n true 0 0 _ t n hl (by omega),?_⟩⟩
   have h1:=h1 n (by omega)
   rw [if_neg hh] at h1
   exact qA h1 (qD rfl (qO rfl rfl))
  |false=>
   refine ⟨(1,0,em,false),hno.symm,(fun e=>by cases e),n1+t.length+1,fun n hn=>⟨_,qOA n false 0 0 _ t n hl (by omega),?_⟩⟩
   have h1:=h1 n (by omega)
   rw [if_neg hh] at h1
   exact qA h1 (qO rfl (qO rfl rfl))
theorem qT5 (s:List UInt8) (hs:s≠ []) (hl:s.length≤1000):∃r:Int×Int×ByteArray×Bool,r.2.2.2=qF0 s∧(qF0 s=true→r=(1,qLn s,em,true))∧Ev (qGn · (BR s)) r:=by
 obtain ⟨c,t,rfl⟩:∃c t,s=c::t:=by
  cases s with
  |nil=>exact absurd rfl hs
  |cons c t=>exact ⟨c,t,rfl⟩
 simp only [List.length_cons] at hl
 have g0:decide (((BR (c::t)).size:Int)>0)=true:=decide_eq_true (by rw [qc];simp only [List.length_cons];omega)
 have g1:(BR (c::t)).toList[((0:Int)).toNat]?=some c:=by rw [qAZ];rfl
 by_cases hc:c=45
 ·subst hc
  have ext:(BR (45::t)).extract ((1:Int)).toNat ((((BR (45::t)).size:Nat):Int)).toNat=BR t:=by rw [qGI,qc];simp
  have g2:decide (0≤(1:Int)∧(1:Int)≤((BR (45::t)).size:Int)∧((BR (45::t)).size:Int)≤((BR (45::t)).size:Int))=true:=decide_eq_true ⟨by decide,by rw [qc];simp only [List.length_cons];omega,Int.le_refl _⟩
  have nt:qIJ (45::t)=t:=rfl
  have nv:qLn (45::t)= -((qAp 0 t:Nat):Int):=rfl
  by_cases ht:t= []
  ·subst ht
   refine ⟨(0,0,⟨#[]⟩,false),by decide+kernel,(fun e=>by revert e;decide+kernel),1,fun n hn=>?_⟩
   obtain ⟨k,rfl,hm⟩:=up1 hn
   exact qD g0 (qD rfl (qA g1 (qD rfl (qD g2 (qD (by rw [ext,qAZ,qAP];rfl) rfl)))))
  ·obtain ⟨r,r1,r2,n0,h0⟩:=qT4 true t ht (by omega)
   have e:qF0 (45::t)=(t.all qBN&&okV 1 (-((qAp 0 t:Nat):Int)) em):=by
    unfold qF0 qSV
    rw [nt,nv,decide_eq_true ht,Bool.true_and]
   rw [if_pos rfl] at r1 r2
   refine ⟨r,by rw [e];exact r1,fun h=>by rw [nv];exact r2 (by rw [r1,←e];exact h),n0+1,fun n hn=>?_⟩
   obtain ⟨k,rfl,hm⟩:=up1 hn
   obtain ⟨v,lp,fin⟩:=h0 k (by omega)
   rw [←ext] at lp
   exact qD g0 (qD rfl (qA g1 (qD rfl (qD g2 (qO (by rw [ext,beq_eq_false_iff_ne,qAZ,qAP];exact ht) (qA lp fin))))))
 ·have c45:((c.toNat:Int)==45)=false:=by
   rw [beq_eq_false_iff_ne];intro e
   exact hc (UInt8.toNat_inj.1 (show c.toNat=45 by omega))
  have hh:¬(c::t).head?=some 45:=by simpa using hc
  have nt:qIJ (c::t)=c::t:=by unfold qIJ;rw [if_neg hh]
  have nv:qLn (c::t)=((qAp 0 (c::t):Nat):Int):=by unfold qLn;rw [if_neg hh,nt]
  obtain ⟨r,r1,r2,n0,h0⟩:=qT4 false (c::t) (by simp) (by simp only [List.length_cons];omega)
  have e:qF0 (c::t)=((c::t).all qBN&&okV 1 (((qAp 0 (c::t):Nat):Int)) em):=by
   unfold qF0 qSV
   rw [nt,nv,decide_eq_true (by simp),Bool.true_and]
  rw [if_neg (by simp)] at r1 r2
  refine ⟨r,by rw [e];exact r1,fun h=>by rw [nv];exact r2 (by rw [r1,←e];exact h),n0+1,fun n hn=>?_⟩
  obtain ⟨k,rfl,hm⟩:=up1 hn
  obtain ⟨v,lp,fin⟩:=h0 k (by omega)
  rw [←c45] at lp
  exact qD g0 (qD rfl (qA g1 (qO c45 (qO (by rw [beq_eq_false_iff_ne,qAZ,qAP];simp) (qA lp fin)))))
def qG4 (s:ByteArray):ByteArray×Bool:=
 if qDZ s 200=false then (⟨#[]⟩,false) else if s.toList= [] then (⟨#[]⟩,true) else
 if s.toList.head?=some 61 then (if (qBH (BR s.toList.tail)).2=true∧(qDw (qBH (BR s.toList.tail)).1).toList≠ []∧(qDw (qBH (BR s.toList.tail)).1).size<200 then (⟨#[61]⟩++qDw (qBH (BR s.toList.tail)).1,true) else (⟨#[]⟩,false)) else
 if qF0 s.toList=true then (qIH (qLn s.toList),true) else
 if (qj s).2.2.2=true then (s,true) else
 if s.size=200 then (⟨#[]⟩,false) else (⟨#[39]⟩++s,true)
theorem qUT (t:ByteArray):Ev (qB5 · ((qBH t).1.map qW)) (qDw (qBH t).1):=qMM _ (by have:=(qLm t).1;omega) (qJh (qLm t).2)
theorem qUU (t:ByteArray):Ev (qCC · ((qBH t).1.map qW)) (qDw (qBH t).1):=qMN _ (by have:=(qLm t).1;omega) (qJh (qLm t).2)
theorem qRl (l:List Nd):(qDw l).size≤200:=by
 unfold qDw
 split
 ·split
  ·decide
  ·omega
 ·decide
theorem qF1 {s:ByteArray} (h:s.toList≠ []):(s.toList==(⟨#[]⟩:ByteArray).toList)=false:=by rw [qAP];exact beq_eq_false_iff_ne.2 h
theorem qPX {s:ByteArray} (h:s.toList= []):(s.toList==(⟨#[]⟩:ByteArray).toList)=true:=by rw [qAP];exact beq_iff_eq.2 h
theorem qT6 {s:ByteArray} (h:(qj s).2.2.2=true):okV (qj s).1 (qj s).2.1 (qj s).2.2.1=true∧(qCg (qj s).1 (qj s).2.1 (qj s).2.2.1)=s:=by
 unfold qj at h⊢
 split at h
 ·rename_i hc
  rw [if_pos hc]
  exact ⟨hc.1,qFt hc.2⟩
 ·cases h
theorem qXP {s:ByteArray} (h:qDZ s 200=true):okV 2 0 s=true:=by
 unfold okV
 rw [if_pos rfl,h]
 rfl
theorem qNK {s:ByteArray} (h:qDZ s 200=true):s.size≤200:=by have:=qL0 h;rw [qAa] at this;exact this
theorem qVq (s:ByteArray):(qCg 2 0 s).size=s.size+1:=by
 have e:qCg 2 0 s=⟨#[39]⟩++s:=rfl
 rw [e,ByteArray.size_append]
 show 1+s.size=_
 omega
theorem qVH {s:ByteArray} (h:(qj s).2.2.2=true):(qj s).2.2.1.size≤1000:=by
 obtain ⟨h1,h2⟩:=qT6 h
 unfold okV at h1
 split at h1
 ·simp only [Bool.and_eq_true] at h1
  have:=qNK h1.2;omega
 ·simp only [Bool.and_eq_true,beq_iff_eq] at h1
  have:=congrArg List.length h1.1
  rw [qAa] at this
  simp only [List.length_nil] at this
  omega
theorem qQN (s:ByteArray) (hb:s.size≤140737488355328):Ev (qFe · s) (qG4 s):=by
 obtain ⟨n1,h1⟩:=qJX s hb
 unfold qG4
 cases hp:qDZ s 200 with
 |false=>
  rw [if_pos rfl]
  refine ⟨n1+1,fun n hn=>?_⟩
  obtain ⟨k,rfl,hm⟩:=up1 hn
  exact qA (h1 k (by omega)) (qD (qDS hp) rfl)
 |true=>
  rw [if_neg (by simp)]
  have hsz:=qNK hp
  by_cases h0:s.toList= []
  ·rw [if_pos h0]
   refine ⟨n1+1,fun n hn=>?_⟩
   obtain ⟨k,rfl,hm⟩:=up1 hn
   exact qA (h1 k (by omega)) (qO (qA6 hp) (qD (qPX h0) rfl))
  ·rw [if_neg h0]
   obtain ⟨c,t,hct⟩:∃c t,s.toList=c::t:=by
    cases h:s.toList with
    |nil=>exact absurd h h0
    |cons c t=>exact ⟨c,t,rfl⟩
   have g1:s.toList[((0:Int)).toNat]?=some c:=by rw [hct];rfl
   have hl:s.size=t.length+1:=by rw [←qAa,hct];rfl
   by_cases h61:s.toList.head?=some 61
   ·rw [if_pos h61]
    have hc:c=61:=by rw [hct] at h61;simpa using h61
    subst hc
    have ext:s.extract ((1:Int)).toNat (((s.size:Nat):Int)).toNat=BR s.toList.tail:=by
     conv=>lhs;rw [←qJg s]
     rw [qGI,qc,hct]
     simp
    obtain ⟨n2,h2⟩:=qHG (BR s.toList.tail) (by rw [qc,hct];simp;omega)
    obtain ⟨n3,h3⟩:=qUT (BR s.toList.tail)
    rw [←ext] at h2 h3⊢
    have fz:=qRl (qBH (s.extract ((1:Int)).toNat (((s.size:Nat):Int)).toNat)).1
    have w1:IntKind.i64.wrap (((qDw (qBH (s.extract ((1:Int)).toNat (((s.size:Nat):Int)).toNat)).1).size:Int)+1)=((qDw (qBH (s.extract ((1:Int)).toNat (((s.size:Nat):Int)).toNat)).1).size:Int)+1:=qT (by omega)
    refine ⟨n1+n2+n3+1,fun n hn=>?_⟩
    obtain ⟨k,rfl,hm⟩:=up1 hn
    refine qA (h1 k (by omega)) (qO (qA6 hp) (qO (qF1 h0) (qD rfl (qA g1 (qD rfl (qD (decide_eq_true ⟨by decide,by omega,Int.le_refl _⟩) (qA (h2 k (by omega)) (qA (h3 k (by omega)) ?_))))))))
    by_cases hr:(qBH (s.extract ((1:Int)).toNat (((s.size:Nat):Int)).toNat)).2=true
    ·refine qO (qA6 hr) ?_
     by_cases he:(qDw (qBH (s.extract ((1:Int)).toNat (((s.size:Nat):Int)).toNat)).1).toList= []
     ·rw [if_neg (fun h=>h.2.1 he)]
      exact qD (qPX he) rfl
     ·refine qO (qF1 he) ?_
      by_cases hz:(qDw (qBH (s.extract ((1:Int)).toNat (((s.size:Nat):Int)).toNat)).1).size<200
      ·rw [if_pos ⟨hr,he,hz⟩]
       exact qO (decide_eq_false (by rw [w1];omega)) (qD (decide_eq_true (by show 1+(qDw (qBH (s.extract ((1:Int)).toNat (((s.size:Nat):Int)).toNat)).1).size≤9223372036854775807;omega)) rfl)
      ·rw [if_neg (fun h=>hz h.2.2)]
       exact qD (decide_eq_true (by rw [w1];omega)) rfl
    ·rw [if_neg (fun h=>hr h.1)]
     exact qD (qDS (by rw [Bool.eq_false_iff];exact hr)) rfl
   ·rw [if_neg h61]
    have hc:((c.toNat:Int)==61)=false:=by
     rw [beq_eq_false_iff_ne];intro e
     refine h61 ?_
     rw [hct,show c=61 from UInt8.toNat_inj.1 (show c.toNat=61 by omega)];rfl
    obtain ⟨r,r1,r2,n2,h2⟩:=qT5 s.toList h0 (by rw [qAa];omega)
    rw [qJg] at h2
    obtain ⟨n3,h3⟩:=qIY s (by omega)
    cases hn:qF0 s.toList with
    |true=>
     rw [if_pos rfl]
     have er:=r2 hn
     subst er
     have hok:okV 1 (qLn s.toList) em=true:=by unfold qF0 at hn;simp only [Bool.and_eq_true] at hn;exact hn.2
     obtain ⟨n4,h4⟩:=qEP 1 (qLn s.toList) em (by decide)
     rw [if_pos hok] at h4
     refine ⟨n1+n2+n4+1,fun n hn=>?_⟩
     obtain ⟨k,rfl,hm⟩:=up1 hn
     exact qA (h1 k (by omega)) (qO (qA6 hp) (qO (qF1 h0) (qD rfl (qA g1 (qO hc (qA (h2 k (by omega)) (qD rfl (qA (h4 k (by omega)) rfl))))))))
    |false=>
     rw [if_neg (by simp)]
     have rf:r.2.2.2=false:=by rw [r1];exact hn
     by_cases hv:(qj s).2.2.2=true
     ·rw [if_pos hv]
      obtain ⟨v1,v2⟩:=qT6 hv
      obtain ⟨n4,h4⟩:=qEP (qj s).1 (qj s).2.1 (qj s).2.2.1 (by have:=qVH hv;omega)
      rw [if_pos v1,v2] at h4
      refine ⟨n1+n2+n3+n4+1,fun n hn=>?_⟩
      obtain ⟨k,rfl,hm⟩:=up1 hn
      exact qA (h1 k (by omega)) (qO (qA6 hp) (qO (qF1 h0) (qD rfl (qA g1 (qO hc (qA (h2 k (by omega)) (qO rf (qA (h3 k (by omega)) (qO (qA6 hv) (qA (h4 k (by omega)) (qO (decide_eq_false (by omega)) rfl)))))))))))
     ·rw [if_neg hv]
      obtain ⟨n4,h4⟩:=qEP 2 0 s (by omega)
      rw [if_pos (qXP hp)] at h4
      have vz:=qVq s
      refine ⟨n1+n2+n3+n4+1,fun n hn=>?_⟩
      obtain ⟨k,rfl,hm⟩:=up1 hn
      refine qA (h1 k (by omega)) (qO (qA6 hp) (qO (qF1 h0) (qD rfl (qA g1 (qO hc (qA (h2 k (by omega)) (qO rf (qA (h3 k (by omega)) (qD (qDS (by rw [Bool.eq_false_iff];exact hv)) (qA (h4 k (by omega)) ?_))))))))))
      by_cases hz:s.size=200
      ·rw [if_pos hz]
       exact qD (decide_eq_true (by omega)) rfl
      ·rw [if_neg hz]
       exact qO (decide_eq_false (by omega)) rfl
theorem qT7 (X:ByteArray):Ev (qGt · ((qBH X).1.map qW)) (⟨#[61]⟩++qDw (qBH X).1,decide ((qDw (qBH X).1).toList≠ [])&&decide ((qDw (qBH X).1).size<200)):=by
 obtain ⟨n1,h1⟩:=qUU X
 have fz:=qRl (qBH X).1
 refine ⟨n1+1,fun n hn=>?_⟩
 obtain ⟨k,rfl,hm⟩:=up1 hn
 refine qA (h1 k (by omega)) (qD (decide_eq_true (by show 1+(qDw (qBH X).1).size≤9223372036854775807;omega)) ?_)
 by_cases he:(qDw (qBH X).1).toList= []
 ·refine qO (qA6 (qPX he)) ?_
  rw [qC,decide_eq_false (fun h=>h he),Bool.false_and]
 ·refine qD (qDS (qF1 he)) ?_
  rw [qC,decide_eq_true he,Bool.true_and]
  have e:decide (((qDw (qBH X).1).size:Int)<200)=decide ((qDw (qBH X).1).size<200):=by rw [decide_eq_decide];omega
  exact congrArg (fun b:Bool=>some ((⟨#[61]⟩:ByteArray)++qDw (qBH X).1,b)) e
theorem qQO (s:ByteArray) (hb:s.size≤140737488355328):Ev (qH3 · s) (qG4 s):=by
 obtain ⟨n1,h1⟩:=qKV s 200 hb
 unfold qG4
 cases hp:qDZ s 200 with
 |false=>
  rw [if_pos rfl]
  have h0:s.toList≠ []:=fun e=>by
   have:qDZ s 200=true:=by
    unfold qDZ
    have hz:s.size=0:=by rw [←qAa,e];rfl
    rw [e,hz];rfl
   rw [hp] at this;cases this
  refine ⟨n1+1,fun n hn=>?_⟩
  obtain ⟨k,rfl,hm⟩:=up1 hn
  refine qA (h1 k (by omega)) (qD (qDS hp) ?_)
  rw [qC,qF1 h0]
 |true=>
  rw [if_neg (by simp)]
  have hsz:=qNK hp
  by_cases h0:s.toList= []
  ·rw [if_pos h0]
   refine ⟨n1+1,fun n hn=>?_⟩
   obtain ⟨k,rfl,hm⟩:=up1 hn
   refine qA (h1 k (by omega)) (qO (qA6 hp) (qD (qPX h0) ?_))
   rw [qC,qPX h0]
  ·rw [if_neg h0]
   obtain ⟨n2,h2⟩:=qFw s 61
   by_cases h61:s.toList.head?=some 61
   ·rw [if_pos h61]
    rw [if_pos h61] at h2
    obtain ⟨n3,h3⟩:=qHF (BR s.toList.tail) (by rw [qc,List.length_tail,qAa];omega)
    obtain ⟨n4,h4⟩:=qT7 (BR s.toList.tail)
    change ∀n,n2≤n→q7 n s ⟨#[61]⟩=some (BR s.toList.tail,true) at h2
    generalize BR s.toList.tail=X at h2 h3 h4⊢
    refine ⟨n1+n2+n3+n4+1,fun n hn=>?_⟩
    obtain ⟨k,rfl,hm⟩:=up1 hn
    have h4:=h4 k (by omega)
    refine qA (h1 k (by omega)) (qO (qA6 hp) (qO (qF1 h0) (qA (h2 k (by omega)) (qD rfl (qA (h3 k (by omega)) (qA h4 ?_))))))
    by_cases hr:(qBH X).2=true
    ·refine qO (qA6 hr) ?_
     by_cases he:(qDw (qBH X).1).toList≠ []∧(qDw (qBH X).1).size<200
     ·rw [if_pos ⟨hr,he⟩]
      exact qO (qA6 (by simp only;rw [decide_eq_true he.1,decide_eq_true he.2];rfl)) rfl
     ·rw [if_neg (fun h=>he h.2)]
      exact qD (qDS (by simp only;rw [Bool.eq_false_iff];intro e;simp only [Bool.and_eq_true,decide_eq_true_eq] at e;exact he e)) rfl
    ·rw [if_neg (fun h=>hr h.1)]
     exact qD (qDS (by rw [Bool.eq_false_iff];exact hr)) rfl
   ·rw [if_neg h61]
    rw [if_neg h61] at h2
    obtain ⟨n3,h3⟩:=qIX s (by omega)
    obtain ⟨n4,h4⟩:=qT2 s.toList (by rw [qAa];omega)
    rw [qJg] at h4
    have fin:∀k,n3≤k→(Tr.opt (qf k s) fun r=>(.ask (r.2.2.2) (.done (s,true)) (.ask (((s.size:Int)==(200:Int))) (.done ((⟨#[]⟩:ByteArray),false)) (.ask (decide ((⟨#[39]⟩:ByteArray).size+s.size≤9223372036854775807)) (.done (((⟨#[39]⟩:ByteArray)++s),true)) .fail)))).run=some (if (qj s).2.2.2=true then (s,true) else if s.size=200 then ((⟨#[]⟩:ByteArray),false) else (⟨#[39]⟩++s,true)):=fun k hk=>by
     refine qA (h3 k hk) ?_
     by_cases hv:(qj s).2.2.2=true
     ·rw [if_pos hv];exact qD hv rfl
     ·rw [if_neg hv]
      refine qO (by rw [Bool.eq_false_iff];exact hv) ?_
      by_cases hz:s.size=200
      ·rw [if_pos hz];exact qD (beq_iff_eq.2 (by omega)) rfl
      ·rw [if_neg hz]
       exact qO (beq_eq_false_iff_ne.2 (by omega)) (qD (decide_eq_true (by show 1+s.size≤9223372036854775807;omega)) rfl)
    have hpi:∀k,qBB (k+1) s 10 64=zM s 10 64:=fun k=>rfl
    have hL:zM s 10 64=(match Lib.parseIntB 64 s.toList with
     | .ok v=>some (.inl v)
     | .range=>some (.inr (Lib.intSat 64 s.toList))
     |_=>some (.inr 0)):=by
     unfold zM
     rw [if_pos ⟨rfl,rfl,by omega⟩,Go.Lib.toList_data]
     cases Lib.parseIntB 64 s.data.toList<;>rfl
    rcases hq:Lib.parseIntB 64 s.toList with v|_|_
    rotate_left
    ·have hn:qF0 s.toList=false:=by
      rw [Bool.eq_false_iff];intro e
      have hd:qSV s.toList=true:=by unfold qF0 at e;simp only [Bool.and_eq_true] at e;exact e.1
      have:=(qPI hd).2 e
      rw [hq] at this;cases this
     rw [hn,if_neg (by simp)]
     rw [hq] at hL
     refine ⟨n1+n2+n3+2,fun n hn=>?_⟩
     obtain ⟨k,rfl,hm⟩:=up1 hn
     obtain ⟨k,rfl,hm⟩:=up1 (show n1+n2+n3+1≤k by omega)
     exact qA (h1 (k+1) (by omega)) (qO (qA6 hp) (qO (qF1 h0) (qA (h2 (k+1) (by omega)) (qO rfl (qA ((hpi k).trans hL) (qO rfl (fin (k+1) (by omega))))))))
    ·have hn:qF0 s.toList=false:=by
      rw [Bool.eq_false_iff];intro e
      have hd:qSV s.toList=true:=by unfold qF0 at e;simp only [Bool.and_eq_true] at e;exact e.1
      have:=(qPI hd).2 e
      rw [hq] at this;cases this
     rw [hn,if_neg (by simp)]
     rw [hq] at hL
     refine ⟨n1+n2+n3+2,fun n hn=>?_⟩
     obtain ⟨k,rfl,hm⟩:=up1 hn
     obtain ⟨k,rfl,hm⟩:=up1 (show n1+n2+n3+1≤k by omega)
     exact qA (h1 (k+1) (by omega)) (qO (qA6 hp) (qO (qF1 h0) (qA (h2 (k+1) (by omega)) (qO rfl (qA ((hpi k).trans hL) (qO rfl (fin (k+1) (by omega))))))))
    ·rw [hq] at hL
     cases hd:qSV s.toList with
     |false=>
      have hn:qF0 s.toList=false:=by unfold qF0;rw [hd];rfl
      rw [hn,if_neg (by simp)]
      refine ⟨n1+n2+n3+n4+2,fun n hn=>?_⟩
      obtain ⟨k,rfl,hm⟩:=up1 hn
      obtain ⟨k,rfl,hm⟩:=up1 (show n1+n2+n3+n4+1≤k by omega)
      have h4:=h4 (k+1) (by omega)
      rw [hd] at h4
      exact qA (h1 (k+1) (by omega)) (qO (qA6 hp) (qO (qF1 h0) (qA (h2 (k+1) (by omega)) (qO rfl (qA ((hpi k).trans hL) (qD rfl (qA h4 (qO rfl (fin (k+1) (by omega))))))))))
     |true=>
      have hv:=(qPI hd).1 v hq
      subst hv
      obtain ⟨n5,h5⟩:=qLY (qLn s.toList)
      obtain ⟨n6,h6⟩:=qG1 1 (qLn s.toList) em (by decide)
      have ei:qF0 s.toList=okV 1 (qLn s.toList) em:=by unfold qF0;rw [hd,Bool.true_and]
      rw [ei]
      cases ho:okV 1 (qLn s.toList) em with
      |true=>
       rw [if_pos rfl]
       have hb2:=qWt.1 ho
       obtain ⟨n7,h7⟩:=qG3 (qLn s.toList) (by omega)
       refine ⟨n1+n2+n3+n4+n5+n6+n7+2,fun n hn=>?_⟩
       obtain ⟨k,rfl,hm⟩:=up1 hn
       obtain ⟨k,rfl,hm⟩:=up1 (show n1+n2+n3+n4+n5+n6+n7+1≤k by omega)
       have h4:=h4 (k+1) (by omega)
       rw [hd] at h4
       exact qA (h1 (k+1) (by omega)) (qO (qA6 hp) (qO (qF1 h0) (qA (h2 (k+1) (by omega)) (qO rfl (qA ((hpi k).trans hL) (qD rfl (qA h4 (qD rfl (qA (h5 (k+1) (by omega)) (qA (h6 (k+1) (by omega)) (qD ho (qA (h7 (k+1) (by omega)) rfl))))))))))))
      |false=>
       rw [if_neg (by simp)]
       refine ⟨n1+n2+n3+n4+n5+n6+2,fun n hn=>?_⟩
       obtain ⟨k,rfl,hm⟩:=up1 hn
       obtain ⟨k,rfl,hm⟩:=up1 (show n1+n2+n3+n4+n5+n6+1≤k by omega)
       have h4:=h4 (k+1) (by omega)
       rw [hd] at h4
       exact qA (h1 (k+1) (by omega)) (qO (qA6 hp) (qO (qF1 h0) (qA (h2 (k+1) (by omega)) (qO rfl (qA ((hpi k).trans hL) (qD rfl (qA h4 (qD rfl (qA (h5 (k+1) (by omega)) (qA (h6 (k+1) (by omega)) (qO ho (fin (k+1) (by omega)))))))))))))
abbrev Cl:=Int×Int×ByteArray
def qU (c:Cl):List PV:= [.i .i64 c.1,.i .i64 c.2.1,.s c.2.2]
theorem qWN {rows:List (List PV)} (h:∀e∈rows,okR [.i .i64,.i .i64,.s] e):∃l:List Cl,rows=l.map qU∧∀c∈l,c.2.2.size≤140737488351232:=by
 refine qRO (fun e h=>?_) h
 obtain ⟨c0,t0,rfl,p0,h⟩:=zA4 h
 obtain ⟨c1,t1,rfl,p1,h1⟩:=zA4 h
 obtain ⟨c2,t2,rfl,p2,h2⟩:=zA4 h1
 obtain rfl:=zDb h2
 obtain ⟨x0,rfl,_⟩:=zHP p0
 obtain ⟨x1,rfl,_⟩:=zHP p1
 obtain ⟨x2,rfl,w⟩:=zKo p2
 exact ⟨(x0,x1,x2),rfl,w⟩
theorem qUV {l:List Cl} {i:Nat} {e:List PV} (h:(l.map qU)[i]?=some e):∃c,l[i]?=some c∧e=qU c:=by
 rw [List.getElem?_map] at h
 obtain ⟨c,h1,h2⟩:=Option.map_eq_some_iff.1 h
 exact ⟨c,h1,h2.symm⟩
def qMO (s:ByteArray):Bool:=(qG4 s).2&&(decide (s.toList≠ [])&&((qG4 s).1.toList==s.toList))
def qJA (l:List Cl) (i:Nat) (c:Cl):Bool:=match i with
 |0=>true
 |j+1=>match l[j]? with
  |some p=>qH7 p.1 p.2.1 c.1 c.2.1
  |none=>true
def qJB (l:List Cl):Nat→List Cl→Bool
 |_,[]=>true
 |i,c::r=>qBY c.1 c.2.1&&(qMO c.2.2&&qJA l i c)&&qJB l (i+1) r
def qD9 (l:List Cl):Bool:=qJB l 0 l&&decide ((l.length:Int)≤120)
theorem qT8 (s:ByteArray) (hb:s.size≤140737488355328):Ev (qEC · s) (qMO s):=by
 obtain ⟨n1,h1⟩:=qQO s hb
 refine ⟨n1+1,fun n hn=>?_⟩
 obtain ⟨k,rfl,hm⟩:=up1 hn
 refine qA (h1 k (by omega)) ?_
 unfold qMO
 by_cases h2:(qG4 s).2=true
 ·refine qD h2 ?_
  rw [h2,Bool.true_and]
  by_cases h3:s.toList= []
  ·refine qO (qA6 (qPX h3)) ?_
   rw [qC,decide_eq_false (fun e=>e h3),Bool.false_and]
  ·refine qD (qDS (qF1 h3)) ?_
   rw [qC,decide_eq_true h3,Bool.true_and]
 ·have h2:(qG4 s).2=false:=by rw [Bool.eq_false_iff];exact h2
  refine qO h2 ?_
  rw [qC,h2,Bool.false_and]
structure SrcAt (n:Nat) (c:Cl):Prop where
 r1:qAT n c.1 c.2.1=some (qBY c.1 c.2.1)
 r2:qCG n c.1 c.2.1=some (qBY c.1 c.2.1)
 i1:qFe n c.2.2=some (qG4 c.2.2)
 i2:qEC n c.2.2=some (qMO c.2.2)
theorem qVr (c:Cl) (hb:c.2.2.size≤140737488351232):∃n0,∀n,n0≤n→SrcAt n c:=by
 obtain ⟨n1,h1⟩:=qDa c.1 c.2.1
 obtain ⟨n2,h2⟩:=qEJ c.1 c.2.1
 obtain ⟨n3,h3⟩:=qQN c.2.2 (by omega)
 obtain ⟨n4,h4⟩:=qT8 c.2.2 (by omega)
 exact ⟨n1+n2+n3+n4,fun n hn=>⟨h1 n (by omega),h2 n (by omega),h3 n (by omega),h4 n (by omega)⟩⟩
theorem qTV:∀(l:List Cl),(∀c∈l,c.2.2.size≤140737488351232)→∃n0,∀n,n0≤n→∀c∈l,SrcAt n c
 | [],_=>⟨0,fun n _ c hc=>by cases hc⟩
 |a::l,h=>by
  obtain ⟨n1,h1⟩:=qVr a (h a (List.mem_cons_self ..))
  obtain ⟨n2,h2⟩:=qTV l fun c hc=>h c (List.mem_cons_of_mem _ hc)
  exact ⟨n1+n2,fun n hn c hc=>by
   rcases List.mem_cons.1 hc with rfl|hc
   ·exact h1 n (by omega)
   ·exact h2 n (by omega) c hc⟩
theorem qOB (n:Nat) (l:List Cl) (hb:l.length≤140737488351232) (hs:∀c∈l,SrcAt n c) (ha:∀a b c d,qET n a b c d=some (qH7 a b c d)):
  ∀(m i M:Nat),l.length=i+m→m+1≤M→zC (qFf n) M (l.map qU,(i:Int))=some (if qJB l i (l.drop i)=true then .inr () else .inl false)
 |m,i,0,h1,h2=>by omega
 |0,i,M+1,h1,h2=>by
  rw [List.drop_eq_nil_of_le (by omega)]
  exact qP (qO (decide_eq_false (show ¬((i:Int)<((l.map qU).length:Int)) by rw [List.length_map];omega)) rfl)
 |m+1,i,M+1,h1,h2=>by
  have hl:i<l.length:=by omega
  have hg:=List.getElem?_eq_getElem hl
  have hm:=List.getElem_mem hl
  rw [qEI hg]
  generalize l[i]=c at hg hm
  have S:=hs c hm
  have hw:IntKind.i64.wrap ((i:Int)+1)=((i+1:Nat):Int):=by rw [qT (by omega)];omega
  have g1:decide ((i:Int)<((l.map qU).length:Int))=true:=decide_eq_true (by rw [List.length_map];omega)
  have g2:decide (0≤(i:Int)∧(i:Int)<((l.map qU).length:Int))=true:=decide_eq_true ⟨by omega,by rw [List.length_map];omega⟩
  have g3:(l.map qU)[((i:Int)).toNat]?=some (qU c):=by rw [Int.toNat_natCast,List.getElem?_map,hg];rfl
  have k3:decide ((qU c).length=3)=true:=rfl
  have cs:zY (qU c) 2=some c.2.2:=rfl
  have c0:zB .i64 (qU c) 0=some c.1:=rfl
  have c1:zB .i64 (qU c) 1=some c.2.1:=rfl
  have ih:=qOB n l hb hs ha m (i+1) M (by omega) (by omega)
  unfold qJB
  by_cases hR:qBY c.1 c.2.1=true
  rotate_left
  ·have hR:qBY c.1 c.2.1=false:=by rw [Bool.eq_false_iff];exact hR
   rw [hR,Bool.false_and,Bool.false_and,if_neg (by simp)]
   exact qP (qD g1 (qD g2 (qA g3 (qD k3 (qA cs (qA S.i1 (qD g2 (qA g3 (qD k3 (qA c0 (qA c1 (qA S.r1 (qD (qDS hR) rfl)))))))))))))
  rw [hR,Bool.true_and]
  by_cases hI:(qG4 c.2.2).2=true
  rotate_left
  ·have hI:(qG4 c.2.2).2=false:=by rw [Bool.eq_false_iff];exact hI
   have e:qMO c.2.2=false:=by unfold qMO;rw [hI];rfl
   rw [e,Bool.false_and,Bool.false_and,if_neg (by simp)]
   exact qP (qD g1 (qD g2 (qA g3 (qD k3 (qA cs (qA S.i1 (qD g2 (qA g3 (qD k3 (qA c0 (qA c1 (qA S.r1 (qO (qA6 hR) (qD (qDS hI) rfl))))))))))))))
  by_cases hE:c.2.2.toList= []
  ·have e:qMO c.2.2=false:=by unfold qMO;rw [decide_eq_false (fun h=>h hE),Bool.false_and,Bool.and_false]
   rw [e,Bool.false_and,Bool.false_and,if_neg (by simp)]
   exact qP (qD g1 (qD g2 (qA g3 (qD k3 (qA cs (qA S.i1 (qD g2 (qA g3 (qD k3 (qA c0 (qA c1 (qA S.r1 (qO (qA6 hR) (qO (qA6 hI) (qD g2 (qA g3 (qD k3 (qA cs (qD (qPX hE) rfl)))))))))))))))))))
  by_cases hQ:(qG4 c.2.2).1.toList=c.2.2.toList
  rotate_left
  ·have e:qMO c.2.2=false:=by unfold qMO;rw [beq_eq_false_iff_ne.2 hQ,Bool.and_false,Bool.and_false]
   rw [e,Bool.false_and,Bool.false_and,if_neg (by simp)]
   exact qP (qD g1 (qD g2 (qA g3 (qD k3 (qA cs (qA S.i1 (qD g2 (qA g3 (qD k3 (qA c0 (qA c1 (qA S.r1 (qO (qA6 hR) (qO (qA6 hI) (qD g2 (qA g3 (qD k3 (qA cs (qO (qF1 hE) (qD g2 (qA g3 (qD k3 (qA cs (qD (qDS (beq_eq_false_iff_ne.2 hQ)) rfl))))))))))))))))))))))))
  have e:qMO c.2.2=true:=by unfold qMO;rw [hI,decide_eq_true hE,beq_iff_eq.2 hQ];rfl
  rw [e,Bool.true_and]
  cases i with
  |zero=>
   rw [show qJA l 0 c=true from rfl,Bool.true_and]
   rw [qQ (v':=(l.map qU,((0+1:Nat):Int))) (by
    refine qD g1 (qD g2 (qA g3 (qD k3 (qA cs (qA S.i1 (qD g2 (qA g3 (qD k3 (qA c0 (qA c1 (qA S.r1 (qO (qA6 hR) (qO (qA6 hI) (qD g2 (qA g3 (qD k3 (qA cs (qO (qF1 hE) (qD g2 (qA g3 (qD k3 (qA cs (qO (qA6 (beq_iff_eq.2 hQ)) (qO rfl ?_))))))))))))))))))))))))
    rw [qC,hw])]
   exact ih
  |succ j=>
   have hj:j<l.length:=by omega
   have hgj:=List.getElem?_eq_getElem hj
   generalize l[j]=p at hgj
   have wj:IntKind.i64.wrap (((j+1:Nat):Int)-1)=(j:Int):=by rw [qT (by omega)];omega
   have a1:decide (((j+1:Nat):Int)>0)=true:=decide_eq_true (by omega)
   have j2:decide (0≤IntKind.i64.wrap (((j+1:Nat):Int)-1)∧IntKind.i64.wrap (((j+1:Nat):Int)-1)<((l.map qU).length:Int))=true:=decide_eq_true (by rw [wj,List.length_map];omega)
   have j3:(l.map qU)[(IntKind.i64.wrap (((j+1:Nat):Int)-1)).toNat]?=some (qU p):=by rw [wj,Int.toNat_natCast,List.getElem?_map,hgj];rfl
   have p0:zB .i64 (qU p) 0=some p.1:=rfl
   have p1:zB .i64 (qU p) 1=some p.2.1:=rfl
   have h5:=ha p.1 p.2.1 c.1 c.2.1
   have ep:qJA l (j+1) c=qH7 p.1 p.2.1 c.1 c.2.1:=by unfold qJA;simp only [hgj]
   rw [ep]
   by_cases hA:qH7 p.1 p.2.1 c.1 c.2.1=true
   ·rw [hA,Bool.true_and]
    rw [qQ (v':=(l.map qU,((j+1+1:Nat):Int))) (by
     refine qD g1 (qD g2 (qA g3 (qD k3 (qA cs (qA S.i1 (qD g2 (qA g3 (qD k3 (qA c0 (qA c1 (qA S.r1 (qO (qA6 hR) (qO (qA6 hI) (qD g2 (qA g3 (qD k3 (qA cs (qO (qF1 hE) (qD g2 (qA g3 (qD k3 (qA cs (qO (qA6 (beq_iff_eq.2 hQ)) (qD a1 (qD j2 (qA j3 (qD rfl (qA p0 (qA p1 (qD g2 (qA g3 (qD k3 (qA c0 (qA c1 (qA h5 (qO (qA6 hA) ?_))))))))))))))))))))))))))))))))))))
     rw [qC,hw])]
    exact ih
   ·have hA:qH7 p.1 p.2.1 c.1 c.2.1=false:=by rw [Bool.eq_false_iff];exact hA
    rw [hA,Bool.false_and,if_neg (by simp)]
    exact qP (qD g1 (qD g2 (qA g3 (qD k3 (qA cs (qA S.i1 (qD g2 (qA g3 (qD k3 (qA c0 (qA c1 (qA S.r1 (qO (qA6 hR) (qO (qA6 hI) (qD g2 (qA g3 (qD k3 (qA cs (qO (qF1 hE) (qD g2 (qA g3 (qD k3 (qA cs (qO (qA6 (beq_iff_eq.2 hQ)) (qD a1 (qD j2 (qA j3 (qD rfl (qA p0 (qA p1 (qD g2 (qA g3 (qD k3 (qA c0 (qA c1 (qA h5 (qD (qDS hA) rfl)))))))))))))))))))))))))))))))))))))
theorem qQP (l:List Cl) (hb:l.length≤140737488351232) (hs:∀c∈l,c.2.2.size≤140737488351232):Ev (qHg · (l.map qU)) (qD9 l):=by
 obtain ⟨n1,h1⟩:=qTV l hs
 refine ⟨n1+l.length+3,fun n hn=>?_⟩
 obtain ⟨m,rfl,hm⟩:=up1 hn
 have ha:∀a b c d,qET m a b c d=some (qH7 a b c d):=fun a b c d=>by
  obtain ⟨q,rfl⟩:∃q,m=q+1:=⟨m-1,by omega⟩
  simp only [qET,qHf,qC,qE,qH,qJ,qK,qM,Option.bind_some,qF,qG,qN]
  unfold qH7
  by_cases h:b<d
  ·simp [h]
  ·by_cases h':b=d
   ·subst h';simp
   ·simp [h,h']
 have h:=qOB m l hb (h1 m (by omega)) ha l.length 0 m (by omega) (by omega)
 simp only [Int.natCast_zero,List.drop_zero] at h
 unfold qD9
 by_cases h0:(l.length:Int)>120
 ·refine qD (decide_eq_true (by rw [List.length_map];exact h0)) ?_
  rw [qC,decide_eq_false (by omega),Bool.and_false]
 ·refine qO (decide_eq_false (by rw [List.length_map];exact h0)) (qA h ?_)
  rw [decide_eq_true (show (l.length:Int)≤120 by omega),Bool.and_true]
  cases qJB l 0 l<;>rfl
theorem qOC (n:Nat) (l:List Cl) (hb:l.length≤140737488351232) (hs:∀c∈l,SrcAt n c) (ha:∀p∈l,∀c∈l,qB7 n p.1 p.2.1 c.1 c.2.1=some (qD7 [qND p.2.1 c.2.1,qND p.1 c.1])):
  ∀(m i M:Nat),l.length=i+m→m+1≤M→zC (qFo n) M (l.map qU,l.map qU,(l.length:Int),(i:Int))=some (if qJB l i (l.drop i)=true then .inr (l.map qU) else .inl false)
 |m,i,0,h1,h2=>by omega
 |0,i,M+1,h1,h2=>by
  rw [List.drop_eq_nil_of_le (by omega)]
  exact qP (qO (decide_eq_false (show ¬((i:Int)<(l.length:Int)) by omega)) rfl)
 |m+1,i,M+1,h1,h2=>by
  have hl:i<l.length:=by omega
  have hg:=List.getElem?_eq_getElem hl
  have hm:=List.getElem_mem hl
  rw [qEI hg]
  generalize l[i]=c at hg hm
  have S:=hs c hm
  have hw:IntKind.i64.wrap ((i:Int)+1)=((i+1:Nat):Int):=by rw [qT (by omega)];omega
  have g1:decide ((i:Int)<(l.length:Int))=true:=decide_eq_true (by omega)
  have g2:decide (0≤(i:Int)∧(i:Int)<((l.map qU).length:Int))=true:=decide_eq_true ⟨by omega,by rw [List.length_map];omega⟩
  have g3:(l.map qU)[((i:Int)).toNat]?=some (qU c):=by rw [Int.toNat_natCast,List.getElem?_map,hg];rfl
  have k3:decide ((qU c).length=3)=true:=rfl
  have cs:zY (qU c) 2=some c.2.2:=rfl
  have c0:zB .i64 (qU c) 0=some c.1:=rfl
  have c1:zB .i64 (qU c) 1=some c.2.1:=rfl
  have ih:=qOC n l hb hs ha m (i+1) M (by omega) (by omega)
  unfold qJB
  by_cases hR:qBY c.1 c.2.1=true
  rotate_left
  ·have hR:qBY c.1 c.2.1=false:=by rw [Bool.eq_false_iff];exact hR
   rw [hR,Bool.false_and,Bool.false_and,if_neg (by simp)]
   exact qP (qD g1 (qD g2 (qA g3 (qD k3 (qA c0 (qA c1 (qA cs (qA S.r2 (qD (qDS hR) rfl)))))))))
  rw [hR,Bool.true_and]
  cases i with
  |zero=>
   rw [show qJA l 0 c=true from rfl,Bool.and_true]
   by_cases hS:qMO c.2.2=true
   ·rw [hS,Bool.true_and]
    rw [qQ (v':=(l.map qU,l.map qU,(l.length:Int),((0+1:Nat):Int))) (by
     refine qD g1 (qD g2 (qA g3 (qD k3 (qA c0 (qA c1 (qA cs (qA S.r2 (qO (qA6 hR) (qO rfl (qA S.i2 (qO (qA6 hS) ?_)))))))))))
     rw [qC,hw])]
    exact ih
   ·have hS:qMO c.2.2=false:=by rw [Bool.eq_false_iff];exact hS
    rw [hS,Bool.false_and,if_neg (by simp)]
    exact qP (qD g1 (qD g2 (qA g3 (qD k3 (qA c0 (qA c1 (qA cs (qA S.r2 (qO (qA6 hR) (qO rfl (qA S.i2 (qD (qDS hS) rfl))))))))))))
  |succ j=>
   have hj:j<l.length:=by omega
   have hgj:=List.getElem?_eq_getElem hj
   have hmj:=List.getElem_mem hj
   generalize l[j]=p at hgj hmj
   have wj:IntKind.i64.wrap (((j+1:Nat):Int)-1)=(j:Int):=by rw [qT (by omega)];omega
   have a1:decide (((j+1:Nat):Int)>0)=true:=decide_eq_true (by omega)
   have j2:decide (0≤IntKind.i64.wrap (((j+1:Nat):Int)-1)∧IntKind.i64.wrap (((j+1:Nat):Int)-1)<((l.map qU).length:Int))=true:=decide_eq_true (by rw [wj,List.length_map];omega)
   have j3:(l.map qU)[(IntKind.i64.wrap (((j+1:Nat):Int)-1)).toNat]?=some (qU p):=by rw [wj,Int.toNat_natCast,List.getElem?_map,hgj];rfl
   have p0:zB .i64 (qU p) 0=some p.1:=rfl
   have p1:zB .i64 (qU p) 1=some p.2.1:=rfl
   have h5:=ha p hmj c hm
   have h6:=qU3 p.1 p.2.1 c.1 c.2.1
   have ep:qJA l (j+1) c=qH7 p.1 p.2.1 c.1 c.2.1:=by unfold qJA;simp only [hgj]
   rw [ep]
   by_cases hA:qH7 p.1 p.2.1 c.1 c.2.1=true
   ·rw [hA] at h6
    rw [hA,Bool.and_true]
    by_cases hS:qMO c.2.2=true
    ·rw [hS,Bool.true_and]
     rw [qQ (v':=(l.map qU,l.map qU,(l.length:Int),((j+1+1:Nat):Int))) (by
      refine qD g1 (qD g2 (qA g3 (qD k3 (qA c0 (qA c1 (qA cs (qA S.r2 (qO (qA6 hR) (qD a1 (qD j2 (qA j3 (qD rfl (qA p0 (qA p1 (qA h5 (qO h6 (qA S.i2 (qO (qA6 hS) ?_))))))))))))))))))
      rw [qC,hw])]
     exact ih
    ·have hS:qMO c.2.2=false:=by rw [Bool.eq_false_iff];exact hS
     rw [hS,Bool.false_and,if_neg (by simp)]
     exact qP (qD g1 (qD g2 (qA g3 (qD k3 (qA c0 (qA c1 (qA cs (qA S.r2 (qO (qA6 hR) (qD a1 (qD j2 (qA j3 (qD rfl (qA p0 (qA p1 (qA h5 (qO h6 (qA S.i2 (qD (qDS hS) rfl)))))))))))))))))))
   ·have hA:qH7 p.1 p.2.1 c.1 c.2.1=false:=by rw [Bool.eq_false_iff];exact hA
    rw [hA] at h6
    rw [hA,Bool.and_false,Bool.false_and,if_neg (by simp)]
    exact qP (qD g1 (qD g2 (qA g3 (qD k3 (qA c0 (qA c1 (qA cs (qA S.r2 (qO (qA6 hR) (qD a1 (qD j2 (qA j3 (qD rfl (qA p0 (qA p1 (qA h5 (qD h6 rfl)))))))))))))))))
theorem qQQ (l:List Cl) (hb:l.length≤140737488351232) (hs:∀c∈l,c.2.2.size≤140737488351232):Ev (qH4 · (l.map qU)) (qD9 l):=by
 obtain ⟨n1,h1⟩:=qTV l hs
 obtain ⟨n3,h3⟩:=qA9 (F:=fun (pc:Cl×Cl) n=>qB7 n pc.1.1 pc.1.2.1 pc.2.1 pc.2.2.1) (f:=fun pc=>qD7 [qND pc.1.2.1 pc.2.2.1,qND pc.1.1 pc.2.1]) (l.flatMap fun p=>l.map fun c=>(p,c)) fun pc _=>qMK pc.1.1 pc.1.2.1 pc.2.1 pc.2.2.1
 refine ⟨n1+n3+l.length+3,fun n hn=>?_⟩
 obtain ⟨m,rfl,hm⟩:=up1 hn
 have h:=qOC m l hb (h1 m (by omega)) (fun p hp c hc=>h3 m (by omega) (p,c) (List.mem_flatMap.2 ⟨p,hp,List.mem_map.2 ⟨c,hc,rfl⟩⟩)) l.length 0 m (by omega) (by omega)
 simp only [Int.natCast_zero,List.drop_zero] at h
 rw [show (l.length:Int)=((l.map qU).length:Int) by rw [List.length_map]] at h
 unfold qD9
 refine qA h ?_
 cases qJB l 0 l with
 |true=>
  rw [if_pos rfl,Bool.true_and]
  show some (decide (((l.map qU).length:Int)≤120))=_
  rw [List.length_map]
 |false=>rfl
theorem qRm (n:Nat) (a b:Int) (s:ByteArray) (left:Int):∃r,qGM (n+1) a b s left=some r:=by
 simp only [qGM,qId,qC,qE,qH,qJ,qK,qM,Option.bind_some,qF,qG,qN]
 by_cases h:IntKind.i64.wrap (left-s.size)<0
 ·exact ⟨-1,by simp [h]⟩
 ·exact ⟨IntKind.i64.wrap (left-s.size),by simp [h]⟩
theorem qQR (l:List Cl) (hb:l.length≤140737488351232) (left:Int):∀n,l.length+5≤n→∃r,qFX n (l.map qU) left=some r:=by
 intro n hn
 obtain ⟨m,rfl,hm⟩:=up1 hn
 obtain ⟨q,rfl⟩:∃q,m=q+2:=⟨m-2,by omega⟩
 simp only [qFX,qHR,qC,qE,qH,qJ,qK,qM,Option.bind_some,qF,qG,qN]
 obtain ⟨r,h⟩:=qUa (B:=qCQ (q+2)) (rows:=l.map qU)
  (fun i e x he=>by
   obtain ⟨c,hc,rfl⟩:=qUV he
   have hi:i<l.length:=(List.getElem?_eq_some_iff.1 hc).1
   have hi':(i:Int)<l.length:=by omega
   have hw:IntKind.i64.wrap ((i:Int)+1)=(i:Int)+1:=qT (by omega)
   obtain ⟨r,hr⟩:=qRm (q+1) c.1 c.2.1 c.2.2 x
   by_cases h0:r<0
   ·exact .inr ⟨.inl (-1),by simp [qCQ,qC,qE,qH,qJ,qK,qM,Option.bind_some,qF,qG,qN,hi',hc,qU,zB,zY,hr,h0]⟩
   ·exact .inl ⟨r,by simp [qCQ,qC,qE,qH,qJ,qK,qM,Option.bind_some,qF,qG,qN,hi',hc,qU,zB,zY,hr,h0,hw]⟩)
  (fun x=>⟨.inr x,by simp [qCQ,qC,qE,qH,qJ,qK,qM,Option.bind_some,qF,qG,qN]⟩) l.length 0 (q+2) (IntKind.i64.wrap (left-l.length)) (by simp) (by omega)
 simp only [Int.natCast_zero] at h
 by_cases h0:IntKind.i64.wrap (left-l.length)<0
 ·exact ⟨-1,by simp [h0]⟩
 ·rcases r with r|r
  ·exact ⟨r,by simp [h0,h,qC,qE,qH,qJ,qK,qM,Option.bind_some,qF,qG,qN]⟩
  ·exact ⟨r,by simp [h0,h,qC,qE,qH,qJ,qK,qM,Option.bind_some,qF,qG,qN]⟩
theorem qRn (n:Nat) (a b:Int) (s:ByteArray):qGN (n+2) a b s=some (a,b,s):=by
 simp only [qGN,qIg,qEg,qHH,qC,qE,qH,qJ,qK,qM,Option.bind_some,qF,qG,qN]
theorem qQS (l:List Cl) (hb:l.length*32≤140737488351232):Ev (qCt · (l.map qU)) (l.length,l.map qU):=by
 refine ⟨l.length+5,fun n hn=>?_⟩
 obtain ⟨m,rfl,hm⟩:=up1 hn
 simp only [qCt,qHS,qC,qE,qH,qJ,qK,qM,Option.bind_some,qF,qG,qN]
 have h:=qTc (B:=qDD m) (rows:=l.map qU) (z:= [.i .i64 0,.i .i64 0,.s ⟨#[]⟩]) (r:=fun acc=>((l.map qU).length,acc)) (M:=m)
  (fun i acc e he ha hz=>by
   obtain ⟨c,hc,rfl⟩:=qUV he
   have hi:i<l.length:=(List.getElem?_eq_some_iff.1 hc).1
   have hi':(i:Int)<l.length:=by omega
   obtain ⟨q,rfl⟩:∃q,m=q+2:=⟨m-2,by omega⟩
   have hw:IntKind.i64.wrap ((i:Int)+1)=(i:Int)+1:=qT (by omega)
   have ha':acc.length=l.length:=by simpa using ha
   simp [qDD,qC,qE,qH,qJ,qK,qM,Option.bind_some,qF,qG,qN,hi',hc,qU,zB,zY,qRn,hz,ha',hw,zJ])
  (fun acc ha=>by
   have ha':acc.length=l.length:=by simpa using ha
   simp [qDD,qC,qE,qH,qJ,qK,qM,Option.bind_some,qF,qG,qN])
  (by simp;omega)
 simp only [List.length_map,Int.toNat_natCast] at h⊢
 rw [h]
 have h1:(32:Int)*(l.length:Int)≤140737488355328:=by omega
 have h2:(l.length:Int)≤9223372036854775807:=by omega
 simp [qC,qE,qH,qJ,qK,qM,Option.bind_some,qF,qG,qN,h1,h2]
theorem qRo (n:Nat) (a b:Int) (s:ByteArray):qGU (n+2) a b s a b s=some true:=by
 simp only [qGU,qI4,qEm,qHL,qC,qE,qH,qJ,qK,qM,Option.bind_some,qF,qG,qN]
 simp [qC,qE,qH,qJ,qK,qM,Option.bind_some,qF,qG,qN]
theorem qQT (l:List Cl) (hb:l.length≤140737488351232):Ev (qFs · (l.map qU) (l.map qU)) true:=by
 refine ⟨l.length+5,fun n hn=>?_⟩
 obtain ⟨m,rfl,hm⟩:=up1 hn
 simp only [qFs,qH6,qC,qE,qH,qJ,qK,qM,Option.bind_some,qF,qG,qN]
 have h:=qTB (B:=qDN m) (rows:=l.map qU) (r:= .inr ())
  (fun i e he=>by
   obtain ⟨c,hc,rfl⟩:=qUV he
   have hi:i<l.length:=(List.getElem?_eq_some_iff.1 hc).1
   have hi':(i:Int)<l.length:=by omega
   obtain ⟨q,rfl⟩:∃q,m=q+2:=⟨m-2,by omega⟩
   have hw:IntKind.i64.wrap ((i:Int)+1)=(i:Int)+1:=qT (by omega)
   simp [qDN,qC,qE,qH,qJ,qK,qM,Option.bind_some,qF,qG,qN,hi',hc,qU,zB,zY,qRo,hw])
  (by simp [qDN,qC,qE,qH,qJ,qK,qM,Option.bind_some,qF,qG,qN]) l.length 0 m (by simp) (by omega)
 simp only [Int.natCast_zero] at h
 simp [h,qC,qE,qH,qJ,qK,qM,Option.bind_some,qF,qG,qN]
def Fo (r:List UInt8):Prop:=∀c,r.head?=some c→c∈([38,43,45,42,47,60,61,62,41,44]:List UInt8)
def Sta (r:List UInt8):Prop:=∃c,r.head?=some c∧(wch c=true∨c=45∨c=40∨c=34∨c=35)
def lo (l:List Nd) (i:Int):Int:=qDb (qX l) (i.toNat+1) i
def tx (l:List Nd) (g:Nat) (i t:Int):List UInt8:=(qy l g i t).toList
structure RT (l:List Nd) (g:Nat) (i:Int):Prop where
 s:∀t,Sta (tx l g i t)
 c:∀(t:Int) (r:List UInt8),Fo r→∀d:UInt8,(d=58∨d=32)→(wr (tx l g i t++r)).head?≠some d
 u:∀(r:List UInt8) (deep:Int) (f:Nat),Fo r→0≤deep→deep+g≤400→20*(tx l g i 5++r).length+4≤f→pP f (.un deep) (tx l g i 5++r,false,l.take (lo l i).toNat)=(i,r,false,l.take (i.toNat+1))
 b:∀(t t':Int) (r:List UInt8) (deep:Int) (f:Nat),1≤t→t≤t'→t'≤5→Fo r→(qA3 r=0∨lvl (qA3 r)≤t')→0≤deep→deep+g≤400→20*(tx l g i t'++r).length+6≤f→
  ∃f2,20*r.length+5≤f2∧pP f (.bin t deep) (tx l g i t'++r,false,l.take (lo l i).toNat)=pP f2 (.loop t deep i) (r,false,l.take (i.toNat+1))
theorem qUW {s:ByteArray} (h:(qBH s).2=true):qFP (qBH s).1=true:=by
 unfold qBH at h⊢
 split at h
 ·rename_i hc
  rw [if_pos hc]
  exact hc.2.2.2
 ·cases h
def Dwx {β:Type} (Q:β→Prop) (R:Nat→Tr β):Prop:=∃x,Q x∧Ev (fun n=>(R n).run) x
theorem qBO {α β:Type} {Q:β→Prop} {F:Nat→Option α} {r:α} {K:Nat→α→Tr β} (h:Ev F r) (hk:Dwx Q fun n=>K n r):Dwx Q fun n=> .opt (F n) (K n):=by
 obtain ⟨x,q,n1,h1⟩:=hk
 obtain ⟨n0,h0⟩:=h
 exact ⟨x,q,n0+n1,fun n hn=>qA (h0 n (by omega)) (h1 n (by omega))⟩
theorem qCi {β:Type} {Q:β→Prop} {b:Bool} {t e:Nat→Tr β} (h:b=true) (hk:Dwx Q t):Dwx Q fun n=> .ask b (t n) (e n):=by
 obtain ⟨x,q,n1,h1⟩:=hk
 exact ⟨x,q,n1,fun n hn=>qD h (h1 n hn)⟩
theorem qJi {β:Type} {Q:β→Prop} {b:Bool} {t e:Nat→Tr β} (h:b=false) (hk:Dwx Q e):Dwx Q fun n=> .ask b (t n) (e n):=by
 obtain ⟨x,q,n1,h1⟩:=hk
 exact ⟨x,q,n1,fun n hn=>qO h (h1 n hn)⟩
theorem qQa {α β:Type} {Q:β→Prop} {o:Option α} {r:α} {K:Nat→α→Tr β} (h:o=some r) (hk:Dwx Q fun n=>K n r):Dwx Q fun n=> .opt o (K n):=by
 obtain ⟨x,q,n1,h1⟩:=hk
 exact ⟨x,q,n1,fun n hn=>qA h (h1 n hn)⟩
theorem qA7 {β:Type} {Q:β→Prop} {x:β} (h:Q x):Dwx Q fun _=> .done x:=⟨x,h,0,fun _ _=>rfl⟩
theorem qDv {β:Type} {Q:β→Prop} {F:Nat→Option β} {R:Nat→Tr β} (h:Dwx Q R) (hF:∀n,F (n+1)=(R n).run):∃x,Q x∧Ev F x:=by
 obtain ⟨x,q,n1,h1⟩:=h
 refine ⟨x,q,n1+1,fun n hn=>?_⟩
 obtain ⟨m,rfl,hm⟩:=up1 hn
 rw [hF]
 exact h1 m hm
theorem qFS {β:Type} {F:Nat→Option β} {x:β} (h:∃y,y=x∧Ev F y):Ev F x:=by
 obtain ⟨y,rfl,h⟩:=h
 exact h
def qEq {α R:Type} (f:Nat→α→Option R):Nat→List α→Option R
 |_,[]=>none
 |i,a::r=>match f i a with
  |some x=>some x
  |none=>qEq f (i+1) r
theorem qOD {V R α:Type} {B:V→Tr (V⊕R)} (st:Nat→V) (l:List α) (f:Nat→α→Option R) (z:R) (hs:∀i a,l[i]?=some a→(B (st i)).run=some (match f i a with|some r=> .inr r|none=> .inl (st (i+1))))
  (he:(B (st l.length)).run=some (.inr z)):∀(M:Nat),l.length+1≤M→zC B M (st 0)=some ((qEq f 0 l).getD z):=by
 have key:∀(r:List α) (i M:Nat),l.drop i=r→i+r.length=l.length→r.length+1≤M→zC B M (st i)=some ((qEq f i r).getD z):=by
  intro r
  induction r with
  |nil=>
   intro i M h1 h2 h3
   obtain ⟨M,rfl⟩:∃q,M=q+1:=⟨M-1,by omega⟩
   have e:i=l.length:=by simpa using h2
   subst e
   rw [qP he]
   rfl
  |cons a r ih=>
   intro i M h1 h2 h3
   obtain ⟨M,rfl⟩:∃q,M=q+1:=⟨M-1,by omega⟩
   have hg:l[i]?=some a:=by rw [←List.head?_drop,h1];rfl
   have hd:l.drop (i+1)=r:=by rw [←List.tail_drop,h1];rfl
   have h4:=hs i a hg
   simp only [List.length_cons] at h2 h3
   unfold qEq
   cases hf:f i a with
   |some x=>rw [hf] at h4;rw [qP h4];rfl
   |none=>rw [hf] at h4;rw [qQ h4];exact ih (i+1) M hd (by omega) (by omega)
 exact fun M h=>key l 0 M rfl (by omega) h
theorem qE2 {i:Nat} {k:Int} {l:List (List PV)} {e:List PV} (hk:k=(i:Int)) (h:l[i]?=some e):decide (0≤k∧k<l.length)=true∧l[k.toNat]?=some e:=by
 subst hk
 have:=(List.getElem?_eq_some_iff.1 h).1
 exact ⟨decide_eq_true (by omega),by rw [Int.toNat_natCast];exact h⟩
abbrev Sm:=Int×Int×Int×ByteArray×Int
theorem nb {a b:Int} (h:¬a=b):(a==b)=false:=beq_eq_false_iff_ne.2 h
theorem qVs {α β γ:Type} {Q:α→Prop} {x:γ} {K:Nat→β→Tr α} {L:Nat→γ→Tr α} (h:Dwx Q fun n=>L n x):Dwx Q fun n=> .alt (Sum.inr x) (K n) (L n):=h
theorem qVt {α β γ:Type} {Q:α→Prop} {x:β} {K:Nat→β→Tr α} {L:Nat→γ→Tr α} (h:Dwx Q fun n=>K n x):Dwx Q fun n=> .alt (Sum.inl x) (K n) (L n):=h
theorem qEK {α R:Type}:∀(l:List α) (i:Nat),qEq (fun (_:Nat) (_:α)=>(none:Option R)) i l=none
 | [],i=>rfl
 |a::l,i=>qEK l (i+1)
def plB (c:Nd):Bool:=if c.1=2 then qBY c.2.2.2.2.2.1 c.2.2.2.2.2.2.1 else if c.1=3 then qG2 c.2.2.2.2.2.1 c.2.2.2.2.2.2.1 c.2.2.2.2.2.2.2.2.2.1 c.2.2.2.2.2.2.2.2.2.2.1 else true
structure PlaceCh (f:Nd→Nd):Prop where
 k:∀c,(f c).1=c.1
 n:∀c,qF3 c=true→c.1=2∨c.1=3→qF3 (f c)=plB (f c)
 kd:∀c,kd (f c)=kd c
def qFW (c:Nd):Bool:=decide (c.1=2∨c.1=3)
def qJC (c:Nd):List PV:=if c.1=2 then [.i .i64 c.2.2.2.2.2.1,.i .i64 c.2.2.2.2.2.2.1,.i .i64 c.2.2.2.2.2.1,.i .i64 c.2.2.2.2.2.2.1] else [.i .i64 c.2.2.2.2.2.1,.i .i64 c.2.2.2.2.2.2.1,.i .i64 c.2.2.2.2.2.2.2.2.2.1,.i .i64 c.2.2.2.2.2.2.2.2.2.2.1]
theorem qIc {α:Type} {P:α→Bool} {l:List α} {i:Nat} {a:α} (h:l[i]?=some a):(l.take (i+1)).filter P=(l.take i).filter P++(if P a=true then [a] else []):=by
 rw [List.take_add_one,h,List.filter_append]
 simp only [Option.toList_some,List.filter_cons,List.filter_nil]
theorem qQb {m:Nat} {acc:List (List PV)} {e:List PV} (hm:m=acc.length) (hb:m≤1000) (he:e.length=4):decide (m=acc.length∧0<4∧0<32∧(m+ [e].length)*32≤140737488355328∧ [e].all (fun e=>e.length==4)=true)=true:=decide_eq_true ⟨hm,by decide,by decide,by simp;omega,by simp [he]⟩
theorem qKa (l:List Nd) (hl:l.length≤1000):Ev (qDt · (l.map qW)) ((l.filter qFW).map qJC):=by
 obtain ⟨n1,h1⟩:=qA9 (F:=fun (c:Nd) n=>qBQ n c.1 c.2.1 c.2.2.1 c.2.2.2.1 c.2.2.2.2.1 c.2.2.2.2.2.1 c.2.2.2.2.2.2.1 c.2.2.2.2.2.2.2.1 c.2.2.2.2.2.2.2.2.1 c.2.2.2.2.2.2.2.2.2.1 c.2.2.2.2.2.2.2.2.2.2.1 c.2.2.2.2.2.2.2.2.2.2.2.1 c.2.2.2.2.2.2.2.2.2.2.2.2.1 ((kd c).map qA8)) (f:=fun c=>if c.1=2 then (c.2.2.2.2.2.1,c.2.2.2.2.2.2.1,c.2.2.2.2.2.1,c.2.2.2.2.2.2.1) else (c.2.2.2.2.2.1,c.2.2.2.2.2.2.1,c.2.2.2.2.2.2.2.2.2.1,c.2.2.2.2.2.2.2.2.2.2.1)) l fun c _=>by
  refine qFS (qDv (R:=fun n=>qEN n c.1 c.2.1 c.2.2.1 c.2.2.2.1 c.2.2.2.2.1 c.2.2.2.2.2.1 c.2.2.2.2.2.2.1 c.2.2.2.2.2.2.2.1 c.2.2.2.2.2.2.2.2.1 c.2.2.2.2.2.2.2.2.2.1 c.2.2.2.2.2.2.2.2.2.2.1 c.2.2.2.2.2.2.2.2.2.2.2.1 c.2.2.2.2.2.2.2.2.2.2.2.2.1 ((kd c).map qA8)) ?_ fun n=>rfl)
  by_cases h2:c.1=2
  ·rw [if_pos h2];exact qCi (beq_iff_eq.2 h2) (qA7 rfl)
  ·rw [if_neg h2];exact qJi (beq_eq_false_iff_ne.2 h2) (qA7 rfl)
 refine ⟨n1+l.length+3,fun n hn=>?_⟩
 obtain ⟨m,rfl,hm⟩:=up1 hn
 have h:=qOD (B:=qFp m) (fun i=>(((l.take i).filter qFW).length,l.map qW,((l.map qW).length:Int),(i:Int),((l.take i).filter qFW).map qJC)) l (fun _ _=>none) ((l.filter qFW).length,(l.filter qFW).map qJC)
  (fun i c he=>by
   have hi:=(List.getElem?_eq_some_iff.1 he).1
   have hg:(l.map qW)[i]?=some (qW c):=by rw [List.getElem?_map,he];rfl
   obtain ⟨a1,a2⟩:=qE2 rfl hg
   have h1:=h1 m (by omega) c (List.mem_of_getElem? he)
   have hle:((l.take i).filter qFW).length≤1000:=Nat.le_trans (List.length_filter_le _ _) (by simp;omega)
   have w:IntKind.i64.wrap ((i:Int)+1)=((i+1:Nat):Int):=by rw [qT (by omega)];omega
   have ea:((l.take i).filter qFW).length=(((l.take i).filter qFW).map qJC).length:=by simp
   have fin:qFW c=true→∀(e:List PV),e=qJC c→(some (Sum.inl (((l.take i).filter qFW).length+1,l.map qW,((l.map qW).length:Int),IntKind.i64.wrap ((i:Int)+1),((l.take i).filter qFW).map qJC++ [e])):Option ((Nat×List (List PV)×Int×Int×List (List PV))⊕(Nat×List (List PV))))=some (.inl (((l.take (i+1)).filter qFW).length,l.map qW,((l.map qW).length:Int),((i+1:Nat):Int),((l.take (i+1)).filter qFW).map qJC)):=fun hp e he2=>by
    rw [w,qIc he,if_pos hp,he2,List.length_append,List.map_append]
    rfl
   refine qD (decide_eq_true (by simpa using hi)) (qD a1 (qA a2 (qD rfl ?_)))
   iterate 14 refine qA rfl ?_
   by_cases k2:c.1=2
   ·rw [if_pos k2] at h1
    exact qD (beq_iff_eq.2 k2) (qA h1 (qD rfl (qD (qQb ea hle rfl) (fin (decide_eq_true (.inl k2)) _ (by unfold qJC;rw [if_pos k2])))))
   ·rw [if_neg k2] at h1
    refine qO (beq_eq_false_iff_ne.2 k2) ?_
    by_cases k3:c.1=3
    ·exact qD (beq_iff_eq.2 k3) (qA h1 (qD rfl (qD (qQb ea hle rfl) (fin (decide_eq_true (.inr k3)) _ (by unfold qJC;rw [if_neg k2])))))
    ·refine qO (beq_eq_false_iff_ne.2 k3) ?_
     show some _=some _
     rw [w,qIc he,if_neg (by simp [qFW,k2,k3]),List.append_nil])
  (qO (decide_eq_false (by simp)) (by rw [List.take_length];rfl)) m (by omega)
 rw [qEK] at h
 exact qA h (qD (decide_eq_true (by simp)) rfl)
def fnL (s:ByteArray):List Nd×Bool:=if s.toList.head?=some 61 then qBH (BR s.toList.tail) else ([],false)
theorem qVu {s:ByteArray} (h:(qBH s).2=false):(qBH s).1= []:=by
 unfold qBH at h⊢
 split at h
 ·cases h
 ·rename_i hc
  rw [if_neg hc]
theorem qRp (s:ByteArray):(fnL s).1.length≤60∧∀x∈(fnL s).1,qQM x:=by
 unfold fnL
 split
 ·exact qLm _
 ·exact ⟨Nat.zero_le _,fun x hx=>by cases hx⟩
theorem qVv {s:ByteArray} (h:(fnL s).2=true):qFP (fnL s).1=true:=by
 unfold fnL at h⊢
 split at h
 ·rename_i hc
  rw [if_pos hc]
  exact qUW h
 ·cases h
theorem qWw {s:ByteArray} (h:(fnL s).2=false):(fnL s).1= []:=by
 unfold fnL at h⊢
 split at h
 ·rename_i hc
  rw [if_pos hc]
  exact qVu h
 ·rename_i hc
  rw [if_neg hc]
theorem qOE (s:ByteArray) (hb:s.size≤140737488351232):Ev (qEl · s) ((fnL s).1.map qW,(fnL s).2):=by
 refine qFS (qDv (R:=fun n=>qGF n s) (qBO (qFw s 61) ?_) fun n=>rfl)
 unfold fnL
 by_cases h:s.toList.head?=some 61
 ·rw [if_pos h,if_pos h]
  have ht:(BR s.toList.tail).size≤140737488351232:=by
   have:=qAa s
   rw [qc]
   simp
   omega
  exact qJi rfl (qBO (qHF (BR s.toList.tail) ht) (qA7 rfl))
 ·rw [if_neg h,if_neg h]
  exact qCi rfl (qCi rfl (qA7 rfl))
theorem qOF (s:ByteArray) (hb:s.size≤140737488351232):Ev (qGA · s) ((fnL s).1.map qW,(fnL s).2):=by
 refine qFS (qDv (R:=fun n=>qF9 n s) ?_ fun n=>rfl)
 unfold fnL
 by_cases h0:s.toList= []
 ·rw [if_neg (by rw [h0];simp)]
  exact qCi (qPX h0) (qCi rfl (qA7 rfl))
 ·obtain ⟨c,t,hct⟩:∃c t,s.toList=c::t:=by
   cases h:s.toList with
   |nil=>exact absurd h h0
   |cons c t=>exact ⟨c,t,rfl⟩
  have hl:s.size=t.length+1:=by rw [←qAa,hct];rfl
  refine qJi (qF1 h0) (qCi rfl (qQa (r:=c) (by rw [hct];rfl) ?_))
  by_cases h61:c=61
  ·subst h61
   have ext:s.extract ((1:Int)).toNat (((s.size:Nat):Int)).toNat=BR s.toList.tail:=by
    conv=>lhs;rw [←qJg s]
    rw [qGI,qc,hct]
    simp
   rw [if_pos (by rw [hct];rfl)]
   refine qJi rfl (qCi (decide_eq_true ⟨by decide,by omega,Int.le_refl _⟩) ?_)
   rw [ext]
   exact qBO (qHG (BR s.toList.tail) (by rw [qc,hct];simp;omega)) (qA7 rfl)
  ·rw [if_neg (by rw [hct];simpa using h61)]
   exact qCi (bne_iff_ne.2 fun e=>h61 (UInt8.toNat_inj.1 (show c.toNat=61 by omega))) (qCi rfl (qA7 rfl))
abbrev Ar:=Int×Int×Int×Int
def qBa (a:Ar):List PV:= [.i .i64 a.1,.i .i64 a.2.1,.i .i64 a.2.2.1,.i .i64 a.2.2.2]
def arT (c:Nd):Ar:=if c.1=2 then (c.2.2.2.2.2.1,c.2.2.2.2.2.2.1,c.2.2.2.2.2.1,c.2.2.2.2.2.2.1) else (c.2.2.2.2.2.1,c.2.2.2.2.2.2.1,c.2.2.2.2.2.2.2.2.2.1,c.2.2.2.2.2.2.2.2.2.2.1)
theorem qWO (c:Nd):qJC c=qBa (arT c):=by
 unfold qJC arT
 split<;>rfl
def arL (s:ByteArray):List Ar:=((fnL s).1.filter qFW).map arT
theorem qRq (s:ByteArray):((fnL s).1.filter qFW).map qJC=(arL s).map qBa:=by
 unfold arL
 rw [List.map_map]
 exact List.map_congr_left fun c _=>qWO c
theorem qTW (s:ByteArray):(arL s).length≤60:=by
 unfold arL
 rw [List.length_map]
 exact Nat.le_trans (List.length_filter_le _ _) (qRp s).1
def iaB (x y:Int) (a:Ar):Bool:=decide (a.1≤x∧x≤a.2.2.1)&&decide (a.2.1≤y∧y≤a.2.2.2)
theorem qSW (l:List Nd) (hl:l.length≤1000) (hs:∀c∈l,qQM c) (hf:qFP l=true):Ev (qHh · (l.map qW)) ((l.filter qFW).map qJC):=by
 obtain ⟨n1,h1⟩:=qFx l (qJh hs)
 refine ⟨n1+l.length+3,fun n hn=>?_⟩
 obtain ⟨m,rfl,hm⟩:=up1 hn
 have h:=qOD (B:=qFg m) (fun i=>(l.map qW,((l.take i).filter qFW).length,(i:Int),((l.take i).filter qFW).map qJC)) l (fun _ _=>none) ((l.filter qFW).length,(l.filter qFW).map qJC)
  (fun i c he=>by
   have hi:=(List.getElem?_eq_some_iff.1 he).1
   have hg:(l.map qW)[i]?=some (qW c):=by rw [List.getElem?_map,he];rfl
   obtain ⟨a1,a2⟩:=qE2 rfl hg
   have hle:((l.take i).filter qFW).length≤1000:=Nat.le_trans (List.length_filter_le _ _) (by simp;omega)
   have w:IntKind.i64.wrap ((i:Int)+1)=((i+1:Nat):Int):=by rw [qT (by omega)];omega
   have ea:((l.take i).filter qFW).length=(((l.take i).filter qFW).map qJC).length:=by simp
   have fin:qFW c=true→∀(e:List PV),e=qJC c→(some (Sum.inl (l.map qW,((l.take i).filter qFW).length+1,IntKind.i64.wrap ((i:Int)+1),((l.take i).filter qFW).map qJC++ [e])):Option ((List (List PV)×Nat×Int×List (List PV))⊕(Nat×List (List PV))))=some (.inl (l.map qW,((l.take (i+1)).filter qFW).length,((i+1:Nat):Int),((l.take (i+1)).filter qFW).map qJC)):=fun hp e he2=>by
    rw [w,qIc he,if_pos hp,he2,List.length_append,List.map_append]
    rfl
   refine qD (decide_eq_true (by simpa using hi)) (qD a1 (qA a2 (qD rfl (qA rfl ?_))))
   by_cases k2:c.1=2
   ·exact qD (beq_iff_eq.2 k2) (qD a1 (qA a2 (qD rfl (qA rfl (qA rfl (qD a1 (qA a2 (qD rfl (qA rfl (qA rfl (qD rfl (qD (qQb ea hle rfl) (fin (decide_eq_true (.inl k2)) _ (by unfold qJC;rw [if_pos k2]))))))))))))))
   ·refine qO (beq_eq_false_iff_ne.2 k2) ?_
    by_cases k3:c.1=3
    ·exact qD (beq_iff_eq.2 k3) (qD a1 (qA a2 (qD rfl (qA rfl (qA rfl (qD a1 (qA a2 (qD rfl (qA rfl (qA rfl (qD rfl (qD (qQb ea hle rfl) (fin (decide_eq_true (.inr k3)) _ (by unfold qJC;rw [if_neg k2]))))))))))))))
    ·refine qO (beq_eq_false_iff_ne.2 k3) ?_
     show some _=some _
     rw [w,qIc he,if_neg (by simp [qFW,k2,k3]),List.append_nil])
  (qO (decide_eq_false (by simp)) (by rw [List.take_length];rfl)) m (by omega)
 rw [qEK] at h
 have h1:=h1 m (by omega)
 rw [hf] at h1
 exact qA h1 (qO rfl (qA h (qD (decide_eq_true (by simp)) rfl)))
theorem qQU (s:ByteArray) (hb:s.size≤140737488351232):Ev (qDo · s) ((arL s).map qBa):=by
 refine qFS (qDv (R:=fun n=>qHi n s) (qBO (qOF s hb) ?_) fun n=>rfl)
 rw [←qRq]
 dsimp only
 cases h:(fnL s).2 with
 |false=>rw [qWw h];exact qCi rfl (qCi rfl (qA7 rfl))
 |true=>exact qJi rfl (qBO (qSW _ (by have:=(qRp s).1;omega) (qRp s).2 (qVv h)) (qA7 rfl))
theorem qVI (x y:Int) (a:Ar):Ev (qGT · a.1 a.2.1 a.2.2.1 a.2.2.2 x y) (iaB x y a):=by
 refine qFS (qDv (R:=fun n=>qI1 n a.1 a.2.1 a.2.2.1 a.2.2.2 x y) (qQa rfl (qQa rfl (qBO (qFS (x:=iaB x y a) (qDv (F:=fun n=>qGv n a.1 a.2.1 a.2.2.1 a.2.2.2 x y) (Q:=fun z=>z=iaB x y a) (R:=fun n=>qGu n a.1 a.2.1 a.2.2.1 a.2.2.2 x y) (qBO (qAO x a.1 a.2.2.1) ?_) fun n=>rfl)) (qA7 rfl)))) fun n=>rfl)
 unfold iaB
 by_cases h:a.1≤x∧x≤a.2.2.1
 ·rw [decide_eq_true h];exact qCi rfl (qBO (qAO y a.2.1 a.2.2.2) (qA7 rfl))
 ·rw [decide_eq_false h];exact qJi rfl (qA7 rfl)
theorem qUv {α R:Type} (p:α→Bool) (g:Int→R):∀(l:List α) (i:Nat),(l.any p=true∧∃k:Nat,qEq (fun i a=>if p a=true then some (g (i:Int)) else none) i l=some (g (k:Int)))∨(l.any p=false∧qEq (fun i a=>if p a=true then some (g (i:Int)) else none) i l=none)
 | [],i=> .inr ⟨rfl,rfl⟩
 |a::l,i=>by
  unfold qEq
  rw [List.any_cons]
  cases p a with
  |true=>exact .inl ⟨rfl,i,rfl⟩
  |false=>exact qUv p g l (i+1)
theorem qOG (l:List Ar) (hl:l.length≤1000) (x y:Int):Ev (qGe · (l.map qBa) x y) (l.any (iaB x y)):=by
 have ix:∃k:Int,decide (k≥0)=l.any (iaB x y)∧Ev (qAK · (l.map qBa) x y) k:=by
  obtain ⟨n1,h1⟩:=qA9 (F:=fun (a:Ar) n=>qGT n a.1 a.2.1 a.2.2.1 a.2.2.2 x y) (f:=fun a=>iaB x y a) l fun a _=>qVI x y a
  have h:∀m,n1+l.length+3≤m→zC (qi m) m (l.map qBa,x,y,((l.map qBa).length:Int),0)=some ((qEq (fun i a=>if iaB x y a=true then some (Sum.inl (β:=Unit) (i:Int)) else none) 0 l).getD (.inr ())):=fun m hm=>by
   have h:=qOD (B:=qi m) (fun i=>(l.map qBa,x,y,((l.map qBa).length:Int),(i:Int))) l (fun i a=>if iaB x y a=true then some (Sum.inl (β:=Unit) (i:Int)) else none) (.inr ())
    (fun i c he=>by
     have hi:=(List.getElem?_eq_some_iff.1 he).1
     have hg:(l.map qBa)[i]?=some (qBa c):=by rw [List.getElem?_map,he];rfl
     obtain ⟨a1,a2⟩:=qE2 rfl hg
     have h1:=h1 m (by omega) c (List.mem_of_getElem? he)
     have w:IntKind.i64.wrap ((i:Int)+1)=((i+1:Nat):Int):=by rw [qT (by omega)];omega
     refine qD (decide_eq_true (by simpa using hi)) (qD a1 (qA a2 (qD rfl (qA rfl (qA rfl (qA rfl (qA rfl (qA h1 ?_))))))))
     cases iaB x y c with
     |true=>exact qD rfl rfl
     |false=>
      refine qO rfl ?_
      dsimp only
      rw [w]
      rfl)
    (qO (decide_eq_false (by simp)) rfl) m (by omega)
   exact h
  rcases qUv (iaB x y) (fun k=>(Sum.inl k:Int⊕Unit)) l 0 with ⟨e1,k,e2⟩|⟨e1,e2⟩
  ·refine ⟨(k:Int),by rw [e1];exact decide_eq_true (by omega),qFS (qDv (R:=fun n=>qn n (l.map qBa) x y) (qBO ⟨_,h⟩ ?_) fun n=>rfl)⟩
   rw [e2]
   exact qVt (qA7 rfl)
  ·refine ⟨-1,by rw [e1];rfl,qFS (qDv (R:=fun n=>qn n (l.map qBa) x y) (qBO ⟨_,h⟩ ?_) fun n=>rfl)⟩
   rw [e2]
   exact qVs (qA7 rfl)
 obtain ⟨k,e,hk⟩:=ix
 refine qFS (qDv (R:=fun n=>qLS n (l.map qBa) x y) (qBO (qFS (qDv (F:=fun n=>qAD n (l.map qBa) x y) (Q:=fun z=>z=l.any (iaB x y)) (R:=fun n=>qAC n (l.map qBa) x y) (qBO hk (qA7 e)) fun n=>rfl)) (qA7 rfl)) fun n=>rfl)
def qAQ (r:Int×Int):List PV:= [.i .i64 r.1,.i .i64 r.2]
def clR (c:Cl):Int×Int:=(c.1,c.2.1)
theorem qUw {m:Nat} {acc:List (List PV)} {e:List PV} (hm:m=acc.length) (hb:m≤1000) (he:e.length=2):decide (m=acc.length∧0<2∧0<16∧(m+ [e].length)*16≤140737488355328∧ [e].all (fun e=>e.length==2)=true)=true:=decide_eq_true ⟨hm,by decide,by decide,by simp;omega,by simp [he]⟩
theorem qT9 {α:Type} {p:α→Bool} {l:List α} {i:Nat} {a:α} (h:l[i]?=some a):(l.take (i+1)).any p=((l.take i).any p||p a):=by
 rw [List.take_add_one,h,List.any_append]
 simp
theorem qLo (l:List (Int×Int)) (hb:l.length≤140737488351232):Ev (qDY · (l.map qAQ) (l.map qAQ)) true:=by
 refine ⟨l.length+5,fun n hn=>?_⟩
 obtain ⟨m,rfl,hm⟩:=up1 hn
 simp only [qDY,qI3,qC,qE,qH,qJ,qK,qM,Option.bind_some,qF,qG,qN]
 have h:=qTB (B:=qDu m) (rows:=l.map qAQ) (r:= .inr ())
  (fun i e he=>by
   rw [List.getElem?_map] at he
   obtain ⟨c,hc,rfl⟩:=Option.map_eq_some_iff.1 he
   have hi:i<l.length:=(List.getElem?_eq_some_iff.1 hc).1
   have hi':(i:Int)<l.length:=by omega
   obtain ⟨q,rfl⟩:∃q,m=q+1:=⟨m-1,by omega⟩
   have hw:IntKind.i64.wrap ((i:Int)+1)=(i:Int)+1:=qT (by omega)
   have un:∀(a b:Int),qEm (q+1) a b a b=some true:=fun a b=>by simp [qEm,qHL,qC,qE,qH,qJ,qK,qM,Option.bind_some,qF,qG,qN]
   simp [qDu,qC,qE,qH,qJ,qK,qM,Option.bind_some,qF,qG,qN,hi',hc,qAQ,zB,un,hw])
  (by simp [qDu,qC,qE,qH,qJ,qK,qM,Option.bind_some,qF,qG,qN]) l.length 0 m (by simp) (by omega)
 simp only [Int.natCast_zero] at h
 simp [h,qC,qE,qH,qJ,qK,qM,Option.bind_some,qF,qG,qN]
def qMP (k:Int):List (Int×Int)→List (Int×Int)
 | []=> []
 |_::r=>(k,k+1)::qMP (k+2) r
theorem qOH:∀(l:List (Int×Int)) (k:Int),(qMP k l).length=l.length
 | [],k=>rfl
 |_::r,k=>by simp [qMP,qOH r]
theorem qNL (n:Nat) (len:Nat) (hb:len≤140737488351232):∀(r pre:List (Int×Int)) (k:Int) (M:Nat),pre.length+r.length=len→1≤k→k+2*r.length≤1000000000000000→r.length+1≤M→
  zC (qC0 n) M (len,k,(pre.length:Int),(pre++r).map qAQ)=some (k+2*r.length,(pre++qMP k r).map qAQ)
 | [],pre,k,M,h1,h2,h3,h4=>by
  obtain ⟨M,rfl⟩:∃q,M=q+1:=⟨M-1,by simp at h4;omega⟩
  have hp:pre.length=len:=by simpa using h1
  rw [qP (r:=(k,pre.map qAQ)) (by simp [qC0,qC,qE,qH,qJ,qK,qM,Option.bind_some,qF,qG,qN,hp])]
  simp [qMP]
 |c::r,pre,k,M,h1,h2,h3,h4=>by
  obtain ⟨M,rfl⟩:∃q,M=q+1:=⟨M-1,by simp at h4;omega⟩
  simp only [List.length_cons] at h1 h3 h4
  have hi:(pre.length:Int)<len:=by omega
  have hl:((pre++c::r).map qAQ).length=len:=by simp;omega
  have hg:((pre++c::r).map qAQ)[pre.length]?=some (qAQ c):=by simp
  have hlt:pre.length<((pre++c::r).map qAQ).length:=by rw [hl];omega
  have w1:IntKind.i64.wrap (k+1)=k+1:=qT (by omega)
  have w2:IntKind.i64.wrap (k+1+1)=k+2:=by rw [qT (by omega)];omega
  have wi:IntKind.i64.wrap ((pre.length:Int)+1)=(pre.length:Int)+1:=qT (by omega)
  have e1:((pre++c::r).map qAQ).set pre.length (qAQ (k,k+1))=((pre++ [(k,k+1)])++r).map qAQ:=by
   rw [List.map_append,List.map_cons,List.set_append_right (h:=by simp)]
   simp
  rw [qQ (v':=(len,k+2,((pre++ [(k,k+1)]).length:Int),((pre++ [(k,k+1)])++r).map qAQ)) (by
   rw [←e1]
   generalize ((pre++c::r).map qAQ)=acc at hl hg hlt
   have hset:∀x,(acc.set pre.length x)[pre.length]?=some x:=fun x=>List.getElem?_set_self hlt
   simp [qC0,qC,qE,qH,qJ,qK,qM,Option.bind_some,qF,qG,qN,hi,hl,hg,hset,qAQ,zJ,w1,w2,wi])]
  rw [qNL n len hb r (pre++ [(k,k+1)]) (k+2) M (by simp;omega) (by omega) (by omega) (by omega)]
  simp [qMP]
  omega
theorem qPJ (l:List (Int×Int)) (hb:l.length≤100000000000000):Ev (qDC · l.length 1 (l.map qAQ)) (1+2*l.length,(qMP 1 l).map qAQ):=by
 refine ⟨l.length+30,fun n hn=>?_⟩
 obtain ⟨m,rfl,hm⟩:=up1 hn
 have h:=qNL m l.length (by omega) l [] 1 m (by simp) (by decide) (by omega) (by omega)
 simp only [qDC,qGz,qC,qE,qH,qJ,qK,qM,Option.bind_some,qF,qG,qN]
 simp only [List.length_nil,Int.natCast_zero,List.nil_append] at h
 rw [h]
 simp [qC,qE,qH,qJ,qK,qM,Option.bind_some,qF,qG,qN]
theorem qRr (n:Nat):∀(r pre all:List (Int×Int)) (k:Int) (M:Nat),all=pre++qMP k r→all.length≤140737488351232→1≤k→k+2*r.length≤1000000000000000→r.length+1≤M→
  zC (qC1 n) M (all.map qAQ,k,(pre.length:Int))=some (.inr (k+2*r.length))
 | [],pre,all,k,M,h1,hb,h2,h3,h4=>by
  obtain ⟨M,rfl⟩:∃q,M=q+1:=⟨M-1,by simp at h4;omega⟩
  have hp:all.length=pre.length:=by rw [h1];simp [qMP]
  rw [qP (r:= .inr k) (by simp [qC1,qC,qE,qH,qJ,qK,qM,Option.bind_some,qF,qG,qN,hp])]
  simp
 |c::r,pre,all,k,M,h1,hb,h2,h3,h4=>by
  obtain ⟨M,rfl⟩:∃q,M=q+1:=⟨M-1,by simp at h4;omega⟩
  simp only [List.length_cons] at h3 h4
  have hlen:all.length=pre.length+(r.length+1):=by rw [h1];simp [qMP,qOH]
  have hg:all[pre.length]?=some (k,k+1):=by rw [h1];simp [qMP]
  have hi:(pre.length:Int)<all.length:=by omega
  have w1:IntKind.i64.wrap (k+1)=k+1:=qT (by omega)
  have w2:IntKind.i64.wrap (k+1+1)=k+2:=by rw [qT (by omega)];omega
  have wi:IntKind.i64.wrap ((pre.length:Int)+1)=(pre.length:Int)+1:=qT (by omega)
  rw [qQ (v':=(all.map qAQ,k+2,((pre++ [(k,k+1)]).length:Int))) (by
   simp [qC1,qC,qE,qH,qJ,qK,qM,Option.bind_some,qF,qG,qN,hi,hg,qAQ,zB,w1,w2,wi])]
  rw [qRr n r (pre++ [(k,k+1)]) all (k+2) M (by rw [h1];simp [qMP]) hb (by omega) (by omega) (by omega)]
  simp
  omega
theorem qPK (l:List (Int×Int)) (hb:l.length≤100000000000000):Ev (qEE · ((qMP 1 l).map qAQ) 1) (1+2*l.length):=by
 refine ⟨l.length+5,fun n hn=>?_⟩
 obtain ⟨m,rfl,hm⟩:=up1 hn
 have h:=qRr m l [] (qMP 1 l) 1 m (by simp) (by rw [qOH];omega) (by decide) (by omega) (by omega)
 simp only [List.length_nil,Int.natCast_zero] at h
 simp only [qEE,qG0,qC,qE,qH,qJ,qK,qM,Option.bind_some,qF,qG,qN]
 rw [h]
 simp [qC,qE,qH,qJ,qK,qM,Option.bind_some,qF,qG,qN]
noncomputable def mkX:Nat→Int→Nat→List (List PV)→List (List PV)
 |0,_,_,rows=>rows
 |r+1,k,i,rows=>mkX r (k+3) (i+1) (((rows.set i (zJ ((rows[i]?).getD []) 0 [.i .i64 k])).set i (zJ (zJ ((rows[i]?).getD []) 0 [.i .i64 k]) 1 [.i .i64 (k+1)])).set i (zJ (zJ (zJ ((rows[i]?).getD []) 0 [.i .i64 k]) 1 [.i .i64 (k+1)]) 2 [.s (mtx (k+2))]))
theorem qRs (n:Nat) (hn:25≤n) (len:Nat) (hb:len≤140737488351232):∀(r i:Nat) (rows:List (List PV)) (k:Int) (M:Nat),i+r=len→rows.length=len→(∀e∈rows,e.length=3)→1≤k→k+3*r≤1000000000000000→r+1≤M→
  zC (qE1 n) M (len,k,(i:Int),rows)=some (k+3*r,mkX r k i rows)
 |0,i,rows,k,M,h1,hl,h3,h2,h5,h4=>by
  obtain ⟨M,rfl⟩:∃q,M=q+1:=⟨M-1,by omega⟩
  rw [qP (r:=(k,rows)) (qO (decide_eq_false (by dsimp only;omega)) rfl)]
  simp [mkX]
 |r+1,i,rows,k,M,h1,hl,h3,h2,h5,h4=>by
  obtain ⟨M,rfl⟩:∃q,M=q+1:=⟨M-1,by omega⟩
  have hlt:i<rows.length:=by omega
  have w1:IntKind.i64.wrap (k+1)=k+1:=qT (by omega)
  have w2:IntKind.i64.wrap (k+1+1)=k+2:=by rw [qT (by omega)];omega
  have w3:IntKind.i64.wrap (k+2+1)=k+3:=by rw [qT (by omega)];omega
  have wi:IntKind.i64.wrap ((i:Int)+1)=((i+1:Nat):Int):=by rw [qT (by omega)];omega
  have m2:=qWc (k:=k+2) (by omega) hn
  obtain ⟨e,he⟩:∃e,rows[i]?=some e:=⟨_,List.getElem?_eq_getElem hlt⟩
  have hel:e.length=3:=h3 e (List.mem_of_getElem? he)
  have sl:∀(e:List PV) (o:Nat) (x:PV),e.length=3→o<3→(zJ e o [x]).length=3:=fun e o x h ho=>by unfold zJ;simp;omega
  have set3:∀(R:List (List PV)) (x:List PV),R.length=len→(∀e∈R,e.length=3)→x.length=3→(R.set i x).length=len∧(∀e∈R.set i x,e.length=3)∧(R.set i x)[i]?=some x:=fun R x h h' hx=>⟨by simp [h],fun e he=>by
   rcases List.mem_or_eq_of_mem_set he with he|rfl
   ·exact h' e he
   ·exact hx,List.getElem?_set_self (by omega)⟩
  have ix:∀(R:List (List PV)),R.length=len→decide (len=R.length∧0≤(i:Int)∧(i:Int)<((len:Nat):Int))=true:=fun R h=>decide_eq_true ⟨h.symm,by omega,by omega⟩
  have s1:=set3 rows (zJ e 0 [.i .i64 k]) hl h3 (sl e 0 _ hel (by decide))
  have s2:=set3 _ (zJ (zJ e 0 [.i .i64 k]) 1 [.i .i64 (k+1)]) s1.1 s1.2.1 (sl _ 1 _ (sl e 0 _ hel (by decide)) (by decide))
  have s3:=set3 _ (zJ (zJ (zJ e 0 [.i .i64 k]) 1 [.i .i64 (k+1)]) 2 [.s (mtx (k+2))]) s2.1 s2.2.1 (sl _ 2 _ (sl _ 1 _ (sl e 0 _ hel (by decide)) (by decide)) (by decide))
  have hX:=qRs n hn len hb r (i+1) _ (k+3) M (by omega) s3.1 s3.2.1 (by omega) (by omega) (by omega)
  rw [qQ (v':=(len,k+3,((i+1:Nat):Int),((rows.set i (zJ e 0 [.i .i64 k])).set i (zJ (zJ e 0 [.i .i64 k]) 1 [.i .i64 (k+1)])).set i (zJ (zJ (zJ e 0 [.i .i64 k]) 1 [.i .i64 (k+1)]) 2 [.s (mtx (k+2))]))) (by
   have tn:((i:Nat):Int).toNat=i:=Int.toNat_natCast i
   refine qD (decide_eq_true (by dsimp only;omega)) (qD (ix rows hl) (qA (by dsimp only;rw [tn];exact he) (qD (decide_eq_true (by omega)) ?_)))
   dsimp only
   rw [tn,w1,w2,w3,wi]
   exact qD (ix _ s1.1) (qA s1.2.2 (qD (decide_eq_true (by rw [sl e 0 _ hel (by decide)];decide)) (qA m2 (qD (ix _ s2.1) (qA s2.2.2 (qD (decide_eq_true (by rw [sl _ 1 _ (sl e 0 _ hel (by decide)) (by decide)];decide)) rfl))))))),hX]
  rw [mkX,he,Option.getD_some]
  congr 2
  omega
theorem qOI (l:List Cl) (hb:l.length≤100000000000000):Ev (qGG · l.length 1 (l.map qU)) (1+3*l.length,mkX l.length 1 0 (l.map qU)):=by
 refine ⟨l.length+31,fun n hn=>?_⟩
 obtain ⟨m,rfl,hm⟩:=up1 hn
 have h:=qRs m (by omega) l.length (by omega) l.length 0 (l.map qU) 1 m (by omega) (by simp) (fun e he=>by obtain ⟨c,_,rfl⟩:=List.mem_map.1 he;rfl) (by decide) (by omega) (by omega)
 exact qA h rfl
theorem qKb {α:Type} {enc:α→List PV} {l:List α} {i:Nat} {a:α} (h:l[i]?=some a):(l.map enc)[i]?=some (enc a):=by rw [List.getElem?_map,h];rfl
def qLp {α:Type} (p:α→Bool) (l:List α):Int:=(qEq (fun i a=>if p a=true then some (i:Int) else none) 0 l).getD (-1)
theorem qUA {α:Type} (p:α→Bool):∀(l:List α) (i:Nat),(l.any p=true∧∃k:Nat,qEq (fun i a=>if p a=true then some (i:Int) else none) i l=some (k:Int))∨(l.any p=false∧qEq (fun i a=>if p a=true then some (i:Int) else none) i l=none)
 | [],i=> .inr ⟨rfl,rfl⟩
 |a::l,i=>by
  unfold qEq
  rw [List.any_cons]
  cases p a with
  |true=>exact .inl ⟨rfl,i,rfl⟩
  |false=>exact qUA p l (i+1)
theorem qVw {α:Type} (p:α→Bool) (l:List α):decide (qLp p l<0)=!(l.any p):=by
 unfold qLp
 rcases qUA p l 0 with ⟨e1,k,e2⟩|⟨e1,e2⟩
 ·rw [e1,e2]
  exact decide_eq_false (show ¬(k:Int)<0 by omega)
 ·rw [e1,e2]
  rfl
theorem qRt {α:Type} (p:α→Bool):∀(l:List α) (i:Nat),qEq (fun i a=>if p a=true then some (Sum.inl (β:=Unit) (i:Int)) else none) i l=(qEq (fun i a=>if p a=true then some (i:Int) else none) i l).map Sum.inl
 | [],i=>rfl
 |a::l,i=>by
  unfold qEq
  cases p a with
  |true=>rfl
  |false=>exact qRt p l (i+1)
theorem qUx {α:Type} (p:α→Bool) {l:List α} {K1:Nat→Int→Tr Int} {K2:Nat→Unit→Tr Int} {F:Nat→Option (Int⊕Unit)} (hF:Ev F ((qEq (fun i a=>if p a=true then some (Sum.inl (β:=Unit) (i:Int)) else none) 0 l).getD (.inr ()))) (h1:∀n r,K1 n r= .done r) (h2:∀n r,K2 n r= .done (-1)):Dwx (fun y=>y=qLp p l) fun n=> .opt (F n) fun r=> .alt r (K1 n) (K2 n):=by
 refine qBO hF ?_
 rw [qRt]
 unfold qLp
 cases qEq (fun i a=>if p a=true then some (i:Int) else none) 0 l with
 |some k=>exact qVt (by simp only [h1];exact qA7 rfl)
 |none=>exact qVs (by simp only [h2];exact qA7 rfl)
inductive Rch (sc:Nat→List Nat) (a:Nat):Nat→Prop
 |one {j:Nat}:j∈sc a→Rch sc a j
 |more {i j:Nat}:Rch sc a i→j∈sc i→Rch sc a j
def qKB (Q:List Nat):List Nat→List Nat
 | []=>Q
 |x::M=>qKB (if Q.contains x=true then Q else Q++ [x]) M
theorem qGL {x:Nat}:∀(M Q:List Nat),x∈qKB Q M↔x∈Q∨x∈M
 | [],Q=>by simp [qKB]
 |y::M,Q=>by
  unfold qKB
  rw [qGL M]
  by_cases h:Q.contains y=true
  ·rw [if_pos h]
   have hy:y∈Q:=by simpa using h
   rw [List.mem_cons]
   constructor
   ·rintro (h|h)
    ·exact .inl h
    ·exact .inr (.inr h)
   ·rintro (h|rfl|h)
    ·exact .inl h
    ·exact .inl hy
    ·exact .inr h
  ·rw [if_neg h,List.mem_append,List.mem_singleton,List.mem_cons,or_assoc]
theorem qOJ:∀(M Q:List Nat),Q.Nodup→(qKB Q M).Nodup
 | [],Q,h=>h
 |y::M,Q,h=>by
  unfold qKB
  refine qOJ M _ ?_
  by_cases hy:Q.contains y=true
  ·rw [if_pos hy];exact h
  ·rw [if_neg hy]
   have hy':y∉Q:=by simpa using hy
   rw [List.nodup_append]
   refine ⟨h,by simp,fun a ha b hb=>?_⟩
   rw [List.mem_singleton] at hb
   subst hb
   rintro rfl
   exact hy' ha
theorem qNM:∀(M Q:List Nat) (k:Nat),k<Q.length→(qKB Q M)[k]?=Q[k]?
 | [],Q,k,h=>rfl
 |y::M,Q,k,h=>by
  unfold qKB
  by_cases hy:Q.contains y=true
  ·rw [if_pos hy];exact qNM M Q k h
  ·rw [if_neg hy,qNM M _ k (by simp;omega),List.getElem?_append_left h]
theorem qPL:∀(n:Nat) (l:List Nat),l.Nodup→(∀x∈l,x<n)→l.length≤n
 |0,l,_,h=>by
  cases l with
  |nil=>simp
  |cons a l=>exact absurd (h a (List.mem_cons_self ..)) (Nat.not_lt_zero a)
 |n+1,l,hd,h=>by
  by_cases hn:n∈l
  ·have h1:=qPL n (l.erase n) (hd.erase n) fun x hx=>by
    have h2:=(hd.mem_erase_iff).1 hx
    have:=h x h2.2
    omega
   rw [List.length_erase_of_mem hn] at h1
   omega
  ·have:=qPL n l hd fun x hx=>by
    have h2:=h x hx
    have h3:x≠n:=fun e=>hn (e▸hx)
    omega
   omega
structure QI (sc:Nat→List Nat) (a n:Nat) (Q:List Nat) (k:Nat):Prop where
 nd:Q.Nodup
 lt:∀x∈Q,x<n
 rc:∀x∈Q,Rch sc a x
 st:∀j∈sc a,j∈Q
 dn:∀i q,i<k→Q[i]?=some q→q≠a∧∀j∈sc q,j∈Q
theorem QI.len {sc:Nat→List Nat} {a n:Nat} {Q:List Nat} {k:Nat} (h:QI sc a n Q k):Q.length≤n:=qPL n Q h.nd h.lt
theorem QI.all {sc:Nat→List Nat} {a n:Nat} {Q:List Nat} (h:QI sc a n Q Q.length):¬Rch sc a a:=by
 have key:∀x,Rch sc a x→x∈Q:=fun x hx=>by
  induction hx with
  |one h1=>exact h.st _ h1
  |more h1 h2 ih=>
   obtain ⟨i,hi,e⟩:=List.mem_iff_getElem.1 ih
   exact (h.dn i _ hi (by rw [List.getElem?_eq_getElem hi,e])).2 _ h2
 intro hr
 obtain ⟨i,hi,e⟩:=List.mem_iff_getElem.1 (key a hr)
 exact (h.dn i _ hi (by rw [List.getElem?_eq_getElem hi,e])).1 rfl
theorem QI.next {sc:Nat→List Nat} {a n:Nat} {Q:List Nat} {k q:Nat} (h:QI sc a n Q k) (hq:Q[k]?=some q) (hne:q≠a) (hs:∀j∈sc q,j<n):QI sc a n (qKB Q (sc q)) (k+1):=by
 have hk:=(List.getElem?_eq_some_iff.1 hq).1
 have hm:=List.mem_of_getElem? hq
 refine ⟨qOJ _ _ h.nd,fun x hx=>?_,fun x hx=>?_,fun j hj=>(qGL _ _).2 (.inl (h.st j hj)),fun i r hi hr=>?_⟩
 ·rcases (qGL _ _).1 hx with hx|hx
  ·exact h.lt x hx
  ·exact hs x hx
 ·rcases (qGL _ _).1 hx with hx|hx
  ·exact h.rc x hx
  ·exact .more (h.rc q hm) hx
 ·rw [qNM _ _ i (by omega)] at hr
  by_cases e:i=k
  ·subst e
   rw [hq] at hr
   cases hr
   exact ⟨hne,fun j hj=>(qGL _ _).2 (.inr hj)⟩
  ·obtain ⟨h1,h2⟩:=h.dn i r (by omega) hr
   exact ⟨h1,fun j hj=>(qGL _ _).2 (.inl (h2 j hj))⟩
theorem QI.start {sc:Nat→List Nat} {a n:Nat} (hd:(sc a).Nodup) (hs:∀j∈sc a,j<n):QI sc a n (sc a) 0:=⟨hd,hs,fun x hx=> .one hx,fun j hj=>hj,fun i q hi=>absurd hi (Nat.not_lt_zero i)⟩
structure MI (sc:Nat→List Nat) (a n:Nat) (met:List Bool) (Q:List Nat) (k:Nat):Prop where
 ln:met.length=n
 kl:k≤Q.length
 lt:∀x∈Q,x<n
 rc:∀x∈Q,Rch sc a x
 st:∀j∈sc a,j∈Q
 mt:∀i,met[i]?=some true→∀j∈sc i,j∈Q
 dn:∀i q,i<k→Q[i]?=some q→q≠a∧met[q]?=some true
theorem MI.all {sc:Nat→List Nat} {a n:Nat} {met:List Bool} {Q:List Nat} (h:MI sc a n met Q Q.length):¬Rch sc a a:=by
 have key:∀x,Rch sc a x→x∈Q:=fun x hx=>by
  induction hx with
  |one h1=>exact h.st _ h1
  |more h1 h2 ih=>
   obtain ⟨i,hi,e⟩:=List.mem_iff_getElem.1 ih
   exact h.mt _ (h.dn i _ hi (by rw [List.getElem?_eq_getElem hi,e])).2 _ h2
 intro hr
 obtain ⟨i,hi,e⟩:=List.mem_iff_getElem.1 (key a hr)
 exact (h.dn i _ hi (by rw [List.getElem?_eq_getElem hi,e])).1 rfl
theorem MI.start {sc:Nat→List Nat} {a n:Nat} (hs:∀j∈sc a,j<n):MI sc a n (List.replicate n false) (sc a) 0:=⟨by simp,Nat.zero_le _,hs,fun x hx=> .one hx,fun j hj=>hj,fun i hi=>by
 obtain ⟨h1,h2⟩:=List.getElem?_eq_some_iff.1 hi
 simp at h2,fun i q hi=>absurd hi (Nat.not_lt_zero i)⟩
def qOK (k:Nat):List PV:=qA8 (k:Int)
def qVJ (ar:List Ar) (l:List Cl) (k:Nat):Bool:=match l[k]? with
 |some c=>ar.any (iaB c.1 c.2.1)
 |none=>false
def qER (ar:List Ar) (l:List Cl) (i:Nat):List Nat:=(List.range i).filter (qVJ ar l)
theorem qUX {ar:List Ar} {l:List Cl} {i:Nat} {c:Cl} (h:l[i]?=some c):qER ar l (i+1)=qER ar l i++(if ar.any (iaB c.1 c.2.1)=true then [i] else []):=by
 unfold qER
 rw [List.range_succ,List.filter_append]
 have e:qVJ ar l i=ar.any (iaB c.1 c.2.1):=by unfold qVJ;simp only [h]
 congr 1
 rw [List.filter_cons,e]
 rfl
theorem qSx (ar:List Ar) (l:List Cl) (i:Nat):(qER ar l i).length≤i:=by
 unfold qER
 have:=List.length_filter_le (qVJ ar l) (List.range i)
 rwa [List.length_range] at this
theorem qRu {ar:List Ar} {l:List Cl} {i j:Nat} (h:j∈qER ar l i):j<i:=by
 unfold qER at h
 exact List.mem_range.1 (List.mem_filter.1 h).1
def qF6 (l:List Cl) (k:Nat):Int×Int:=((l[k]?).map clR).getD (0,0)
def qPY (l:List Cl) (k:Nat):ByteArray:=((l[k]?).map fun c=>c.2.2).getD ⟨#[]⟩
def scL (l:List Cl) (k:Nat):List Nat:=qER (arL (qPY l k)) l l.length
theorem qTX {m:Nat} {acc:List (List PV)} {e:List PV} {z:Nat} (hz:0<z∧z≤24) (hm:m=acc.length) (hb:m≤1000) (he:e.length=1):decide (m=acc.length∧0<1∧0<z∧(m+ [e].length)*z≤140737488355328∧ [e].all (fun e=>e.length==1)=true)=true:=
 decide_eq_true ⟨hm,by decide,hz.1,by
  have:(m+ [e].length)*z≤1001*24:=Nat.mul_le_mul (by simp;omega) hz.2
  omega,by simp [he]⟩
theorem qVx (ar:List Ar) (ha:ar.length≤1000) (l:List Cl) (hl:l.length≤120):∃n0,∀m,n0≤m→∀(f F L:List (List PV)) (i:Int) (a b:Nat),zC (qBg m) m (l.map qU,f,ar.map qBa,0,l.map qU,(l.length:Int),i,l.map qU,(l.length:Int),0,l.map qU,a,b,[],F,L)=
  some (l.map qU,f,(qER ar l l.length).length,l.map qU,(l.length:Int),i,l.map qU,a,b,(qER ar l l.length).map qOK,F,L):=by
 obtain ⟨n1,h1⟩:=qA9 (F:=fun (c:Cl) n=>qGe n (ar.map qBa) c.1 c.2.1) (f:=fun c=>ar.any (iaB c.1 c.2.1)) l fun c _=>qOG ar ha c.1 c.2.1
 refine ⟨n1+l.length+3,fun m hm f F L i0 a b=>?_⟩
 have h:=qOD (B:=qBg m) (fun k=>(l.map qU,f,ar.map qBa,(qER ar l k).length,l.map qU,(l.length:Int),i0,l.map qU,(l.length:Int),(k:Int),l.map qU,a,b,(qER ar l k).map qOK,F,L)) l (fun _ _=>none)
  (l.map qU,f,(qER ar l l.length).length,l.map qU,(l.length:Int),i0,l.map qU,a,b,(qER ar l l.length).map qOK,F,L)
  (fun i c he=>by
   have hi:=(List.getElem?_eq_some_iff.1 he).1
   have hg:(l.map qU)[i]?=some (qU c):=by rw [List.getElem?_map,he];rfl
   obtain ⟨a1,a2⟩:=qE2 rfl hg
   have h1:=h1 m (by omega) c (List.mem_of_getElem? he)
   have hle:(qER ar l i).length≤1000:=Nat.le_trans (qSx _ _ _) (by omega)
   have ea:(qER ar l i).length=((qER ar l i).map qOK).length:=by simp
   have w:IntKind.i64.wrap ((i:Int)+1)=((i+1:Nat):Int):=by rw [qT (by omega)];omega
   refine qD (decide_eq_true (by dsimp only;omega)) (qD a1 (qA a2 (qD rfl (qA rfl (qA rfl (qA rfl (qA h1 ?_)))))))
   dsimp only
   rw [qUX he,w]
   cases ar.any (iaB c.1 c.2.1) with
   |true=>
    refine qD rfl (qD rfl (qD (qTX (by decide) ea hle rfl) ?_))
    simp [Tr.run,qOK,qA8]
   |false=>
    refine qO rfl ?_
    simp [Tr.run])
  (qO (decide_eq_false (by simp)) rfl) m (by omega)
 rw [qEK] at h
 exact h
def qMQ (c:Cl):List PV:= [.ls ((fnL c.2.2).1.map qW)]
def qFA (l:List Cl) (k:Nat):List PV:= [.ls ((scL l k).map qOK)]
theorem qUB (l:List Cl) (hl:l.length≤120) (hs:∀c∈l,c.2.2.size≤140737488351232):Ev (qGw · (l.map qU)) (l.map qU,l.map qMQ,(List.range l.length).map (qFA l)):=by
 obtain ⟨n1,h1⟩:=qA9 (F:=fun (c:Cl) n=>qEl n c.2.2) (f:=fun c=>((fnL c.2.2).1.map qW,(fnL c.2.2).2)) l fun c hc=>qOE c.2.2 (hs c hc)
 obtain ⟨n2,h2⟩:=qA9 (F:=fun (c:Cl) n=>qDt n ((fnL c.2.2).1.map qW)) (f:=fun c=>(arL c.2.2).map qBa) l fun c hc=>by
  have:=qKa (fnL c.2.2).1 (by have:=(qRp c.2.2).1;omega)
  rwa [qRq] at this
 have hG:∃n0,∀m,n0≤m→∀c∈l,∀(f F L:List (List PV)) (i:Int) (a b:Nat),zC (qBg m) m (l.map qU,f,(arL c.2.2).map qBa,0,l.map qU,(l.length:Int),i,l.map qU,(l.length:Int),0,l.map qU,a,b,[],F,L)=
   some (l.map qU,f,(qER (arL c.2.2) l l.length).length,l.map qU,(l.length:Int),i,l.map qU,a,b,(qER (arL c.2.2) l l.length).map qOK,F,L):=by
  have key:∀r:List Cl,∃n0,∀m,n0≤m→∀c∈r,∀(f F L:List (List PV)) (i:Int) (a b:Nat),zC (qBg m) m (l.map qU,f,(arL c.2.2).map qBa,0,l.map qU,(l.length:Int),i,l.map qU,(l.length:Int),0,l.map qU,a,b,[],F,L)=
    some (l.map qU,f,(qER (arL c.2.2) l l.length).length,l.map qU,(l.length:Int),i,l.map qU,a,b,(qER (arL c.2.2) l l.length).map qOK,F,L):=fun r=>by
   induction r with
   |nil=>exact ⟨0,fun m _ c hc=>by cases hc⟩
   |cons c r ih=>
    obtain ⟨n3,h3⟩:=ih
    obtain ⟨n4,h4⟩:=qVx (arL c.2.2) (by have:=qTW c.2.2;omega) l hl
    refine ⟨n3+n4,fun m hm d hd=>?_⟩
    rcases List.mem_cons.1 hd with rfl|hd
    ·exact h4 m (by omega)
    ·exact h3 m (by omega) d hd
  exact key l
 obtain ⟨n3,h3⟩:=hG
 refine ⟨n1+n2+n3+l.length+4,fun n hn=>?_⟩
 obtain ⟨m,rfl,hm⟩:=up1 hn
 have eL:((l.map qU).length:Int)=(l.length:Int):=by rw [List.length_map]
 have h:=qOD (B:=qFL m) (fun i=>(l.map qU,l.map qU,(l.length:Int),(i:Int),l.map qU,i,i,(l.take i).map qMQ,(List.range i).map (qFA l))) l (fun _ _=>none) (l.map qU,l.length,l.length,l.map qMQ,(List.range l.length).map (qFA l))
  (fun i c he=>by
   have hi:=(List.getElem?_eq_some_iff.1 he).1
   have hg:(l.map qU)[i]?=some (qU c):=by rw [List.getElem?_map,he];rfl
   obtain ⟨a1,a2⟩:=qE2 rfl hg
   have hmem:=List.mem_of_getElem? he
   have h1:=h1 m (by omega) c hmem
   have h2:=h2 m (by omega) c hmem
   have h3:=h3 m (by omega) c hmem ((fnL c.2.2).1.map qW) ((l.take i).map qMQ) ((List.range i).map (qFA l)) (i:Int) i i
   have w:IntKind.i64.wrap ((i:Int)+1)=((i+1:Nat):Int):=by rw [qT (by omega)];omega
   have e1:(l.take (i+1)).map qMQ=(l.take i).map qMQ++ [qMQ c]:=by rw [List.take_add_one,he,List.map_append];rfl
   have e2:(List.range (i+1)).map (qFA l)=(List.range i).map (qFA l)++ [qFA l i]:=by rw [List.range_succ,List.map_append];rfl
   have e3:qER (arL c.2.2) l l.length=scL l i:=by unfold scL qPY;rw [he];rfl
   rw [e3] at h3
   refine qD (decide_eq_true (by dsimp only;omega)) (qD a1 (qA a2 (qD rfl (qA rfl (qA rfl (qA rfl (qA h1 (qA h2 ?_))))))))
   dsimp only
   rw [eL]
   refine qA h3 ?_
   dsimp only
   refine qD rfl (qD (qTX (by decide) (by simp;omega) (by omega) rfl) (qD (decide_eq_true (by simp)) (qD rfl (qD (qTX (by decide) (by simp) (by omega) rfl) ?_))))
   rw [qC,w,e1,e2]
   rfl)
  (qO (decide_eq_false (by simp)) (by rw [List.take_length];rfl)) m (by omega)
 rw [qEK] at h
 rw [←eL] at h
 exact qA h (qD (decide_eq_true (by simp)) (qD (decide_eq_true (by simp)) rfl))
theorem qPM {a b c d:Int}:qH7 a b c d=true↔b<d∨(b=d∧a<c):=by
 unfold qH7
 simp [Bool.or_eq_true,Bool.and_eq_true]
theorem qUy {l:List Cl}:∀(r:List Cl) (i:Nat),qJB l i r=true→l.drop i=r→∀j,i≤j→∀c,l[j]?=some c→qJA l j c=true
 | [],i,h,hd,j,hj,c,hc=>by
  have h1:=(List.getElem?_eq_some_iff.1 hc).1
  have h2:=congrArg List.length hd
  simp at h2
  omega
 |a::r,i,h,hd,j,hj,c,hc=>by
  unfold qJB at h
  simp only [Bool.and_eq_true] at h
  have hg:l[i]?=some a:=by rw [←List.head?_drop,hd];rfl
  have hd':l.drop (i+1)=r:=by rw [←List.tail_drop,hd];rfl
  by_cases e:j=i
  ·subst e
   rw [hg] at hc
   cases hc
   exact h.1.2.2
  ·exact qUy r (i+1) h.2 hd' j (by omega) c hc
theorem qUC {l:List Cl} (h:qD9 l=true):∀(d i:Nat) (p c:Cl),l[i]?=some p→l[i+d+1]?=some c→qH7 p.1 p.2.1 c.1 c.2.1=true:=by
 unfold qD9 at h
 rw [Bool.and_eq_true] at h
 have hp:=qUy l 0 h.1 rfl
 intro d
 induction d with
 |zero=>
  intro i p c h1 h2
  have h3:=hp (i+1) (Nat.zero_le _) c h2
  unfold qJA at h3
  simp only [h1] at h3
  exact h3
 |succ d ih=>
  intro i p c h1 h2
  have hl:=(List.getElem?_eq_some_iff.1 h2).1
  have hg:=List.getElem?_eq_getElem (l:=l) (i:=i+d+1) (by omega)
  have h3:=ih i p _ h1 hg
  have h4:=hp (i+d+1+1) (Nat.zero_le _) c (by rw [show i+d+1+1=i+(d+1)+1 by omega];exact h2)
  unfold qJA at h4
  simp only [hg] at h4
  rw [qPM] at h3 h4⊢
  omega
theorem qWP {l:List Cl} (h:qD9 l=true) {i j:Nat} {p c:Cl} (hi:l[i]?=some p) (hj:l[j]?=some c) (he:clR p=clR c):i=j:=by
 have e1:(clR p).1=(clR c).1:=congrArg Prod.fst he
 have e2:(clR p).2=(clR c).2:=congrArg Prod.snd he
 have e1:p.1=c.1:=e1
 have e2:p.2.1=c.2.1:=e2
 rcases Nat.lt_trichotomy i j with hlt|rfl|hlt
 ·have:=qUC h (j-i-1) i p c hi (by rw [show i+(j-i-1)+1=j by omega];exact hj)
  rw [qPM] at this
  omega
 ·rfl
 ·have:=qUC h (i-j-1) j c p hj (by rw [show j+(i-j-1)+1=i by omega];exact hi)
  rw [qPM] at this
  omega
theorem qEA {l:List Cl} {k:Nat} {c:Cl} (h:l[k]?=some c):qF6 l k=clR c:=by unfold qF6;rw [h];rfl
theorem qVK {l:List Cl} (h:qD9 l=true) {i j:Nat} (hi:i<l.length) (hj:j<l.length) (he:qF6 l i=qF6 l j):i=j:=by
 have h1:=List.getElem?_eq_getElem hi
 have h2:=List.getElem?_eq_getElem hj
 rw [qEA h1,qEA h2] at he
 exact qWP h h1 h2 he
def qEH (b:Bool):List PV:= [.b b]
theorem qHQ {l:List Cl} (h:qD9 l=true):l.length≤120:=by
 unfold qD9 at h
 simp only [Bool.and_eq_true,decide_eq_true_eq] at h
 omega
def qRv (l:List Cl) (k:Nat):List PV:=qAQ (qF6 l k)
theorem qWx {l:List Cl} (h:qD9 l=true) {Q:List Nat} (hQ:∀q∈Q,q<l.length) {j:Nat} (hj:j<l.length):(Q.any fun q=>qF6 l q==qF6 l j)=Q.contains j:=by
 rw [Bool.eq_iff_iff,List.any_eq_true,List.contains_iff_mem]
 constructor
 ·rintro ⟨q,h1,h2⟩
  rw [←qVK h (hQ q h1) hj (beq_iff_eq.1 h2)]
  exact h1
 ·exact fun hm=>⟨j,hm,beq_self_eq_true _⟩
theorem qWQ {m:Nat} {acc:List (List PV)} {e:List PV} (hm:m=acc.length) (hb:m≤100000) (he:e.length=2):decide (m=acc.length∧0<2∧0<16∧(m+ [e].length)*16≤140737488355328∧ [e].all (fun e=>e.length==2)=true)=true:=decide_eq_true ⟨hm,by decide,by decide,by simp;omega,by simp [he]⟩
inductive Tch (bs:Nat→Prop) (sc:Nat→List Nat):Nat→Prop
 |zero {i:Nat}:bs i→Tch bs sc i
 |lean {i k:Nat}:k∈sc i→Tch bs sc k→Tch bs sc i
structure TI (bs:Nat→Prop) (sc:Nat→List Nat) (n:Nat) (o:List Bool):Prop where
 ln:o.length=n
 ok:∀i,o[i]?=some true→Tch bs sc i
 st:∀i,i<n→bs i→o[i]?=some true
theorem TI.set {bs:Nat→Prop} {sc:Nat→List Nat} {n:Nat} {o:List Bool} (h:TI bs sc n o) {i k:Nat} (hk:k∈sc i) (ho:o[k]?=some true):TI bs sc n (o.set i true):=by
 refine ⟨by rw [List.length_set];exact h.ln,fun j hj=>?_,fun j hj hb=>?_⟩
 ·by_cases e:i=j
  ·subst e;exact .lean hk (h.ok k ho)
  ·rw [List.getElem?_set_ne e] at hj;exact h.ok j hj
 ·by_cases e:i=j
  ·subst e;exact List.getElem?_set_self (by rw [h.ln];exact hj)
  ·rw [List.getElem?_set_ne e];exact h.st j hj hb
theorem TI.all {bs:Nat→Prop} {sc:Nat→List Nat} {n:Nat} {o:List Bool} (h:TI bs sc n o) (hn:∀i,∀k∈sc i,k<n) (hc:∀i,i<n→∀k∈sc i,o[k]?=some true→o[i]?=some true) {i:Nat} (hi:i<n):o[i]?=some true↔Tch bs sc i:=by
 refine ⟨h.ok i,fun ht=>?_⟩
 induction ht with
 |zero hb=>exact h.st _ hi hb
 |lean hk _ ih=>exact hc _ hi _ hk (ih (hn _ _ hk))
def rnd (sc:Nat→List Nat):Nat→Nat→List Bool→Bool→List Bool×Bool
 |0,_,o,m=>(o,m)
 |d+1,i,o,m=>if o[i]?=some true then rnd sc d (i+1) o m
  else if (sc i).any (fun k=>o[k]?==some true)=true then rnd sc d (i+1) (o.set i true) true else rnd sc d (i+1) o m
def qQV (o:List Bool):Nat:=o.count false
theorem qUD:∀{o:List Bool} {i:Nat},o[i]?=some false→qQV (o.set i true)+1=qQV o
 | [],i,h=>by simp at h
 |b::o,0,h=>by
  simp only [List.getElem?_cons_zero,Option.some.injEq] at h
  subst h
  simp [qQV]
 |b::o,i+1,h=>by
  have:=qUD (o:=o) (i:=i) (by simpa using h)
  unfold qQV at this⊢
  rw [List.set_cons_succ,List.count_cons,List.count_cons]
  omega
theorem qNN {bs:Nat→Prop} {sc:Nat→List Nat} {n:Nat}:∀(d i:Nat) (o:List Bool) (m:Bool),i+d=n→TI bs sc n o→
  TI bs sc n (rnd sc d i o m).1∧qQV (rnd sc d i o m).1≤qQV o∧(∀j:Nat,o[j]?=some true→(rnd sc d i o m).1[j]?=some true)∧
  ((rnd sc d i o m).2=false→m=false∧(rnd sc d i o m).1=o∧∀j:Nat,i≤j→j<n→∀k∈sc j,o[k]?=some true→o[j]?=some true)∧(m=false→(rnd sc d i o m).2=true→qQV (rnd sc d i o m).1<qQV o)
 |0,i,o,m,hd,h=>⟨h,Nat.le_refl _,fun j hj=>hj,fun hm=>⟨hm,rfl,fun j h1 h2=>by omega⟩,fun h1 h2=>by simp only [rnd] at h2;rw [h1] at h2;cases h2⟩
 |d+1,i,o,m,hd,h=>by
  unfold rnd
  by_cases h1:o[i]?=some true
  ·rw [if_pos h1]
   obtain ⟨a,b,c,e,f⟩:=qNN d (i+1) o m (by omega) h
   refine ⟨a,b,c,fun hm=>?_,f⟩
   obtain ⟨e1,e2,e3⟩:=e hm
   refine ⟨e1,e2,fun j h2 h3 k hk hok=>?_⟩
   by_cases hj:j=i
   ·subst hj;exact h1
   ·exact e3 j (by omega) h3 k hk hok
  ·rw [if_neg h1]
   by_cases h2:(sc i).any (fun k=>o[k]?==some true)=true
   ·rw [if_pos h2]
    obtain ⟨k,hk,hok⟩:=List.any_eq_true.1 h2
    have hok:=beq_iff_eq.1 hok
    obtain ⟨a,b,c,e,f⟩:=qNN d (i+1) (o.set i true) true (by omega) (h.set hk hok)
    have hl:i<o.length:=by rw [h.ln];omega
    have hf:o[i]?=some false:=by
     rw [List.getElem?_eq_getElem hl] at h1⊢
     cases hq:o[i] with
     |true=>rw [hq] at h1;exact absurd rfl h1
     |false=>rfl
    have hs:=qUD hf
    refine ⟨a,by omega,fun j hj=>c j ?_,fun hm=>?_,fun _ _=>by omega⟩
    ·by_cases hq:i=j
     ·subst hq;exact List.getElem?_set_self hl
     ·rw [List.getElem?_set_ne hq];exact hj
    ·obtain ⟨e1,_,_⟩:=e hm
     cases e1
   ·rw [if_neg h2]
    obtain ⟨a,b,c,e,f⟩:=qNN d (i+1) o m (by omega) h
    refine ⟨a,b,c,fun hm=>?_,f⟩
    obtain ⟨e1,e2,e3⟩:=e hm
    refine ⟨e1,e2,fun j h3 h4 k hk hok=>?_⟩
    by_cases hj:j=i
    ·subst hj
     exact absurd (show (sc j).any (fun k=>o[k]?==some true)=true from List.any_eq_true.2 ⟨k,hk,by rw [hok];rfl⟩) h2
    ·exact e3 j (by omega) h4 k hk hok
structure SI (hr b2:Nat→Bool) (sc:Nat→List Nat) (n:Nat) (A:List Nat):Prop where
 nd:A.Nodup
 lt:∀a∈A,a<n
 ok:∀a∈A,Tch (fun i=>hr i=true∨b2 i=true) sc a
def srd (hr b2:Nat→Bool) (sc:Nat→List Nat):Nat→Nat→List Nat→Bool→List Nat×Bool
 |0,_,A,m=>(A,m)
 |d+1,i,A,m=>if (hr i||A.contains i)=true then srd hr b2 sc d (i+1) A m
  else if (b2 i||A.any fun k=>(sc i).contains k)=true then srd hr b2 sc d (i+1) (A++ [i]) true else srd hr b2 sc d (i+1) A m
theorem SI.add {hr b2:Nat→Bool} {sc:Nat→List Nat} {n:Nat} {A:List Nat} {i:Nat} (h:SI hr b2 sc n A) (hi:i<n) (h1:¬(hr i||A.contains i)=true) (h2:(b2 i||A.any fun k=>(sc i).contains k)=true):SI hr b2 sc n (A++ [i]):=by
 have hn:i∉A:=fun hi=>h1 (by rw [Bool.or_eq_true];exact .inr (by simpa using hi))
 refine ⟨?_,fun a ha=>?_,fun a ha=>?_⟩
 ·rw [List.nodup_append]
  refine ⟨h.nd,by simp,fun a ha b hb=>?_⟩
  rw [List.mem_singleton] at hb
  subst hb
  rintro rfl
  exact hn ha
 ·rcases List.mem_append.1 ha with ha|ha
  ·exact h.lt a ha
  ·rw [List.mem_singleton] at ha;omega
 ·rcases List.mem_append.1 ha with ha|ha
  ·exact h.ok a ha
  ·rw [List.mem_singleton] at ha
   subst ha
   rcases Bool.or_eq_true_iff.1 h2 with hb|hb
   ·exact .zero (.inr hb)
   ·obtain ⟨k,hk,hc⟩:=List.any_eq_true.1 hb
    exact .lean (by simpa using hc) (h.ok k hk)
theorem qRw {hr b2:Nat→Bool} {sc:Nat→List Nat} {n:Nat}:∀(d i:Nat) (A:List Nat) (m:Bool),i+d=n→SI hr b2 sc n A→
  SI hr b2 sc n (srd hr b2 sc d i A m).1∧A.length≤(srd hr b2 sc d i A m).1.length∧
  ((srd hr b2 sc d i A m).2=false→m=false∧(srd hr b2 sc d i A m).1=A∧∀j:Nat,i≤j→j<n→(b2 j||A.any fun k=>(sc j).contains k)=true→(hr j||A.contains j)=true)∧
  (m=false→(srd hr b2 sc d i A m).2=true→A.length<(srd hr b2 sc d i A m).1.length)
 |0,i,A,m,hd,h=>⟨h,Nat.le_refl _,fun hm=>⟨hm,rfl,fun j h1 h2=>by omega⟩,fun h1 h2=>by simp only [srd] at h2;rw [h1] at h2;cases h2⟩
 |d+1,i,A,m,hd,h=>by
  unfold srd
  by_cases h1:(hr i||A.contains i)=true
  ·rw [if_pos h1]
   obtain ⟨a,b,e,f⟩:=qRw d (i+1) A m (by omega) h
   refine ⟨a,b,fun hm=>?_,f⟩
   obtain ⟨e1,e2,e3⟩:=e hm
   refine ⟨e1,e2,fun j h2 h3 hq=>?_⟩
   by_cases hj:j=i
   ·subst hj;exact h1
   ·exact e3 j (by omega) h3 hq
  ·rw [if_neg h1]
   by_cases h2:(b2 i||A.any fun k=>(sc i).contains k)=true
   ·rw [if_pos h2]
    have hS:=h.add (by omega) h1 h2
    obtain ⟨a,b,e,f⟩:=qRw d (i+1) (A++ [i]) true (by omega) hS
    rw [List.length_append,List.length_singleton] at b
    refine ⟨a,by omega,fun hm=>?_,fun _ _=>by omega⟩
    obtain ⟨e1,_,_⟩:=e hm
    cases e1
   ·rw [if_neg h2]
    obtain ⟨a,b,e,f⟩:=qRw d (i+1) A m (by omega) h
    refine ⟨a,b,fun hm=>?_,f⟩
    obtain ⟨e1,e2,e3⟩:=e hm
    refine ⟨e1,e2,fun j h3 h4 hq=>?_⟩
    by_cases hj:j=i
    ·subst hj;exact absurd hq h2
    ·exact e3 j (by omega) h4 hq
theorem SI.all {hr b2:Nat→Bool} {sc:Nat→List Nat} {n:Nat} {A:List Nat} (h:SI hr b2 sc n A) (hn:∀i,∀k∈sc i,k<n) (hb:∀i,∀k∈sc i,hr k=true→b2 i=true)
  (hc:∀i,i<n→(b2 i||A.any fun k=>(sc i).contains k)=true→(hr i||A.contains i)=true) {i:Nat} (hi:i<n):(hr i||A.contains i)=true↔Tch (fun i=>hr i=true∨b2 i=true) sc i:=by
 constructor
 ·intro h1
  rcases Bool.or_eq_true_iff.1 h1 with h1|h1
  ·exact .zero (.inl h1)
  ·exact h.ok i (by simpa using h1)
 ·intro ht
  induction ht with
  |zero hq=>
   rcases hq with hq|hq
   ·rw [hq];rfl
   ·exact hc _ hi (by rw [hq];rfl)
  | @lean i k hk _ ih=>
   refine hc i hi ?_
   rw [Bool.or_eq_true]
   rcases Bool.or_eq_true_iff.1 (ih (hn _ _ hk)) with h1|h1
   ·exact .inl (hb i k hk h1)
   ·exact .inr (List.any_eq_true.2 ⟨k,by simpa using h1,by simpa using hk⟩)
theorem qRx {α:Type} (p:α→Bool) (l:List α):decide (qLp p l≥0)=l.any p:=by
 have h:=qVw p l
 by_cases h0:qLp p l<0
 ·rw [decide_eq_true h0] at h
  rw [decide_eq_false (by omega)]
  cases hq:l.any p with
  |true=>rw [hq] at h;cases h
  |false=>rfl
 ·rw [decide_eq_false h0] at h
  rw [decide_eq_true (by omega)]
  cases hq:l.any p with
  |true=>rfl
  |false=>rw [hq] at h;cases h
def isR (x y:Int) (r:Int×Int):Bool:=(x==r.1)&&((y==r.2)&&true)
theorem qRy (R:List (Int×Int)) (hR:R.length≤140737488351232) (x y:Int):Ev (qAs · (R.map qAQ) x y) (R.any (isR x y)):=by
 refine qFS (qDv (R:=fun n=>qBV n (R.map qAQ) x y) (qBO (r:=qLp (isR x y) R) (qFS (qDv (F:=fun n=>qBv n (R.map qAQ) x y) (R:=fun n=>qBu n (R.map qAQ) x y) (qUx (isR x y) (l:=R) ⟨R.length+2,fun m hm=>?_⟩ (fun _ _=>rfl) fun _ _=>rfl) fun n=>rfl)) (qA7 (qRx _ _))) fun n=>rfl)
 have h:=qOD (B:=qBU m) (fun i=>(R.map qAQ,((R.map qAQ).length:Int),(i:Int),x,y)) R (fun i c=>if isR x y c=true then some (Sum.inl (β:=Unit) (i:Int)) else none) (.inr ())
  (fun i c he=>by
   have hi:=(List.getElem?_eq_some_iff.1 he).1
   obtain ⟨a1,a2⟩:=qE2 rfl (qKb (enc:=qAQ) he)
   have w:IntKind.i64.wrap ((i:Int)+1)=((i+1:Nat):Int):=by rw [qT (by omega)];omega
   refine qD (decide_eq_true (by simpa using hi)) (qD a1 (qA a2 (qD rfl (qA rfl (qA rfl ?_)))))
   by_cases hc:isR x y c=true
   ·rw [if_pos hc];exact qD hc rfl
   ·rw [if_neg hc]
    refine qO (Bool.eq_false_iff.2 hc) ?_
    dsimp only
    rw [w]
    rfl)
  (qO (decide_eq_false (by simp)) rfl) m (by omega)
 exact h
theorem qSX (R:List (Int×Int)) (hR:R.length≤140737488351232) (ar:List Ar) (ha:ar.length≤1000):Ev (qd · (R.map qAQ) (ar.map qBa)) (R.any fun r=>ar.any (iaB r.1 r.2)):=by
 obtain ⟨n1,h1⟩:=qA9 (F:=fun (r:Int×Int) n=>qCl n r.1 r.2 (ar.map qBa)) (f:=fun r=>ar.any (iaB r.1 r.2)) R fun r _=>
  qFS (qDv (F:=fun n=>qCl n r.1 r.2 (ar.map qBa)) (R:=fun n=>qD4 n r.1 r.2 (ar.map qBa)) (qQa rfl (qBO (qOG ar ha r.1 r.2) (qA7 rfl))) fun n=>rfl)
 refine qFS (qDv (R:=fun n=>qq n (R.map qAQ) (ar.map qBa)) (qBO (r:=qLp (fun r:Int×Int=>ar.any (iaB r.1 r.2)) R) (qFS (qDv (F:=fun n=>qx n (R.map qAQ) (ar.map qBa)) (R:=fun n=>qw n (R.map qAQ) (ar.map qBa)) (qUx (fun r:Int×Int=>ar.any (iaB r.1 r.2)) (l:=R) ⟨n1+R.length+2,fun m hm=>?_⟩ (fun _ _=>rfl) fun _ _=>rfl) fun n=>rfl)) (qA7 (qRx _ _))) fun n=>rfl)
 have h:=qOD (B:=qp m) (fun i=>(R.map qAQ,ar.map qBa,((R.map qAQ).length:Int),(i:Int))) R (fun i (c:Int×Int)=>if ar.any (iaB c.1 c.2)=true then some (Sum.inl (β:=Unit) (i:Int)) else none) (.inr ())
  (fun i c he=>by
   have hi:=(List.getElem?_eq_some_iff.1 he).1
   obtain ⟨a1,a2⟩:=qE2 rfl (qKb (enc:=qAQ) he)
   have h1:=h1 m (by omega) c (List.mem_of_getElem? he)
   have w:IntKind.i64.wrap ((i:Int)+1)=((i+1:Nat):Int):=by rw [qT (by omega)];omega
   refine qD (decide_eq_true (by simpa using hi)) (qD a1 (qA a2 (qD rfl (qA rfl (qA rfl (qA h1 ?_))))))
   by_cases hc:ar.any (iaB c.1 c.2)=true
   ·rw [if_pos hc];exact qD hc rfl
   ·rw [if_neg hc]
    refine qO (Bool.eq_false_iff.2 hc) ?_
    dsimp only
    rw [w]
    rfl)
  (qO (decide_eq_false (by simp)) rfl) m (by omega)
 exact h
theorem qWR {α:Type} (p:α→Bool) (l:List α) {K1:Int→Tr Int} {K2:Unit→Tr Int} {o:Option (Int⊕Unit)} (ho:o=some ((qEq (fun i a=>if p a=true then some (Sum.inl (β:=Unit) (i:Int)) else none) 0 l).getD (.inr ()))) (h1:∀r,K1 r= .done r) (h2:∀r,K2 r= .done (-1)):
  (Tr.opt o fun r=> .alt r K1 K2).run=some (qLp p l):=by
 subst ho
 rw [qRt]
 unfold qLp
 cases qEq (fun i a=>if p a=true then some (i:Int) else none) 0 l with
 |some k=>show (K1 k).run=_;rw [h1];rfl
 |none=>show (K2 ()).run=_;rw [h2];rfl
theorem qRz (K:List Nat) (hK:K.length≤140737488351232) (o:List Bool) (ho:∀k∈K,k<o.length) (n:Nat) (hn:K.length+10≤n):qAN n (K.map qOK) (o.map qEH)=some (K.any fun k=>o[k]?==some true):=by
 have hf:∀k∈K,∀q,qD6 (q+1) (k:Int) (o.map qEH)=some (o[k]?==some true):=fun k hk q=>by
  have hl:=ho k hk
  have hg:=List.getElem?_eq_getElem hl
  have hr:(o.map qEH)[((k:Int)).toNat]?=some (qEH o[k]):=by rw [Int.toNat_natCast,List.getElem?_map,hg];rfl
  rw [hg]
  show (qD5 q (k:Int) (o.map qEH)).run=_
  refine qA rfl (qD (decide_eq_true ⟨by omega,by simp;omega⟩) (qA hr (qD rfl (qA rfl ?_))))
  rw [qC]
  cases o[k]<;>rfl
 obtain ⟨q,rfl⟩:∃q,n=q+3:=⟨n-3,by omega⟩
 have h:=qOD (B:=qAL (q+1)) (fun i=>(K.map qOK,o.map qEH,((K.map qOK).length:Int),(i:Int))) K (fun i (k:Nat)=>if (o[k]?==some true)=true then some (Sum.inl (β:=Unit) (i:Int)) else none) (.inr ())
  (fun i c he=>by
   have hi:=(List.getElem?_eq_some_iff.1 he).1
   obtain ⟨a1,a2⟩:=qE2 rfl (qKb (enc:=qOK) he)
   have h1:=hf c (List.mem_of_getElem? he) q
   have w:IntKind.i64.wrap ((i:Int)+1)=((i+1:Nat):Int):=by rw [qT (by omega)];omega
   refine qD (decide_eq_true (by simpa using hi)) (qD a1 (qA a2 (qD rfl (qA rfl (qA h1 ?_)))))
   by_cases hc:(o[c]?==some true)=true
   ·rw [if_pos hc];exact qD hc rfl
   ·rw [if_neg hc]
    refine qO (Bool.eq_false_iff.2 hc) ?_
    dsimp only
    rw [w]
    rfl)
  (qO (decide_eq_false (by simp)) rfl) (q+1) (by omega)
 have hI:qAS (q+2) (K.map qOK) (o.map qEH)=some (qLp (fun k:Nat=>o[k]?==some true) K):=qWR _ K h (fun _=>rfl) fun _=>rfl
 refine (qA hI ?_:(qAM (q+2) (K.map qOK) (o.map qEH)).run=_)
 rw [qC,qRx]
theorem qLq (n:Nat) (l:List Cl) (hl:l.length≤120) (S F:List (List PV)) (hn:200≤n):∀(d i:Nat) (o:List Bool) (m:Bool) (M:Nat),i+d=l.length→o.length=l.length→d+1≤M→
  zC (qDX n) M (m,(List.range l.length).map (qFA l),(l.length:Int),(i:Int),S,F,(List.range l.length).map (qFA l),l.length,o.map qEH)=some ((rnd (scL l) d i o m).2,S,F,(List.range l.length).map (qFA l),l.length,(rnd (scL l) d i o m).1.map qEH)
 |0,i,o,m,M,hd,ho,hM=>by
  obtain ⟨M,rfl⟩:∃q,M=q+1:=⟨M-1,by omega⟩
  exact qP (qO (decide_eq_false (by dsimp only;omega)) rfl)
 |d+1,i,o,m,M,hd,ho,hM=>by
  obtain ⟨M,rfl⟩:∃q,M=q+1:=⟨M-1,by omega⟩
  have hi:i<l.length:=by omega
  have hil:i<o.length:=by omega
  have hg:=List.getElem?_eq_getElem hil
  have w:IntKind.i64.wrap ((i:Int)+1)=((i+1:Nat):Int):=by rw [qT (by omega)];omega
  have c1:decide ((i:Int)<(l.length:Int))=true:=decide_eq_true (by omega)
  have c2:decide (0≤(i:Int)∧(i:Int)<(((List.range l.length).map (qFA l)).length:Int))=true:=decide_eq_true ⟨by omega,by simp;omega⟩
  have c3:((List.range l.length).map (qFA l))[((i:Int)).toNat]?=some (qFA l i):=by
   rw [Int.toNat_natCast,List.getElem?_map,List.getElem?_range hi]
   rfl
  have c4:decide (l.length=(o.map qEH).length∧0≤(i:Int)∧(i:Int)<((l.length:Nat):Int))=true:=decide_eq_true ⟨by rw [List.length_map,ho],by omega,by omega⟩
  generalize o[i]=b at hg
  have c5:(o.map qEH)[((i:Int)).toNat]?=some (qEH b):=by rw [Int.toNat_natCast,List.getElem?_map,hg];rfl
  have hsl:(scL l i).length≤120:=Nat.le_trans (qSx _ _ _) hl
  have hc:=qRz (scL l i) (by omega) o (fun k hk=>by have:k<l.length:=qRu hk;omega) n (by omega)
  have c6:decide (l.length=(o.map qEH).length)=true:=decide_eq_true (by rw [List.length_map,ho])
  unfold rnd
  rw [hg]
  cases b with
  |true=>
   rw [if_pos rfl]
   have ih:=qLq n l hl S F hn d (i+1) o m M (by omega) ho (by omega)
   rw [qQ (v':=(m,(List.range l.length).map (qFA l),(l.length:Int),((i+1:Nat):Int),S,F,(List.range l.length).map (qFA l),l.length,o.map qEH)) (by
    refine qD c1 (qD c2 (qA c3 (qD rfl (qA rfl (qD c4 (qA c5 (qA rfl (qO rfl ?_))))))))
    rw [qC,←w])]
   exact ih
  |false=>
   rw [if_neg (by simp)]
   cases hq:(scL l i).any fun k=>o[k]?==some true with
   |true=>
    rw [if_pos rfl]
    rw [hq] at hc
    have ih:=qLq n l hl S F hn d (i+1) (o.set i true) true M (by omega) (by rw [List.length_set];exact ho) (by omega)
    rw [qQ (v':=(true,(List.range l.length).map (qFA l),(l.length:Int),((i+1:Nat):Int),S,F,(List.range l.length).map (qFA l),l.length,(o.set i true).map qEH)) (by
     refine qD c1 (qD c2 (qA c3 (qD rfl (qA rfl (qD c4 (qA c5 (qA rfl (qD rfl (qD c6 (qA hc (qD (qF _) (qD rfl (qD c4 (qA c5 (qD rfl ?_)))))))))))))))
     rw [qC,←w,List.map_set,Int.toNat_natCast]
     rfl)]
    exact ih
   |false=>
    rw [if_neg (by simp)]
    rw [hq] at hc
    have ih:=qLq n l hl S F hn d (i+1) o m M (by omega) ho (by omega)
    rw [qQ (v':=(m,(List.range l.length).map (qFA l),(l.length:Int),((i+1:Nat):Int),S,F,(List.range l.length).map (qFA l),l.length,o.map qEH)) (by
     refine qD c1 (qD c2 (qA c3 (qD rfl (qA rfl (qD c4 (qA c5 (qA rfl (qD rfl (qD c6 (qA hc (qD (qF _) (qO rfl ?_))))))))))))
     rw [qC,←w])]
    exact ih
def Clo (sc:Nat→List Nat) (n:Nat) (o:List Bool):Prop:=∀i,i<n→∀k∈sc i,o[k]?=some true→o[i]?=some true
theorem TI.uniq {bs:Nat→Prop} {sc:Nat→List Nat} {n:Nat} {o1 o2:List Bool} (h1:TI bs sc n o1) (h2:TI bs sc n o2) (c1:Clo sc n o1) (c2:Clo sc n o2) (hn:∀i,∀k∈sc i,k<n):o1=o2:=by
 refine List.ext_getElem? fun i=>?_
 by_cases hi:i<n
 ·have e:=(h1.all hn c1 hi).trans (h2.all hn c2 hi).symm
  have l1:i<o1.length:=by rw [h1.ln];exact hi
  have l2:i<o2.length:=by rw [h2.ln];exact hi
  rw [List.getElem?_eq_getElem l1,List.getElem?_eq_getElem l2] at e⊢
  simp only [Option.some.injEq] at e⊢
  exact Bool.eq_iff_iff.2 e
 ·rw [List.getElem?_eq_none (by rw [h1.ln];omega),List.getElem?_eq_none (by rw [h2.ln];omega)]
theorem qVL (n:Nat) (l:List Cl) (hl:l.length≤120) (S F:List (List PV)) (hn:200≤n) (bs:Nat→Prop):∀(d:Nat) (o:List Bool) (M:Nat),qQV o≤d→TI bs (scL l) l.length o→d+2≤M→
  ∃o',TI bs (scL l) l.length o'∧Clo (scL l) l.length o'∧zC (qCT n) M (true,S,F,(List.range l.length).map (qFA l),l.length,o.map qEH)=some (l.length,o'.map qEH):=by
 intro d
 induction d with
 |zero=>
  intro o M hd hT hM
  obtain ⟨M,rfl⟩:∃q,M=q+2:=⟨M-2,by omega⟩
  obtain ⟨a,b,c,e,f⟩:=qNN l.length 0 o false (by omega) hT
  have hp:=qLq n l hl S F hn l.length 0 o false n (by omega) hT.ln (by omega)
  have eL:(((List.range l.length).map (qFA l)).length:Int)=(l.length:Int):=by simp
  cases hm:(rnd (scL l) l.length 0 o false).2 with
  |true=>have:=f rfl hm;omega
  |false=>
   obtain ⟨_,e2,e3⟩:=e hm
   refine ⟨o,hT,fun i hi=>e3 i (Nat.zero_le _) hi,?_⟩
   rw [hm,e2] at hp
   have hp2:=hp
   rw [←eL] at hp2
   rw [qQ (v':=(false,S,F,(List.range l.length).map (qFA l),l.length,o.map qEH)) (by exact qD rfl (qA hp2 rfl))]
   exact qP (qO rfl rfl)
 |succ d ih=>
  intro o M hd hT hM
  obtain ⟨M,rfl⟩:∃q,M=q+2:=⟨M-2,by omega⟩
  obtain ⟨a,b,c,e,f⟩:=qNN l.length 0 o false (by omega) hT
  have hp:=qLq n l hl S F hn l.length 0 o false n (by omega) hT.ln (by omega)
  have eL:(((List.range l.length).map (qFA l)).length:Int)=(l.length:Int):=by simp
  cases hm:(rnd (scL l) l.length 0 o false).2 with
  |true=>
   have hf:=f rfl hm
   obtain ⟨o',q1,q2,q3⟩:=ih (rnd (scL l) l.length 0 o false).1 (M+1) (by omega) a (by omega)
   refine ⟨o',q1,q2,?_⟩
   rw [hm] at hp
   have hp2:=hp
   rw [←eL] at hp2
   rw [qQ (v':=(true,S,F,(List.range l.length).map (qFA l),l.length,(rnd (scL l) l.length 0 o false).1.map qEH)) (by exact qD rfl (qA hp2 rfl))]
   exact q3
  |false=>
   obtain ⟨_,e2,e3⟩:=e hm
   refine ⟨o,hT,fun i hi=>e3 i (Nat.zero_le _) hi,?_⟩
   rw [hm,e2] at hp
   have hp2:=hp
   rw [←eL] at hp2
   rw [qQ (v':=(false,S,F,(List.range l.length).map (qFA l),l.length,o.map qEH)) (by exact qD rfl (qA hp2 rfl))]
   exact qP (qO rfl rfl)
def hrB (l:List Cl) (R:List (Int×Int)) (i:Nat):Bool:=R.any (isR (qF6 l i).1 (qF6 l i).2)
def b2B (l:List Cl) (R:List (Int×Int)) (i:Nat):Bool:=R.any fun r=>(arL (qPY l i)).any (iaB r.1 r.2)
def o0 (l:List Cl) (R:List (Int×Int)) (i:Nat):List Bool:=(List.range l.length).map fun k=>decide (k<i)&&(hrB l R k||b2B l R k)
theorem qWy {l:List Cl} {R:List (Int×Int)} {i:Nat} (hi:i<l.length):(o0 l R i).set i (hrB l R i||b2B l R i)=o0 l R (i+1):=by
 refine List.ext_getElem? fun j=>?_
 unfold o0
 by_cases hj:j<l.length
 ·by_cases e:i=j
  ·subst e
   rw [List.getElem?_set_self (by simpa using hi),List.getElem?_map,List.getElem?_range hi]
   simp
  ·rw [List.getElem?_set_ne e,List.getElem?_map,List.getElem?_map,List.getElem?_range hj]
   simp only [Option.map_some]
   have:decide (j<i)=decide (j<i+1):=by
    by_cases h:j<i
    ·rw [decide_eq_true h,decide_eq_true (by omega)]
    ·rw [decide_eq_false h,decide_eq_false (by omega)]
   rw [this]
 ·rw [List.getElem?_eq_none (by simp;omega),List.getElem?_eq_none (by simp;omega)]
theorem qWb (l:List Cl) (R:List (Int×Int)):TI (fun i=>hrB l R i=true∨b2B l R i=true) (scL l) l.length (o0 l R l.length):=by
 refine ⟨by simp [o0],fun i hi=>?_,fun i hi hb=>?_⟩
 ·have hl:i<l.length:=by
   have:=(List.getElem?_eq_some_iff.1 hi).1
   simpa [o0] using this
  unfold o0 at hi
  rw [List.getElem?_map,List.getElem?_range hl] at hi
  simp only [Option.map_some,Option.some.injEq,Bool.and_eq_true,Bool.or_eq_true] at hi
  exact .zero hi.2
 ·unfold o0
  rw [List.getElem?_map,List.getElem?_range hi]
  simp only [Option.map_some,Option.some.injEq,Bool.and_eq_true,Bool.or_eq_true,decide_eq_true_eq]
  exact ⟨hi,hb⟩
theorem qWz {l:List Cl} {R:List (Int×Int)} {i:Nat} {c:Cl} (h:l[i]?=some c):hrB l R i=R.any (isR c.1 c.2.1):=by unfold hrB;rw [qEA h];rfl
theorem qW0 {l:List Cl} {R:List (Int×Int)} {i:Nat} {c:Cl} (h:l[i]?=some c):b2B l R i=R.any fun r=>(arL c.2.2).any (iaB r.1 r.2):=by unfold b2B qPY;rw [h];rfl
theorem qVM (l:List Cl) (hl:l.length≤120) (R:List (Int×Int)) (hR:R.length≤140737488351232):∃n0,∀m,n0≤m→zC (qCS m) m (R.map qAQ,l.map qU,(l.length:Int),0,l.map qU,l.map qMQ,(List.range l.length).map (qFA l),l.length,(o0 l R 0).map qEH)=
  some (l.map qU,l.map qMQ,(List.range l.length).map (qFA l),l.length,(o0 l R l.length).map qEH):=by
 obtain ⟨n1,h1⟩:=qA9 (F:=fun (c:Cl) n=>qDt n ((fnL c.2.2).1.map qW)) (f:=fun c=>(arL c.2.2).map qBa) l fun c hc=>by
  have:=qKa (fnL c.2.2).1 (by have:=(qRp c.2.2).1;omega)
  rwa [qRq] at this
 obtain ⟨n2,h2⟩:=qA9 (F:=fun (c:Cl) n=>qAs n (R.map qAQ) c.1 c.2.1) (f:=fun c=>R.any (isR c.1 c.2.1)) l fun c _=>qRy R hR c.1 c.2.1
 obtain ⟨n3,h3⟩:=qA9 (F:=fun (c:Cl) n=>qd n (R.map qAQ) ((arL c.2.2).map qBa)) (f:=fun c=>R.any fun r=>(arL c.2.2).any (iaB r.1 r.2)) l fun c _=>qSX R hR (arL c.2.2) (by have:=qTW c.2.2;omega)
 refine ⟨n1+n2+n3+l.length+3,fun m hm=>?_⟩
 have h:=qOD (B:=qCS m) (fun i=>(R.map qAQ,l.map qU,(l.length:Int),(i:Int),l.map qU,l.map qMQ,(List.range l.length).map (qFA l),l.length,(o0 l R i).map qEH)) l (fun _ _=>none) (l.map qU,l.map qMQ,(List.range l.length).map (qFA l),l.length,(o0 l R l.length).map qEH)
  (fun i c he=>by
   have hi:=(List.getElem?_eq_some_iff.1 he).1
   obtain ⟨a1,a2⟩:=qE2 rfl (qKb (enc:=qU) he)
   obtain ⟨a3,a4⟩:=qE2 (k:=(i:Int)) rfl (qKb (enc:=qMQ) he)
   have hmem:=List.mem_of_getElem? he
   have h1:=h1 m (by omega) c hmem
   have h2:=h2 m (by omega) c hmem
   have h3:=h3 m (by omega) c hmem
   have w:IntKind.i64.wrap ((i:Int)+1)=((i+1:Nat):Int):=by rw [qT (by omega)];omega
   have ol:(o0 l R i).length=l.length:=by simp [o0]
   have c4:decide (l.length=((o0 l R i).map qEH).length∧0≤(i:Int)∧(i:Int)<((l.length:Nat):Int))=true:=decide_eq_true ⟨by rw [List.length_map,ol],by omega,by omega⟩
   have hg:=List.getElem?_eq_getElem (l:=o0 l R i) (i:=i) (by omega)
   generalize (o0 l R i)[i]=b at hg
   have c5:((o0 l R i).map qEH)[((i:Int)).toNat]?=some (qEH b):=by rw [Int.toNat_natCast,List.getElem?_map,hg];rfl
   have es:=qWy (l:=l) (R:=R) hi
   rw [qWz he,qW0 he] at es
   refine qD (decide_eq_true (by dsimp only;omega)) (qD a1 (qA a2 (qD rfl (qA rfl (qA rfl (qA rfl (qD a3 (qA a4 (qD rfl (qA rfl (qA h1 (qA h2 ?_))))))))))))
   dsimp only
   rw [w,←es]
   cases R.any (isR c.1 c.2.1) with
   |true=>
    refine qD rfl (qD c4 (qA c5 (qD rfl ?_)))
    rw [qC,List.map_set,Int.toNat_natCast]
    rfl
   |false=>
    refine qO rfl (qA h3 (qD c4 (qA c5 (qD rfl ?_))))
    rw [qC,List.map_set,Int.toNat_natCast,Bool.false_or]
    rfl)
  (qO (decide_eq_false (by simp)) rfl) m (by omega)
 rw [qEK] at h
 exact h
theorem qVy (l:List Cl) (R:List (Int×Int)):∃o:List Bool,TI (fun i=>hrB l R i=true∨b2B l R i=true) (scL l) l.length o∧Clo (scL l) l.length o:=by
 have key:∀(d:Nat) (o:List Bool),qQV o≤d→TI (fun i=>hrB l R i=true∨b2B l R i=true) (scL l) l.length o→∃o',TI (fun i=>hrB l R i=true∨b2B l R i=true) (scL l) l.length o'∧Clo (scL l) l.length o':=fun d=>by
  induction d with
  |zero=>
   intro o hd hT
   obtain ⟨a,b,c,e,f⟩:=qNN l.length 0 o false (by omega) hT
   cases hm:(rnd (scL l) l.length 0 o false).2 with
   |true=>have:=f rfl hm;omega
   |false=>exact ⟨o,hT,fun i hi=>(e hm).2.2 i (Nat.zero_le _) hi⟩
  |succ d ih=>
   intro o hd hT
   obtain ⟨a,b,c,e,f⟩:=qNN l.length 0 o false (by omega) hT
   cases hm:(rnd (scL l) l.length 0 o false).2 with
   |true=>exact ih _ (by have:=f rfl hm;omega) a
   |false=>exact ⟨o,hT,fun i hi=>(e hm).2.2 i (Nat.zero_le _) hi⟩
 exact key _ _ (Nat.le_refl _) (qWb l R)
noncomputable def tfl (l:List Cl) (R:List (Int×Int)):List Bool:=Classical.choose (qVy l R)
theorem qPN (l:List Cl) (R:List (Int×Int)):TI (fun i=>hrB l R i=true∨b2B l R i=true) (scL l) l.length (tfl l R)∧Clo (scL l) l.length (tfl l R):=Classical.choose_spec (qVy l R)
theorem qVz {l:List Cl} (i:Nat):∀k∈scL l i,k<l.length:=fun k hk=>qRu hk
theorem qUE (l:List Cl) (hl:l.length≤120) (R:List (Int×Int)) (hR:R.length≤140737488351232):Ev (qEc · (l.map qU) (l.map qMQ) ((List.range l.length).map (qFA l)) (R.map qAQ)) ((tfl l R).map qEH):=by
 obtain ⟨n1,h1⟩:=qVM l hl R hR
 have ho:∀m,n1+400≤m→zC (qCT m) m (true,l.map qU,l.map qMQ,(List.range l.length).map (qFA l),l.length,(o0 l R l.length).map qEH)=some (l.length,(tfl l R).map qEH):=fun m hm=>by
  have hoff:qQV (o0 l R l.length)≤l.length:=by
   have:=List.count_le_length (a:=false) (l:=o0 l R l.length)
   have h2:(o0 l R l.length).length=l.length:=by simp [o0]
   unfold qQV
   omega
  obtain ⟨o',q1,q2,q3⟩:=qVL m l hl (l.map qU) (l.map qMQ) (by omega) _ l.length (o0 l R l.length) m hoff (qWb l R) (by omega)
  rw [q1.uniq (qPN l R).1 q2 (qPN l R).2 qVz] at q3
  exact q3
 have e1:(((l.map qU).length:Int)).toNat=l.length:=by simp
 have e2:zAI [(.b false)] l.length=(o0 l R 0).map qEH:=by
  simp [zAI,o0]
  show _=List.map (fun _=> [PV.b false]) (List.range l.length)
  rw [List.map_const',List.length_range]
 have e3:((l.map qU).length:Int)=(l.length:Int):=by simp
 refine qFS (qDv (R:=fun n=>qEb n (l.map qU) (l.map qMQ) ((List.range l.length).map (qFA l)) (R.map qAQ)) (qCi (decide_eq_true (by rw [List.length_map];omega)) ?_) fun n=>rfl)
 refine qBO ⟨n1,fun m hm=>by dsimp only;rw [e1,e2,e3];exact h1 m hm⟩ (qBO ⟨n1+400,ho⟩ (qCi (decide_eq_true (by simp [(qPN l R).1.ln])) (qA7 rfl)))
noncomputable def qIK (l:List Cl) (R:List (Int×Int)) (i:Nat):List Nat:=(List.range i).filter fun k=>(tfl l R)[k]?==some true
theorem qSy (l:List Cl) (R:List (Int×Int)) (i:Nat):qIK l R (i+1)=qIK l R i++(if ((tfl l R)[i]?==some true)=true then [i] else []):=by
 unfold qIK
 rw [List.range_succ,List.filter_append,List.filter_cons]
 rfl
theorem qR0 (l:List Cl) (R:List (Int×Int)) (i:Nat):(qIK l R i).length≤i:=by
 unfold qIK
 have:=List.length_filter_le (fun k=>(tfl l R)[k]?==some true) (List.range i)
 rwa [List.length_range] at this
noncomputable def qGj (l:List Cl) (R:List (Int×Int)):List (Int×Int):=if qD9 l=true∧R.length≤120 then (qIK l R l.length).map (qF6 l) else []
theorem qUY (l:List Cl) (hl:l.length≤120) (R:List (Int×Int)) (m:Nat) (hm:l.length+3≤m):zC (qEO m) m (l.map qU,0,(tfl l R).map qEH,(((tfl l R).map qEH).length:Int),0,[])=some ((qIK l R l.length).length,(qIK l R l.length).map (qRv l)):=by
 have hT:=(qPN l R).1
 have eL:(((tfl l R).map qEH).length:Int)=(l.length:Int):=by rw [List.length_map,hT.ln]
 rw [eL]
 have h:=qOD (B:=qEO m) (fun i=>(l.map qU,(qIK l R i).length,(tfl l R).map qEH,(l.length:Int),(i:Int),(qIK l R i).map (qRv l))) l (fun _ _=>none) ((qIK l R l.length).length,(qIK l R l.length).map (qRv l))
  (fun i c he=>by
   have hi:=(List.getElem?_eq_some_iff.1 he).1
   obtain ⟨a1,a2⟩:=qE2 (k:=(i:Int)) rfl (qKb (enc:=qU) he)
   obtain ⟨b,hg⟩:∃b,(tfl l R)[i]?=some b:=⟨_,List.getElem?_eq_getElem (by rw [hT.ln];exact hi)⟩
   obtain ⟨a3,a4⟩:=qE2 (k:=(i:Int)) rfl (qKb (enc:=qEH) hg)
   have w:IntKind.i64.wrap ((i:Int)+1)=((i+1:Nat):Int):=by rw [qT (by omega)];omega
   have hle:(qIK l R i).length≤1000:=Nat.le_trans (qR0 _ _ _) (by omega)
   have er:qRv l i= [.i .i64 c.1,.i .i64 c.2.1]:=by unfold qRv;rw [qEA he];rfl
   refine qD (decide_eq_true (by dsimp only;omega)) (qD a3 (qA a4 (qD rfl (qA rfl ?_))))
   dsimp only
   rw [qSy,w,hg]
   cases b with
   |true=>
    refine qD rfl (qD a1 (qA a2 (qD rfl (qA rfl (qA rfl (qD rfl (qD (qUw (by simp) hle rfl) ?_)))))))
    rw [qC,show (if ((some true:Option Bool)==some true)=true then [i] else [])= [i] from rfl,List.length_append,List.map_append,List.map_singleton,er]
    rfl
   |false=>
    refine qO rfl ?_
    rw [qC,show (if ((some false:Option Bool)==some true)=true then [i] else [])= [] from rfl,List.append_nil])
  (qO (decide_eq_false (by simp)) rfl) m (by omega)
 rw [qEK] at h
 exact h
theorem qQW (l:List Cl) (R:List (Int×Int)) (hb:l.length≤140737488351232) (hR:R.length≤140737488351232) (hs:∀c∈l,c.2.2.size≤140737488351232):Ev (qFr · (l.map qU) (R.map qAQ)) ((qGj l R).length,(qGj l R).map qAQ):=by
 have hS:=qQQ l hb hs
 refine qFS (qDv (R:=fun n=>qH5 n (l.map qU) (R.map qAQ)) (qBO hS ?_) fun n=>rfl)
 unfold qGj
 cases h:qD9 l with
 |false=>
  rw [if_neg (by simp)]
  exact qCi rfl (qA7 rfl)
 |true=>
  have hl:=qHQ h
  refine qJi rfl ?_
  by_cases hq:R.length≤120
  ·rw [if_pos ⟨rfl,hq⟩]
   refine qJi (decide_eq_false (by rw [List.length_map];omega)) (qBO (qUB l hl hs) (qBO (qUE l hl R hR) (qBO ⟨l.length+3,fun m hm=>qUY l hl R m hm⟩ (qA7 ?_))))
   rw [List.length_map,List.map_map]
   rfl
  ·rw [if_neg (fun e=>hq e.2)]
   exact qCi (decide_eq_true (by rw [List.length_map];omega)) (qA7 rfl)
def qC6 (l:List Cl) (R:List (Int×Int)) (A:List Nat):List (Int×Int):=R++A.map (qF6 l)
theorem qV0 (x y:Int) (q:Int×Int):isR x y q=(q==(x,y)):=by
 rw [Bool.eq_iff_iff]
 simp only [isR,Bool.and_true,Bool.and_eq_true,beq_iff_eq,Prod.ext_iff]
 exact ⟨fun h=>⟨h.1.symm,h.2.symm⟩,fun h=>⟨h.1.symm,h.2.symm⟩⟩
theorem qUz {l:List Cl} (h:qD9 l=true) {R:List (Int×Int)} {A:List Nat} (hA:∀a∈A,a<l.length) {i:Nat} (hi:i<l.length):((qC6 l R A).any fun q=>q==qF6 l i)=(hrB l R i||A.contains i):=by
 unfold qC6 hrB
 rw [List.any_append,List.any_map]
 congr 1
 ·exact congrArg (fun f=>R.any f) (funext fun q=>(qV0 _ _ q).symm)
 ·exact qWx h hA hi
theorem qW1 {l:List Cl} {R:List (Int×Int)} {A:List Nat} (hA:∀a∈A,a<l.length) (i:Nat):((arL (qPY l i)).any fun a=>(qC6 l R A).any fun r=>iaB r.1 r.2 a)=(b2B l R i||A.any fun k=>(scL l i).contains k):=by
 rw [Bool.eq_iff_iff]
 simp only [List.any_eq_true,Bool.or_eq_true,b2B,qC6,List.mem_append,List.mem_map,List.contains_iff_mem]
 have hk:∀k,k<l.length→(k∈scL l i↔∃a∈arL (qPY l i),iaB (qF6 l k).1 (qF6 l k).2 a=true):=fun k hk=>by
  have hg:=List.getElem?_eq_getElem hk
  unfold scL qER
  rw [List.mem_filter,List.mem_range,qEA hg]
  unfold qVJ
  rw [hg,List.any_eq_true]
  exact ⟨fun h=>h.2,fun h=>⟨hk,h⟩⟩
 constructor
 ·rintro ⟨a,ha,r,hr|⟨k,hkA,rfl⟩,h⟩
  ·exact .inl ⟨r,hr,a,ha,h⟩
  ·exact .inr ⟨k,hkA,(hk k (hA k hkA)).2 ⟨a,ha,h⟩⟩
 ·rintro (⟨r,hr,a,ha,h⟩|⟨k,hkA,hks⟩)
  ·exact ⟨a,ha,r,.inl hr,h⟩
  ·obtain ⟨a,ha,h⟩:=(hk k (hA k hkA)).1 hks
   exact ⟨a,ha,_,.inr ⟨k,hkA,rfl⟩,h⟩
theorem qW2 {l:List Cl} {R:List (Int×Int)} (i k:Nat) (hk:k∈scL l i) (hr:hrB l R k=true):b2B l R i=true:=by
 have hkl:k<l.length:=qRu hk
 unfold hrB at hr
 obtain ⟨r,h1,h2⟩:=List.any_eq_true.1 hr
 rw [qV0] at h2
 have e:r=qF6 l k:=beq_iff_eq.1 h2
 subst e
 have hg:=List.getElem?_eq_getElem hkl
 unfold scL qER at hk
 have h3:=(List.mem_filter.1 hk).2
 unfold qVJ at h3
 rw [hg] at h3
 unfold b2B
 refine List.any_eq_true.2 ⟨_,h1,?_⟩
 rw [qEA hg]
 exact h3
theorem qU0 (L:List (Int×Int)) (hL:L.length≤100000000) (r:Int×Int):∀n,L.length+3≤n→qHJ n (L.map qAQ) r.1 r.2=some (L.any fun q=>q==r):=by
 intro n hn
 obtain ⟨m,rfl,hm⟩:=up1 hn
 have h:=qOD (B:=qGo m) (fun i=>(L.map qAQ,(i:Int),r.1,r.2)) L (fun _ q=>if (q==r)=true then some (.inl true) else none) (.inr ())
  (fun i q he=>by
   have hi:=(List.getElem?_eq_some_iff.1 he).1
   obtain ⟨a1,a2⟩:=qE2 rfl (qKb (enc:=qAQ) he)
   have w:IntKind.i64.wrap ((i:Int)+1)=((i+1:Nat):Int):=by rw [qT (by omega)];omega
   have e:(q==r)=(q.1==r.1&&(q.2==r.2&&true)):=by rw [Bool.and_true];rfl
   refine qD (decide_eq_true (by simpa using hi)) (qD a1 (qA a2 (qD rfl (qA rfl (qA rfl ?_)))))
   by_cases hc:(q==r)=true
   ·rw [if_pos hc];exact qD (e▸hc) rfl
   ·rw [if_neg hc]
    refine qO (e▸Bool.eq_false_iff.2 hc) ?_
    dsimp only
    rw [w]
    rfl)
  (qO (decide_eq_false (by simp)) rfl) m (by omega)
 refine qA h ?_
 have key:∀(Q:List (Int×Int)) (i:Nat),(qEq (fun _ q=>if (q==r)=true then some (Sum.inl (β:=Unit) true) else none) i Q).getD (.inr ())=if (Q.any fun q=>q==r)=true then .inl true else .inr ():=fun Q=>by
  induction Q with
  |nil=>exact fun i=>rfl
  |cons a Q ih=>
   intro i
   unfold qEq
   rw [List.any_cons]
   cases a==r with
   |true=>rfl
   |false=>exact ih (i+1)
 rw [key]
 cases L.any fun q=>q==r<;>rfl
theorem qU1 (x lo hi:Int) (q:Nat):qA1 (q+1) x lo hi=some (decide (lo≤x∧x≤hi)):=by
 show (qGW q x lo hi).run=_
 by_cases h:x≥lo
 ·refine qD (decide_eq_true h) ?_
  rw [qC]
  by_cases h2:x≤hi
  ·rw [decide_eq_true h2,decide_eq_true ⟨h,h2⟩]
  ·rw [decide_eq_false h2,decide_eq_false (fun e=>h2 e.2)]
 ·refine qO (decide_eq_false h) ?_
  rw [qC,decide_eq_false (fun e=>h e.1)]
theorem qVN (x y:Int) (a:Ar) (q:Nat):qGq (q+2) x y a.1 a.2.1 a.2.2.1 a.2.2.2=some (iaB x y a):=by
 show (qGp (q+1) x y a.1 a.2.1 a.2.2.1 a.2.2.2).run=_
 unfold iaB
 refine qA (qU1 x a.1 a.2.2.1 q) ?_
 by_cases h:a.1≤x∧x≤a.2.2.1
 ·rw [decide_eq_true h];exact qD rfl (qA (qU1 y a.2.1 a.2.2.2 q) rfl)
 ·rw [decide_eq_false h];exact qO rfl rfl
theorem qW3 (n:Nat) (hn:3≤n) (S:List (List PV)) (more:Bool) (i:Int) (ar:List Ar) (k:Nat) (a:Ar) (hk:ar[k]?=some a) (L:List (Int×Int)) (hL:L.length≤100000000) (is:Bool) (M:Nat) (hM:L.length+1≤M):
  zC (qCR n) M (S,L.length,more,i,ar.map qBa,is,(k:Int),0,L.map qAQ)=some (S,L.length,more,i,ar.map qBa,is||L.any (fun r=>iaB r.1 r.2 a),(k:Int),L.map qAQ):=by
 obtain ⟨q,rfl⟩:∃q,n=q+2:=⟨n-2,by omega⟩
 obtain ⟨b1,b2⟩:=qE2 (k:=(k:Int)) rfl (qKb (enc:=qBa) hk)
 have h:=qOD (B:=qCR (q+2)) (fun j=>(S,L.length,more,i,ar.map qBa,is||(L.take j).any (fun r=>iaB r.1 r.2 a),(k:Int),(j:Int),L.map qAQ)) L (fun _ _=>none) (S,L.length,more,i,ar.map qBa,is||L.any (fun r=>iaB r.1 r.2 a),(k:Int),L.map qAQ)
  (fun j r hj=>by
   have hji:=(List.getElem?_eq_some_iff.1 hj).1
   have w:IntKind.i64.wrap ((j:Int)+1)=((j+1:Nat):Int):=by rw [qT (by omega)];omega
   have a1:decide (L.length=(L.map qAQ).length∧0≤(j:Int)∧(j:Int)<((L.length:Nat):Int))=true:=decide_eq_true ⟨by simp,by omega,by omega⟩
   have a2:(L.map qAQ)[((j:Int)).toNat]?=some (qAQ r):=by rw [Int.toNat_natCast];exact qKb hj
   refine qD (decide_eq_true (by dsimp only;omega)) ?_
   dsimp only
   rw [qT9 hj,w]
   cases hq:(is||(L.take j).any fun r=>iaB r.1 r.2 a) with
   |true=>
    refine qD rfl ?_
    rw [qC,←Bool.or_assoc,hq,Bool.true_or]
   |false=>
    refine qO rfl (qD a1 (qA a2 (qA rfl (qA rfl (qD b1 (qA b2 (qD rfl (qA rfl (qA rfl (qA rfl (qA rfl (qA (qVN r.1 r.2 a q) ?_))))))))))))
    rw [qC,←Bool.or_assoc,hq,Bool.false_or])
  (qO (decide_eq_false (by simp)) (by rw [List.take_length];rfl)) M hM
 rw [qEK] at h
 simp only [List.take_zero,List.any_nil,Bool.or_false] at h
 exact h
theorem qWS (n:Nat) (S:List (List PV)) (more:Bool) (i:Int) (ar:List Ar) (har:ar.length≤60) (L:List (Int×Int)) (hL:L.length≤1000) (hn:1100≤n):
  zC (qCj n) n (S,L.length,more,i,ar.map qBa,false,0,L.map qAQ)=some (S,L.length,more,i,ar.any (fun a=>L.any fun r=>iaB r.1 r.2 a),L.map qAQ):=by
 have h:=qOD (B:=qCj n) (fun k=>(S,L.length,more,i,ar.map qBa,(ar.take k).any (fun a=>L.any fun r=>iaB r.1 r.2 a),(k:Int),L.map qAQ)) ar (fun _ _=>none) (S,L.length,more,i,ar.any (fun a=>L.any fun r=>iaB r.1 r.2 a),L.map qAQ)
  (fun k a hk=>by
   have hki:=(List.getElem?_eq_some_iff.1 hk).1
   have w:IntKind.i64.wrap ((k:Int)+1)=((k+1:Nat):Int):=by rw [qT (by omega)];omega
   refine qD (decide_eq_true (by simpa using hki)) (qA (qW3 n (by omega) S more i ar k a hk L (by omega) _ n (by omega)) ?_)
   rw [qC,qT9 hk]
   dsimp only
   rw [w])
  (qO (decide_eq_false (by simp)) (by rw [List.take_length];rfl)) n (by omega)
 rw [qEK] at h
 exact h
theorem qVO (l:List Cl) (R:List (Int×Int)) (A:List Nat) (i:Nat):qC6 l R (A++ [i])=qC6 l R A++ [qF6 l i]:=by
 unfold qC6
 rw [List.map_append,List.append_assoc]
 rfl
theorem qLr (n:Nat) (hn:1200≤n) (l:List Cl) (h:qD9 l=true) (R:List (Int×Int)) (hR:R.length≤120) (hA:∀c∈l,qDo n c.2.2=some ((arL c.2.2).map qBa)):∀(d i:Nat) (A:List Nat) (m:Bool) (M:Nat),i+d=l.length→SI (hrB l R) (b2B l R) (scL l) l.length A→d+1≤M→
  zC (qEU n) M (l.map qU,(qC6 l R A).length,m,(i:Int),(qC6 l R A).map qAQ)=some (l.map qU,(qC6 l R (srd (hrB l R) (b2B l R) (scL l) d i A m).1).length,(srd (hrB l R) (b2B l R) (scL l) d i A m).2,(qC6 l R (srd (hrB l R) (b2B l R) (scL l) d i A m).1).map qAQ)
 |0,i,A,m,M,hd,hS,hM=>by
  obtain ⟨M,rfl⟩:∃q,M=q+1:=⟨M-1,by omega⟩
  exact qP (qO (decide_eq_false (by dsimp only;rw [List.length_map];omega)) rfl)
 |d+1,i,A,m,M,hd,hS,hM=>by
  obtain ⟨M,rfl⟩:∃q,M=q+1:=⟨M-1,by omega⟩
  have hl:=qHQ h
  have hi:i<l.length:=by omega
  have he:=List.getElem?_eq_getElem hi
  have hmem:=List.getElem_mem hi
  have hr:=qEA he
  have hs:qPY l i=l[i].2.2:=by unfold qPY;rw [he];rfl
  generalize l[i]=c at he hmem hr hs
  have hAl:=qPL l.length A hS.nd hS.lt
  have hSl:(qC6 l R A).length=R.length+A.length:=by simp [qC6]
  have w:IntKind.i64.wrap ((i:Int)+1)=((i+1:Nat):Int):=by rw [qT (by omega)];omega
  obtain ⟨a1,a2⟩:=qE2 (k:=(i:Int)) rfl (qKb (enc:=qU) he)
  have c1:decide ((i:Int)<((l.map qU).length:Int))=true:=decide_eq_true (by rw [List.length_map];omega)
  have c2:decide ((qC6 l R A).length=((qC6 l R A).map qAQ).length)=true:=decide_eq_true (by simp)
  have hh:=qU0 (qC6 l R A) (by omega) (qF6 l i) n (by omega)
  rw [qUz h hS.lt hi,hr] at hh
  have hin:=qW1 (R:=R) hS.lt i
  rw [hs] at hin
  have hlp:=qWS n (l.map qU) m (i:Int) (arL c.2.2) (qTW _) (qC6 l R A) (by omega) (by omega)
  rw [hin] at hlp
  have hAr:=hA c hmem
  unfold srd
  cases q1:hrB l R i||A.contains i with
  |true=>
   rw [if_pos rfl]
   rw [q1] at hh
   have ih:=qLr n hn l h R hR hA d (i+1) A m M (by omega) hS (by omega)
   rw [qQ (v':=(l.map qU,(qC6 l R A).length,m,((i+1:Nat):Int),(qC6 l R A).map qAQ)) (by
    refine qD c1 (qD a1 (qA a2 (qD rfl (qA rfl (qA rfl (qD c2 (qA hh (qD (qF _) (qD rfl ?_)))))))))
    rw [qC,←w])]
   exact ih
  |false=>
   rw [if_neg (by simp)]
   rw [q1] at hh
   cases q2:b2B l R i||A.any fun k=>(scL l i).contains k with
   |true=>
    rw [if_pos rfl]
    rw [q2] at hlp
    have hS':=hS.add hi (by rw [q1];simp) q2
    have ih:=qLr n hn l h R hR hA d (i+1) (A++ [i]) true M (by omega) hS' (by omega)
    rw [qQ (v':=(l.map qU,(qC6 l R (A++ [i])).length,true,((i+1:Nat):Int),(qC6 l R (A++ [i])).map qAQ)) (by
     refine qD c1 (qD a1 (qA a2 (qD rfl (qA rfl (qA rfl (qD c2 (qA hh (qD (qF _) (qO rfl (qD a1 (qA a2 (qD rfl (qA rfl (qA hAr (qA hlp (qD rfl (qD a1 (qA a2 (qD rfl (qA rfl (qA rfl (qD rfl (qD (qWQ (by simp) (by dsimp only;omega) rfl) ?_)))))))))))))))))))))))
     rw [qC,←w,qVO,hr,List.length_append,List.map_append]
     rfl)]
    exact ih
   |false=>
    rw [if_neg (by simp)]
    rw [q2] at hlp
    have ih:=qLr n hn l h R hR hA d (i+1) A m M (by omega) hS (by omega)
    rw [qQ (v':=(l.map qU,(qC6 l R A).length,m,((i+1:Nat):Int),(qC6 l R A).map qAQ)) (by
     refine qD c1 (qD a1 (qA a2 (qD rfl (qA rfl (qA rfl (qD c2 (qA hh (qD (qF _) (qO rfl (qD a1 (qA a2 (qD rfl (qA rfl (qA hAr (qA hlp (qO rfl ?_))))))))))))))))
     rw [qC,←w])]
    exact ih
theorem qWT {l:List Cl} {R:List (Int×Int)} {A:List Nat} (hS:SI (hrB l R) (b2B l R) (scL l) l.length A) (hc:∀j,j<l.length→(b2B l R j||A.any fun k=>(scL l j).contains k)=true→(hrB l R j||A.contains j)=true) {i:Nat} (hi:i<l.length):
  (hrB l R i||A.contains i)=((tfl l R)[i]?==some true):=by
 have h1:=(qPN l R).1.all qVz (qPN l R).2 hi
 have h2:=hS.all qVz (fun i k hk hr=>qW2 i k hk hr) hc hi
 rw [Bool.eq_iff_iff,beq_iff_eq,h1,h2]
theorem qUZ (n:Nat) (hn:1200≤n) (l:List Cl) (h:qD9 l=true) (R:List (Int×Int)) (hR:R.length≤120) (hA:∀c∈l,qDo n c.2.2=some ((arL c.2.2).map qBa)):∀(d:Nat) (A:List Nat) (M:Nat),l.length≤A.length+d→SI (hrB l R) (b2B l R) (scL l) l.length A→d+2≤M→
  ∃A',SI (hrB l R) (b2B l R) (scL l) l.length A'∧(∀j,j<l.length→(b2B l R j||A'.any fun k=>(scL l j).contains k)=true→(hrB l R j||A'.contains j)=true)∧
   zC (qDd n) M (l.map qU,(qC6 l R A).length,true,(qC6 l R A).map qAQ)=some (l.map qU,(qC6 l R A').length,(qC6 l R A').map qAQ):=by
 have hl:=qHQ h
 intro d
 induction d with
 |zero=>
  intro A M hd hS hM
  obtain ⟨M,rfl⟩:∃q,M=q+2:=⟨M-2,by omega⟩
  obtain ⟨a,b,e,f⟩:=qRw l.length 0 A false (by omega) hS
  have hp:=qLr n hn l h R hR hA l.length 0 A false n (by omega) hS (by omega)
  cases hm:(srd (hrB l R) (b2B l R) (scL l) l.length 0 A false).2 with
  |true=>
   have:=f rfl hm
   have:=qPL l.length _ a.nd a.lt
   omega
  |false=>
   obtain ⟨_,e2,e3⟩:=e hm
   refine ⟨A,hS,fun j hj=>e3 j (Nat.zero_le _) hj,?_⟩
   rw [hm,e2] at hp
   rw [qQ (v':=(l.map qU,(qC6 l R A).length,false,(qC6 l R A).map qAQ)) (by exact qD rfl (qA hp rfl))]
   exact qP (qO rfl rfl)
 |succ d ih=>
  intro A M hd hS hM
  obtain ⟨M,rfl⟩:∃q,M=q+2:=⟨M-2,by omega⟩
  obtain ⟨a,b,e,f⟩:=qRw l.length 0 A false (by omega) hS
  have hp:=qLr n hn l h R hR hA l.length 0 A false n (by omega) hS (by omega)
  cases hm:(srd (hrB l R) (b2B l R) (scL l) l.length 0 A false).2 with
  |true=>
   have hf:=f rfl hm
   obtain ⟨A',q1,q2,q3⟩:=ih (srd (hrB l R) (b2B l R) (scL l) l.length 0 A false).1 (M+1) (by omega) a (by omega)
   refine ⟨A',q1,q2,?_⟩
   rw [hm] at hp
   rw [qQ (v':=(l.map qU,(qC6 l R (srd (hrB l R) (b2B l R) (scL l) l.length 0 A false).1).length,true,(qC6 l R (srd (hrB l R) (b2B l R) (scL l) l.length 0 A false).1).map qAQ)) (by exact qD rfl (qA hp rfl))]
   exact q3
  |false=>
   obtain ⟨_,e2,e3⟩:=e hm
   refine ⟨A,hS,fun j hj=>e3 j (Nat.zero_le _) hj,?_⟩
   rw [hm,e2] at hp
   rw [qQ (v':=(l.map qU,(qC6 l R A).length,false,(qC6 l R A).map qAQ)) (by exact qD rfl (qA hp rfl))]
   exact qP (qO rfl rfl)
theorem qVP (n:Nat) (hn:1200≤n) (l:List Cl) (h:qD9 l=true) (R:List (Int×Int)) (hR:R.length≤120) {A:List Nat} (hS:SI (hrB l R) (b2B l R) (scL l) l.length A) (hc:∀j,j<l.length→(b2B l R j||A.any fun k=>(scL l j).contains k)=true→(hrB l R j||A.contains j)=true):
  zC (qDH n) n (l.map qU,(qC6 l R A).length,0,0,(qC6 l R A).map qAQ,[])=some ((qIK l R l.length).length,(qIK l R l.length).map (qRv l)):=by
 have hl:=qHQ h
 have hAl:=qPL l.length A hS.nd hS.lt
 have hSl:(qC6 l R A).length=R.length+A.length:=by simp [qC6]
 have h:=qOD (B:=qDH n) (fun i=>(l.map qU,(qC6 l R A).length,(qIK l R i).length,(i:Int),(qC6 l R A).map qAQ,(qIK l R i).map (qRv l))) l (fun _ _=>none) ((qIK l R l.length).length,(qIK l R l.length).map (qRv l))
  (fun i c he=>by
   have hi:=(List.getElem?_eq_some_iff.1 he).1
   obtain ⟨a1,a2⟩:=qE2 (k:=(i:Int)) rfl (qKb (enc:=qU) he)
   have w:IntKind.i64.wrap ((i:Int)+1)=((i+1:Nat):Int):=by rw [qT (by omega)];omega
   have hle:(qIK l R i).length≤1000:=Nat.le_trans (qR0 _ _ _) (by omega)
   have er:qRv l i= [.i .i64 c.1,.i .i64 c.2.1]:=by unfold qRv;rw [qEA he];rfl
   have hh:=qU0 (qC6 l R A) (by omega) (qF6 l i) n (by omega)
   rw [qUz h hS.lt hi,qWT hS hc hi,qEA he] at hh
   have c2:decide ((qC6 l R A).length=((qC6 l R A).map qAQ).length)=true:=decide_eq_true (by simp)
   refine qD (decide_eq_true (by dsimp only;rw [List.length_map];omega)) (qD a1 (qA a2 (qD rfl (qA rfl (qA rfl (qD c2 (qA hh (qD (qF _) ?_))))))))
   dsimp only
   rw [qSy,w]
   cases hq:(tfl l R)[i]?==some true with
   |true=>
    refine qD rfl (qD a1 (qA a2 (qD rfl (qA rfl (qA rfl (qD rfl (qD (qUw (by simp) hle rfl) ?_)))))))
    rw [qC,if_pos rfl,List.length_append,List.map_append,List.map_singleton,er]
    rfl
   |false=>
    refine qO rfl ?_
    rw [qC,if_neg (by simp),List.append_nil])
  (qO (decide_eq_false (by simp)) rfl) n (by omega)
 rw [qEK] at h
 exact h
theorem qW4 (hr b2:Nat→Bool) (sc:Nat→List Nat) (n:Nat):SI hr b2 sc n []:=⟨List.nodup_nil,fun a ha=>(by cases ha),fun a ha=>(by cases ha)⟩
theorem qOL (l:List Cl) (h:qD9 l=true) (hs:∀c∈l,c.2.2.size≤140737488351232) (R:List (Int×Int)) (hR:R.length≤120):Ev (qGC · (l.map qU) (R.map qAQ)) ((qIK l R l.length).length,(qIK l R l.length).map (qRv l)):=by
 have hl:=qHQ h
 obtain ⟨n1,h1⟩:=qA9 (F:=fun (c:Cl) n=>qDo n c.2.2) (f:=fun c=>(arL c.2.2).map qBa) l fun c hc=>qQU _ (hs c hc)
 have e0:qC6 l R []=R:=by unfold qC6;simp
 refine qFS (qDv (R:=fun n=>qGB n (l.map qU) (R.map qAQ)) (qCi (decide_eq_true ⟨rfl,by decide,by decide,by rw [List.length_map];omega,List.all_eq_true.2 fun e he=>by obtain ⟨r,_,rfl⟩:=List.mem_map.1 he;rfl⟩) ?_) fun n=>rfl)
 have key:∀n,n1+1200≤n→∃A,SI (hrB l R) (b2B l R) (scL l) l.length A∧(∀j,j<l.length→(b2B l R j||A.any fun k=>(scL l j).contains k)=true→(hrB l R j||A.contains j)=true)∧
   zC (qDd n) n (l.map qU,(0+(R.map qAQ).length),true,([]:List (List PV))++R.map qAQ)=some (l.map qU,(qC6 l R A).length,(qC6 l R A).map qAQ):=fun n hn=>by
  obtain ⟨A,q1,q2,q3⟩:=qUZ n (by omega) l h R hR (fun c hc=>h1 n (by omega) c hc) l.length [] n (by omega) (qW4 ..) (by omega)
  refine ⟨A,q1,q2,?_⟩
  rw [e0] at q3
  rw [List.length_map,Nat.zero_add,List.nil_append]
  exact q3
 refine ⟨_,rfl,n1+1200,fun n hn=>?_⟩
 obtain ⟨A,q1,q2,q3⟩:=key n hn
 have q4:=qVP n (by omega) l h R hR q1 q2
 exact qA q3 (qA q4 rfl)
theorem qQX (l:List Cl) (R:List (Int×Int)) (hb:l.length≤140737488351232) (hR:R.length≤140737488351232) (hs:∀c∈l,c.2.2.size≤140737488351232):Ev (qHk · (l.map qU) (R.map qAQ)) ((qGj l R).length,(qGj l R).map qAQ):=by
 refine qFS (qDv (R:=fun n=>qHj n (l.map qU) (R.map qAQ)) (qBO (qQP l hb hs) ?_) fun n=>rfl)
 unfold qGj
 cases h:qD9 l with
 |false=>
  rw [if_neg (by simp)]
  exact qCi rfl (qA7 rfl)
 |true=>
  refine qJi rfl ?_
  by_cases hq:R.length≤120
  ·rw [if_pos ⟨rfl,hq⟩]
   refine qJi (decide_eq_false (by rw [List.length_map];omega)) (qBO (qOL l h hs R hq) (qA7 ?_))
   rw [List.length_map,List.map_map]
   rfl
  ·rw [if_neg (fun e=>hq e.2)]
   exact qCi (decide_eq_true (by rw [List.length_map];omega)) (qA7 rfl)
theorem qR1 (l:List (List PV)) (left:Int):∀n,1≤n→∃r,qIf n l left=some r:=by
 intro n hn
 obtain ⟨m,rfl,hm⟩:=up1 hn
 show ∃r,(qIe m l left).run=some r
 by_cases h:IntKind.i64.wrap (left-(l.length:Int))<0
 ·exact ⟨_,qD (decide_eq_true h) rfl⟩
 ·exact ⟨_,qO (decide_eq_false h) rfl⟩
theorem qWU {rows:List (List PV)} (h:∀e∈rows,okR [.i .i64,.i .i64] e):∃l:List (Int×Int),rows=l.map qAQ:=by
 obtain ⟨l,h1,_⟩:=qRO (enc:=qAQ) (P:=fun _=>True) (fun e he=>by
  obtain ⟨a,r1,rfl,p1,g1⟩:=zA4 he
  obtain ⟨b,r2,rfl,p2,g2⟩:=zA4 g1
  obtain rfl:=zDb g2
  obtain ⟨x1,rfl,_⟩:=zHP p1
  obtain ⟨x2,rfl,_⟩:=zHP p2
  exact ⟨(x1,x2),rfl,trivial⟩) h
 exact ⟨l,h1⟩
theorem qR2 (l:List (Int×Int)) (hb:l.length*16≤140737488351232):Ev (qDT · (l.map qAQ)) (l.length,l.map qAQ):=by
 refine ⟨l.length+5,fun n hn=>?_⟩
 obtain ⟨m,rfl,hm⟩:=up1 hn
 simp only [qDT,qIh,qC,qE,qH,qJ,qK,qM,Option.bind_some,qF,qG,qN]
 have h:=qTc (B:=qDh m) (rows:=l.map qAQ) (z:= [.i .i64 0,.i .i64 0]) (r:=fun acc=>((l.map qAQ).length,acc)) (M:=m)
  (fun i acc e he ha hz=>by
   rw [List.getElem?_map] at he
   obtain ⟨c,hc,rfl⟩:=Option.map_eq_some_iff.1 he
   have hi:i<l.length:=(List.getElem?_eq_some_iff.1 hc).1
   have hi':(i:Int)<l.length:=by omega
   obtain ⟨q,rfl⟩:∃q,m=q+1:=⟨m-1,by omega⟩
   have hw:IntKind.i64.wrap ((i:Int)+1)=(i:Int)+1:=qT (by omega)
   have ha':acc.length=l.length:=by simpa using ha
   have un:∀(a b:Int),qEg (q+1) a b=some (a,b):=fun a b=>by simp only [qEg,qHH,qC,qE,qH,qJ,qK,qM,Option.bind_some,qF,qG,qN]
   simp [qDh,qC,qE,qH,qJ,qK,qM,Option.bind_some,qF,qG,qN,hi',hc,qAQ,zB,un,hz,ha',hw,zJ])
  (fun acc ha=>by
   have ha':acc.length=l.length:=by simpa using ha
   simp [qDh,qC,qE,qH,qJ,qK,qM,Option.bind_some,qF,qG,qN])
  (by simp;omega)
 simp only [List.length_map,Int.toNat_natCast] at h⊢
 rw [h]
 have h1:(16:Int)*(l.length:Int)≤140737488355328:=by omega
 have h2:(l.length:Int)≤9223372036854775807:=by omega
 simp [qC,qE,qH,qJ,qK,qM,Option.bind_some,qF,qG,qN,h1,h2]
theorem qNO (l:List (Int×Int)) (k:Int) (hb:l.length≤100000000000000) (hk:1≤k∧k≤500000000000000):Ev (qDC · l.length k (l.map qAQ)) (k+2*l.length,(qMP k l).map qAQ):=by
 refine ⟨l.length+30,fun n hn=>?_⟩
 obtain ⟨m,rfl,hm⟩:=up1 hn
 have h:=qNL m l.length (by omega) l [] k m (by simp) (by omega) (by omega) (by omega)
 simp only [List.length_nil,Int.natCast_zero,List.nil_append] at h
 exact qA h rfl
theorem qW5 {F:Nat→Option Int} {G:Nat→Int→Option Int} {T:Nat→Tr Bool} (h:∃N,∀n,N≤n→∃r,F n=some r) (h2:∀left n,1≤n→∃r,G n left=some r) (hk:Dwx (· =true) T):Dwx (· =true) fun n=> .opt (F n) fun r=> .ask (decide (r<0)) (.done true) (.opt (G n r) fun q=> .ask (decide (q<0)) (.done true) (T n)):=by
 obtain ⟨x,rfl,n1,h1⟩:=hk
 obtain ⟨n0,h0⟩:=h
 refine ⟨true,rfl,n0+n1+1,fun n hn=>?_⟩
 obtain ⟨r,hr⟩:=h0 n (by omega)
 refine qA hr ?_
 by_cases h3:r<0
 ·exact qD (decide_eq_true h3) rfl
 ·refine qO (decide_eq_false h3) ?_
  obtain ⟨q,hq⟩:=h2 r n (by omega)
  refine qA hq ?_
  by_cases h4:q<0
  ·exact qD (decide_eq_true h4) rfl
  ·exact qO (decide_eq_false h4) (h1 n (by omega))
theorem qWV (m sz ty:Nat) (l:List (Int×Int)):zd (⟨(.c (.own 0 0 0 m)),[],[⟨0,sz,ty,(.row (l.map qAQ))⟩]⟩:Res)=true:=by
 simp [zd,AV.cvs,zGw,zFc,qAQ,CV.flat]
theorem law (rows rows2:List (List PV)) (w:rows.length*32≤140737488351232∧∀r∈rows,okR [.i .i64,.i .i64,.s] r) (w2:rows2.length*16≤140737488351232∧∀r∈rows2,okR [.i .i64,.i .i64] r):Ev (qF2 · rows rows2) true:=by
 obtain ⟨l,rfl,hs⟩:=qWN w.2
 obtain ⟨R,rfl⟩:=qWU w2.2
 have hl:l.length*32≤140737488351232:=by simpa using w.1
 have hR:R.length*16≤140737488351232:=by simpa using w2.1
 have t1:=qQS l hl
 have t2:=qR2 R hR
 have hi:=qQW l R (by omega) (by omega) hs
 have hp:=qQX l R (by omega) (by omega) hs
 obtain ⟨g,eg,hg⟩:∃g:List (Int×Int),qGj l R=g∧g.length≤100000000000000:=⟨_,rfl,by
  unfold qGj
  split
  ·rename_i hq
   have:=qHQ hq.1
   have:=qR0 l R l.length
   rw [List.length_map]
   omega
  ·simp⟩
 rw [eg] at hi hp
 refine qFS (qDv (R:=fun n=>qEM n (l.map qU) (R.map qAQ)) (qW5 ⟨_,qQR l (by omega) 1048576⟩ (fun left n hn=>qR1 (R.map qAQ) left n hn) ?_) fun n=>rfl)
 have eL:decide ((l.length:Nat)=(l.map qU).length)=true:=decide_eq_true (by simp)
 have eR:decide ((R.length:Nat)=(R.map qAQ).length)=true:=decide_eq_true (by simp)
 have eG:decide ((g.length:Nat)=(g.map qAQ).length)=true:=decide_eq_true (by simp)
 have eM:decide ((g.length:Nat)=((qMP 1 g).map qAQ).length)=true:=decide_eq_true (by rw [List.length_map,qOH])
 have hq:=qLo g (by omega)
 have hqR:=qLo R (by omega)
 have hk:=qPJ g (by omega)
 have hh:=qPK g (by omega)
 have ap:=qWV g.length 2 29 g
 refine qBO t1 (qBO t2 (qCi eL (qCi eR (qBO hp (qCi ap (qBO t1 (qBO t2 (qCi eL (qCi eR (qBO hi (qCi ap (qCi eG (qCi eG (qBO hq (qCi (qF _) (qJi rfl ?_))))))))))))))))
 refine qBO t1 (qCi eL (qCi eL (qBO (qQT l (by omega)) (qCi (qF _) (qJi rfl ?_)))))
 refine qBO t2 (qCi eR (qCi eR (qBO hqR (qCi (qF _) (qJi rfl ?_)))))
 refine qCi eL (qBO (qOI l (by omega)) (qCi eR (qBO (qNO R (1+3*(l.length:Int)) (by omega) (by omega)) (qJi (decide_eq_false (by dsimp only;omega)) ?_))))
 refine qCi eG (qCi eG (qBO hq (qCi (qF _) (qJi rfl (qCi eG (qBO hk (qCi eM (qBO hh (qCi (qG _) (qJi (decide_eq_false (by omega)) (qJi (bne_self_eq_false' _) ?_)))))))))))
 refine qBO t1 (qBO t2 (qCi eL (qCi eR (qBO hi (qCi ap (qCi eG (qCi eG (qBO hq (qCi (qF _) (qJi rfl ?_))))))))))
 exact qCi eM (qBO hh (qCi (qG _) (qJi (decide_eq_false (by omega)) (qJi (bne_self_eq_false' _) (qA7 rfl)))))
structure StOk (n:Nat) (c:Sm):Prop where
 k:c.1=1∨c.1=2∨c.1=3∨c.1=4∨c.1=5
 s:c.2.2.2.1.size≤200
 m:c.1=3∨c.1=4→1≤c.2.2.2.2∧c.2.2.2.2≤n
end Go.Proofs.YtkkkfjgagjdcoaaGreatDoor.KFnExactTouched

