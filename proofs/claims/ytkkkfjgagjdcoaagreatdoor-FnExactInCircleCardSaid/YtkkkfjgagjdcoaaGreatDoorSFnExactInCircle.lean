import Derived.Test.YtkkkfjgagjdcoaaGreatDoorTFnExactInCircle
import Derived.Test.YtkkkfjgagjdcoaaGreatDoorE32
import Derived.Lib.Strings
import Derived.Test.YtkkkfjgagjdcoaaGreatDoorSFnExactInCirclep1
namespace Go.Proofs.YtkkkfjgagjdcoaaGreatDoor.KFnExactInCircle
open Go.Eng
set_option linter.unusedVariables false
set_option linter.unusedSimpArgs false
theorem qUo (H:RdOK) (N:Nat) (hA:∀M,M<N→qUj M) (hB:∀M,M<N→qUD M) (hC:∀M,M<N→qUl M):qUj N:=by
 intro p q deep f g hl hN hd hdN hf hg
 cases f with
 |zero=>omega
 |succ f=>
 cases f with
 |zero=>omega
 |succ f=>
 cases g with
 |zero=>omega
 |succ g=>
 cases g with
 |zero=>omega
 |succ g=>
 have hpq:=hl.2.2.2
 have hpb:¬p.2.1=true:=by rw [hl.1];simp
 have hqb:¬q.2.1=true:=by rw [hl.2.1];simp
 have hq0:=hl.2.1
 have hs:sP (g+1+1) (.row 5) q=sP (g+1) .one q:=by
  rw [sP,if_neg hqb,if_pos rfl]
 rw [hs]
 obtain ⟨e1,e2⟩:=qKq (c:=45) (by decide) hl
 rw [pP]
 rw [if_neg (by intro e;rcases e with e|e;omega;exact hpb e)]
 by_cases hc:(qZ [45] p).1=true
 ·rw [if_pos hc]
  simp only [sP]
  rw [if_pos (e1▸hc)]
  have hlt:=qDu (w:= [45]) (by simp) hc
  have htb:=qAC (qZ [45] p).2.1
  exact qSM (fun k=>ndK 4 0 [k]) (hA _ (by omega) _ _ (deep+1) (f+1) g e2 rfl (by omega) (by omega) (by omega) (by omega))
 ·rw [if_neg hc]
  have hp':(qZ [45] p).2=(tb p.1,p.2):=by
   unfold qZ at hc⊢
   split
   ·rename_i hx;rw [if_pos hx] at hc;exact absurd rfl hc
   ·rfl
  have hq':(sIs [45] q).2=(tb q.1,q.2):=by
   have hc:¬(sIs [45] q).1=true:=e1▸hc
   unfold sIs at hc⊢
   rw [if_neg hqb] at hc⊢
   split
   ·rename_i hx;rw [if_pos hx] at hc;exact absurd rfl hc
   ·rfl
  rw [hp']
  simp only [sP]
  rw [if_neg (e1▸hc),hq']
  simp only [pP,qCe]
  have hl2:Lk (tb p.1,p.2) (tb q.1,q.2):=⟨hl.1,hl.2.1,hl.2.2.1,by simp only [qCe];exact hpq⟩
  obtain ⟨f1,f2⟩:=qKq (c:=40) (by decide) hl2
  have i40:=qMs (c:=40) (q:=(tb q.1,q.2)) hq0
  have i34:=qMs (c:=34) (q:=(tb q.1,q.2)) hq0
  have i35:=qMs (c:=35) (q:=(tb q.1,q.2)) hq0
  simp only [qCe] at i40 i34 i35
  rw [hpq] at hN f1 f2⊢
  by_cases h34:(tb q.1).head?=some 34
  ·rw [if_pos h34,if_neg (fun e=>qSQ (by decide) h34 (i40.1 e)),if_pos (i34.2 h34)]
   have es:(sIs [34] (tb q.1,q.2)).2.1=(tb q.1).tail:=by
    have:=i34.2 h34
    unfold sIs at this⊢
    rw [if_neg hqb] at this⊢
    simp only [qCe] at this⊢
    split
    ·simp
    ·rename_i hx;rw [if_neg hx] at this;cases this
   rw [es]
   cases hqr:qCK [] (tb q.1).tail with
   |none=>exact .inr ⟨rfl,.inl rfl⟩
   |some st=>
    obtain ⟨s,t⟩:=st
    exact qJD ⟨hl.1,hl.2.1,hl.2.2.1,rfl⟩
  ·rw [if_neg h34]
   by_cases h35:(tb q.1).head?=some 35
   ·rw [if_pos h35,if_neg (fun e=>qSQ (by decide) h35 (i40.1 e)),if_neg (fun e=>h34 (i34.1 e)),if_pos (i35.2 h35)]
    have es:(sIs [35] (tb q.1,q.2)).2.1=(tb q.1).tail:=by
     have:=i35.2 h35
     unfold sIs at this⊢
     rw [if_neg hqb] at this⊢
     simp only [qCe] at this⊢
     split
     ·simp
     ·rename_i hx;rw [if_neg hx] at this;cases this
    rw [es,qUC H h35 5 1 (by omega) (by omega)]
    cases he:qJc (tb q.1) 1 5 with
    |some n=>
     simp only
     obtain ⟨t,ht⟩:=H.n n (by have:=qSP 5 1 he;omega)
     have hsz:(qf n).size=t.length+1:=by rw [←qAT,ht];rfl
     refine qJD ⟨hl.1,hl.2.1,hl.2.2.1,?_⟩
     simp only
     rw [hsz]
     cases hr:tb q.1 with
     |nil=>rw [hr] at h35;cases h35
     |cons c r=>rfl
    |none=>
     simp only
     rw [if_neg (fun e=>e.1 h35)]
     have hw:wd (tb q.1)= []:=by
      cases hr:tb q.1 with
      |nil=>rw [hr] at h35;cases h35
      |cons c r=>
       rw [hr] at h35
       simp only [List.head?_cons,Option.some.injEq] at h35
       subst h35
       rfl
     rw [hw,if_neg (fun e=>H.v0 e.2),if_neg (by rw [H.p0];simp),H.f0]
     exact .inr ⟨rfl,qFp _⟩
   ·rw [if_neg h35]
    simp only
    by_cases h40:(qZ [40] (tb q.1,p.2)).1=true
    ·rw [if_pos ⟨h35,h40⟩,if_pos (f1▸h40)]
     have hlt:=qDu (w:= [40]) (by simp) h40
     simp only [qCe] at hlt
     have htb:=qAC (qZ [40] (tb q.1,p.2)).2.1
     have hb:=(hB _ (by omega) _ _ (deep+1) 4 f g (by omega) f2 rfl (by omega) (by omega) (by omega) (by omega)).sim
     have e5:(5-((4:Nat):Int))=1:=by omega
     rw [e5] at hb
     exact qSN (by decide) hb
    ·have n40:¬(sIs [40] (tb q.1,q.2)).1=true:=f1▸h40
     have n34:¬(sIs [34] (tb q.1,q.2)).1=true:=fun e=>h34 (i34.1 e)
     have n35:¬(sIs [35] (tb q.1,q.2)).1=true:=fun e=>h35 (i35.1 e)
     rw [if_neg (fun e=>h40 e.2),if_neg n40,if_neg n34,if_neg n35]
     have hl3:Lk (wr (tb q.1),p.2) (wr (tb q.1),q.2):=⟨hl.1,hl.2.1,hl.2.2.1,rfl⟩
     cases hfn:qGW (wd (tb q.1)) 1 10 with
     |some op=>
      simp only
      obtain ⟨z1,z2⟩:=H.f _ _ hfn
      rw [if_neg (by rw [z1];simp),if_neg (by rw [z2];simp)]
      have hne:1≤(wd (tb q.1)).length:=by
       cases hw:wd (tb q.1) with
       |nil=>rw [hw,H.f0] at hfn;cases hfn
       |cons c t=>simp
      have hlen:(wr (tb q.1)).length+1≤N:=by
       have:=congrArg List.length (wdr (tb q.1))
       simp only [List.length_append] at this
       omega
      obtain ⟨k1,k2⟩:=qKq (c:=40) (by decide) hl3
      cases f with
      |zero=>omega
      |succ f=>
       simp only [pP]
       by_cases ht:(sIs [40] (wr (tb q.1),q.2)).1=true
       ·rw [if_pos ht]
        have em:qCX [40] (wr (tb q.1),p.2)=(qZ [40] (wr (tb q.1),p.2)).2:=by
         unfold qCX
         rw [if_neg hpb,if_pos (k1▸ht)]
        rw [em]
        have hlt:=qDu (w:= [40]) (by simp) (k1.symm▸ht)
        have h2:=qAC (wr (tb q.1))
        have h3:=qAC (qZ [40] (wr (tb q.1),p.2)).2.1
        simp only at hlt
        exact hC _ (by omega) _ _ deep op [] f g k2 rfl hd (by omega) (by omega) (by omega)
       ·rw [if_neg ht]
        have em:qCX [40] (wr (tb q.1),p.2)=qSu (qZ [40] (wr (tb q.1),p.2)).2:=by
         unfold qCX
         rw [if_neg hpb,if_neg (k1▸ht)]
        rw [em]
        exact .inr ⟨rfl,qC6 f _ _ (qFp _)⟩
     |none=>
      simp only
      by_cases hw0:wd (tb q.1)= []
      ·rw [hw0,if_neg (fun e=>H.v0 e.2),if_neg (by rw [H.p0];simp),if_neg (fun e=>e.2 rfl),if_neg (by rw [H.p0];simp)]
       exact .inr ⟨rfl,qFp _⟩
      ·by_cases hv:(qi (BR (wd (tb q.1)))).2.2.2=true
       ·rw [if_pos ⟨hv,H.v _ (qSw _) hw0 hv⟩,if_pos ⟨hv,hw0⟩]
        exact qJD hl3
       ·have nv1:¬((qi (BR (wd (tb q.1)))).2.2.2=true∧((qi (BR (wd (tb q.1)))).1=1∨(qi (BR (wd (tb q.1)))).1=3)):=fun e=>hv e.1
        have nv2:¬((qi (BR (wd (tb q.1)))).2.2.2=true∧wd (tb q.1)≠ []):=fun e=>hv e.1
        rw [if_neg nv1,if_neg nv2]
        by_cases hp:(qA6 (BR (wd (tb q.1)))).2.2.2.2=true
        ·rw [if_pos hp,if_pos hp]
         exact qJD hl3
        ·rw [if_neg hp,if_neg hp]
         exact .inr ⟨rfl,qFp _⟩
theorem qUp (H:RdOK) (N:Nat):qUj N∧qUk N∧qUD N∧qUl N:=by
 induction N using Nat.strongRecOn with
 |ind N ih=>
  have hA:=qUo H N (fun M h=>(ih M h).1) (fun M h=>(ih M h).2.2.1) (fun M h=>(ih M h).2.2.2)
  have hT:=qVm N (fun M h=>(ih M h).2.2.1) (fun M h=>(ih M h).2.1)
  have hB:=qUm N hA (fun M h=>(Nat.lt_or_eq_of_le h).elim (fun h=>(ih M h).2.1) (fun h=>h▸hT))
  exact ⟨hA,hT,hB,qUn H N hB (fun M h=>(ih M h).2.2.2)⟩
theorem qAS (r:List UInt8):(BR r).toList=r:=qCB r
theorem qc (r:List UInt8):(BR r).size=r.length:=by rw [←qAT,qAS]
theorem qIj (s:ByteArray):BR s.toList=s:=qE7 (qAS _)
theorem qFS (r:List UInt8) (a b:Nat):(BR r).extract a b=BR ((r.take b).drop a):=by
 refine qE7 ?_
 rw [qAS,Go.Lib.toList_data,ByteArray.data_extract,Array.toList_extract]
 simp [BR,List.extract_eq_take_drop,List.drop_take]
theorem qNq (a b:List UInt8):BR a++BR b=BR (a++b):=by
 refine qE7 ?_
 rw [qAS,Go.Lib.toList_data]
 simp [BR]
theorem qU8:∀i:Fin 256,((⟨#[32]⟩:ByteArray).data.toList.contains (UInt8.ofNat i.val))=(UInt8.ofNat i.val==32):=by decide+kernel
def wcS:ByteArray:=⟨#[65,66,67,68,69,70,71,72,73,74,75,76,77,78,79,80,81,82,83,84,85,86,87,88,89,90,48,49,50,51,52,53,54,55,56,57,36]⟩
theorem qU9:∀i:Fin 256,(wcS.data.toList.contains (UInt8.ofNat i.val))=wch (UInt8.ofNat i.val):=by decide+kernel
theorem qSx {f g:UInt8→Bool} (h:∀i:Fin 256,f (UInt8.ofNat i.val)=g (UInt8.ofNat i.val)) (c:UInt8):f c=g c:=by
 have h:=h ⟨c.toNat,UInt8.toNat_lt c⟩
 have e:UInt8.ofNat c.toNat=c:=by simp
 simp only [e] at h
 exact h
theorem qTl (r:List UInt8):Ev (qBP · (BR r) ⟨#[32]⟩) (BR (tb r)):=by
 refine ⟨1,fun n hn=>?_⟩
 obtain ⟨m,rfl,hm⟩:=up1 hn
 show zN (BR r) ⟨#[32]⟩=_
 unfold zN
 rw [if_pos ⟨by decide,by decide+kernel⟩]
 unfold Lib.trimLeftS tb
 have:(fun c=>(⟨#[32]⟩:ByteArray).data.toList.contains c)=(fun c=>c==32):=funext (qSx qU8)
 rw [this]
 rfl
theorem qTm (r:List UInt8):Ev (qBP · (BR r) ⟨#[65,66,67,68,69,70,71,72,73,74,75,76,77,78,79,80,81,82,83,84,85,86,87,88,89,90,48,49,50,51,52,53,54,55,56,57,36]⟩) (BR (wr r)):=by
 refine ⟨1,fun n hn=>?_⟩
 obtain ⟨m,rfl,hm⟩:=up1 hn
 show zN (BR r) wcS=_
 unfold zN
 rw [if_pos ⟨by decide,by decide+kernel⟩]
 unfold Lib.trimLeftS wr
 have:(fun c=>wcS.data.toList.contains c)=wch:=funext (qSx qU9)
 rw [this]
 rfl
theorem qHn (r:List UInt8) (m:Nat) (b:Bool) (rows:List (List PV)):Ev (qA1 · (BR r) m b rows) (BR (tb r),m,b,rows):=by
 obtain ⟨n1,h1⟩:=qTl r
 refine ⟨n1+1,fun n hn=>?_⟩
 obtain ⟨m,rfl,hm⟩:=up1 hn
 have h1:=h1 m (by omega)
 dsimp only at h1
 simp only [qA1,qDn,qC,qE,qG,qH,qJ,qK,Option.bind_some,qF,qM,qN,h1]
theorem qBf (m:Nat) (s w:List UInt8):ql (m+2) (BR s) (BR w)=some (w.isPrefixOf s):=by
 simp only [ql,qCG,qAD,qAy,qC,qE,qG,qH,qJ,qK,Option.bind_some,qF,qM,qN,qc,qFS,qAS]
 by_cases h:w.length≤s.length
 ·have h1:((s.length:Nat):Int)≥((w.length:Nat):Int):=by omega
  simp [h1,h,List.isPrefixOf_iff_prefix,List.prefix_iff_eq_take]
  by_cases e:w=s.take w.length
  ·simp [←e,List.isPrefixOf_iff_prefix.2 (List.prefix_iff_eq_take.2 e)]
  ·have e2:¬s.take w.length=w:=fun h=>e h.symm
   have e3:w.isPrefixOf s=false:=by
    rw [Bool.eq_false_iff]
    intro hp
    exact e (List.prefix_iff_eq_take.1 (List.isPrefixOf_iff_prefix.1 hp))
   simp [e2,e3]
 ·have h1:¬((s.length:Nat):Int)≥((w.length:Nat):Int):=by omega
  have e3:w.isPrefixOf s=false:=by
   rw [Bool.eq_false_iff]
   intro hp
   exact h (List.isPrefixOf_iff_prefix.1 hp).length_le
  simp [h1,e3]
theorem qSy (s w:List UInt8):Ev (ql · (BR s) (BR w)) (w.isPrefixOf s):=by
 refine ⟨2,fun n hn=>?_⟩
 obtain ⟨m,rfl,hm⟩:=up1 hn
 obtain ⟨m,rfl,hm⟩:=up1 hm
 exact qBf m s w
def qSR:List (List PV):=qEb.map fun w=> [PV.s (BR w)]
theorem qRE {n:Nat} {r:List UInt8} (m:Nat) (b:Bool) (rows:List (List PV)) (h:∀w∈qEb,ql n (BR r) (BR w)=some (w.isPrefixOf r)):
  ∀(k i M:Nat),i+k=15→k+1≤M→zD (qCa n) M (15,15,(i:Int),qSR,BR r,m,b,rows)=some (match (qEb.drop i).find? (fun w=>w.isPrefixOf r) with|some w=> .inl (BR w,BR r,m,b,rows)|none=> .inr (BR r,m,b,rows))
 |k,i,0,h1,h2=>by omega
 |0,i,M+1,h1,h2=>by
  have hi:i=15:=by omega
  subst hi
  rw [qP (r:= .inr (BR r,m,b,rows)) (by simp [qCa,qC,qE,qG,qH,qJ,qK,Option.bind_some,qF,qM,qN])]
  rfl
 |k+1,i,M+1,h1,h2=>by
  have hi:i<qEb.length:=by simp [qEb];omega
  obtain ⟨w,hw⟩:∃w,qEb[i]?=some w:=⟨_,List.getElem?_eq_getElem hi⟩
  have hR:qSR[i]?=some [PV.s (BR w)]:=by simp [qSR,List.getElem?_map,hw]
  have hl:qSR.length=15:=rfl
  have hc:zX [PV.s (BR w)] 0=some (BR w):=rfl
  have hp:=h w (List.mem_of_getElem? hw)
  have hd:qEb.drop i=w::qEb.drop (i+1):=qDd hw
  have w5:IntKind.i64.wrap ((i:Int)+1)=((i+1:Nat):Int):=by rw [qV (by omega)];omega
  rw [hd]
  simp only [List.find?_cons]
  cases hq:w.isPrefixOf r with
  |true=>
   rw [qP (r:= .inl (BR w,BR r,m,b,rows)) (by
    refine qD (by simp;omega) (qD (by simp [hl];omega) (qA hR (qA hc (qA (hp.trans (congrArg some hq)) (qD rfl rfl))))))]
  |false=>
   rw [qU (v':=(15,15,((i+1:Nat):Int),qSR,BR r,m,b,rows)) (by
    refine qD (by simp;omega) (qD (by simp [hl];omega) (qA hR (qA hc (qA (hp.trans (congrArg some hq)) (qO rfl ?_)))))
    rw [w5];rfl)]
   exact qRE m b rows h k (i+1) M (by omega) (by omega)
theorem qNr (r:List UInt8) (m:Nat) (b:Bool) (rows:List (List PV)):Ev (qBr · (BR r) m b rows) (BR (sgn (tb r)),BR (tb r),m,b,rows):=by
 obtain ⟨n1,h1⟩:=qHn r m b rows
 obtain ⟨n2,h2⟩:=qBL (F:=fun w n=>ql n (BR (tb r)) (BR w)) (f:=fun w=>w.isPrefixOf (tb r)) qEb (fun w _=>qSy (tb r) w)
 refine ⟨n1+n2+30,fun n hn=>?_⟩
 obtain ⟨k,rfl,hm⟩:=up1 hn
 have h1:=h1 k (by omega)
 have lp:=qRE m b rows (h2 k (by omega)) 15 0 k rfl (by omega)
 refine qA h1 (qA lp ?_)
 simp only [List.drop_zero]
 unfold sgn
 cases hq:qEb.find? (fun w=>w.isPrefixOf (tb r)) with
 |some w=>rfl
 |none=>rfl
theorem qTN (r:List UInt8):sgn r<+:r:=by
 unfold sgn
 split
 ·rename_i w hw
  have:=List.find?_some hw
  exact List.isPrefixOf_iff_prefix.1 (by simpa using this)
 ·exact List.nil_prefix
theorem qRF (w r:List UInt8) (m:Nat) (b:Bool) (rows:List (List PV)):Ev (qo · (BR w) (BR r) m b rows) (decide (sgn (tb r)=w),BR (if sgn (tb r)=w then (tb r).drop w.length else tb r),m,b,rows):=by
 obtain ⟨n1,h1⟩:=qNr r m b rows
 refine ⟨n1+1,fun n hn=>?_⟩
 obtain ⟨k,rfl,hm⟩:=up1 hn
 refine qA (h1 k (by omega)) ?_
 by_cases h:sgn (tb r)=w
 ·have hp:=(qTN (tb r)).length_le
  rw [h] at hp
  refine qO (by simp [qAS,h]) (qD (by simp [qc];omega) ?_)
  rw [qC,qc,qc,qFS]
  simp [h]
 ·refine qD (by simp [qAS,h]) ?_
  rw [qC]
  simp [h]
theorem qTn (r:List UInt8) (m:Nat) (b:Bool) (rows:List (List PV)) (hr:r.length≤1000):Ev (qBQ · (BR r) m b rows) (BR (wd (tb r)),BR (wr (tb r)),m,b,rows):=by
 obtain ⟨n1,h1⟩:=qHn r m b rows
 obtain ⟨n2,h2⟩:=qTm (tb r)
 refine ⟨n1+n2+1,fun n hn=>?_⟩
 obtain ⟨k,rfl,hm⟩:=up1 hn
 have hb:=qAC r
 have hw:=qHM (tb r)
 have hsum:=congrArg List.length (wdr (tb r))
 simp only [List.length_append] at hsum
 have e:IntKind.i64.wrap (((tb r).length:Int)-((wr (tb r)).length:Int))=((wd (tb r)).length:Int):=by rw [qV (by omega)];omega
 refine qA (h1 k (by omega)) (qA (h2 k (by omega)) ?_)
 simp only [qc,e]
 refine qD (by simp;omega) (qD (by simp;omega) ?_)
 rw [qC]
 have t1:(wd (tb r)++wr (tb r)).take (wd (tb r)).length=wd (tb r):=List.take_left ..
 have t2:(wd (tb r)++wr (tb r)).drop (wd (tb r)).length=wr (tb r):=List.drop_left ..
 rw [wdr] at t1 t2
 simp [qFS,t1,t2]
def qFq (p:PS):ByteArray×Nat×Bool×List (List PV):=(BR p.1,p.2.2.length,p.2.1,p.2.2.map qW)
def qHS (r:Int×PS):Int×ByteArray×Nat×Bool×List (List PV):=(r.1,BR r.2.1,r.2.2.2.length,r.2.2.1,r.2.2.2.map qW)
def qO2 (c:Nd):Prop:=(kd c).length≤2000∧c.2.2.2.2.1.size≤2000
structure Gd (p:PS):Prop where
 r:p.1.length≤1000
 n:p.2.2.length≤60
 s:∀x∈p.2.2,qO2 x
theorem qNs (x:Nd) (p:PS) (h:p.2.2.length≤60):Ev (qp · x.1 x.2.1 x.2.2.1 x.2.2.2.1 x.2.2.2.2.1 x.2.2.2.2.2.1 x.2.2.2.2.2.2.1 x.2.2.2.2.2.2.2.1 x.2.2.2.2.2.2.2.2.1 x.2.2.2.2.2.2.2.2.2.1 x.2.2.2.2.2.2.2.2.2.2.1 x.2.2.2.2.2.2.2.2.2.2.2.1 x.2.2.2.2.2.2.2.2.2.2.2.2.1 ((kd x).map qAz) (BR p.1) p.2.2.length p.2.1 (p.2.2.map qW)) (qHS (qDc x p)):=by
 obtain ⟨r,b,l⟩:=p
 refine ⟨1,fun n hn=>?_⟩
 obtain ⟨m,rfl,hm⟩:=up1 hn
 replace h:l.length≤60:=h
 show qp (m+1) _ _ _ _ _ _ _ _ _ _ _ _ _ _ (BR r) l.length b (l.map qW)=_
 unfold qDc
 have w1:IntKind.i64.wrap (((l.length:Nat):Int)-1)=(l.length:Int)-1:=qV (by omega)
 have w2:IntKind.i64.wrap ((((l.length+1):Nat):Int)-1)=(l.length:Int):=by rw [qV (by omega)];omega
 cases b with
 |true=>
  rw [if_pos (.inl rfl)]
  refine qD rfl (qO rfl ?_)
  rw [qC,w1]
  rfl
 |false=>
  by_cases h6:60≤l.length
  ·rw [if_pos (.inr h6)]
   have d:decide (((l.length:Nat):Int)≥60)=true:=decide_eq_true (by omega)
   refine qO rfl (qO (by rw [d];rfl) ?_)
   rw [qC,w1,d]
   rfl
  ·have hn:¬(((r,false,l):PS).2.1=true∨60≤((r,false,l):PS).2.2.length):=by
    intro hh
    rcases hh with hh|hh
    ·exact absurd hh (by simp)
    ·exact h6 hh
   rw [if_neg hn]
   have d:decide (((l.length:Nat):Int)≥60)=false:=decide_eq_false (by omega)
   refine qO rfl (qD (by rw [d];rfl) (qD rfl (qD (decide_eq_true ⟨by simp,by decide,by decide,by simp;omega,rfl⟩) ?_)))
   rw [qC,w2,d]
   simp only [qHS,List.map_append,List.length_append]
   rfl
theorem qKf (v:V3) (p:PS) (h:p.2.2.length≤60):Ev (qj · v.1 v.2.1 v.2.2 (BR p.1) p.2.2.length p.2.1 (p.2.2.map qW)) (qHS (qDc (nd1 v) p)):=by
 obtain ⟨n1,h1⟩:=qNs (nd1 v) p h
 refine ⟨n1+1,fun n hn=>?_⟩
 obtain ⟨k,rfl,hm⟩:=up1 hn
 exact qA (h1 k (by omega)) rfl
theorem qHN {x:Nd} {p:PS} (h:Gd p) (hx:qO2 x):Gd (qDc x p).2:=by
 unfold qDc
 split
 ·exact ⟨h.r,h.n,h.s⟩
 ·rename_i hh
  refine ⟨h.r,?_,fun y hy=>?_⟩
  ·have:¬60≤p.2.2.length:=fun e=>hh (.inr e)
   simp;omega
  ·simp at hy
   rcases hy with hy|rfl
   ·exact h.s _ hy
   ·exact hx
theorem qCt {w:List UInt8} {p:PS} (h:Gd p):Gd (qZ w p).2:=by
 have:=qJB w p
 have h2:=qAC p.1
 have h3:=h.r
 refine ⟨by omega,?_,?_⟩
 ·unfold qZ;split<;>exact h.n
 ·unfold qZ;split<;>exact h.s
theorem qGX (w:List UInt8) (p:PS):Ev (qo · (BR w) (BR p.1) p.2.2.length p.2.1 (p.2.2.map qW)) ((qZ w p).1,qFq (qZ w p).2):=by
 obtain ⟨n1,h1⟩:=qRF w p.1 p.2.2.length p.2.1 (p.2.2.map qW)
 refine ⟨n1,fun n hn=>?_⟩
 have h1:=h1 n hn
 unfold qZ
 by_cases h:sgn (tb p.1)=w
 ·simp only [h,if_true,decide_true] at h1
  rw [if_pos h];exact h1
 ·simp only [h,if_false,decide_false] at h1
  rw [if_neg h];exact h1
theorem qRo (p:PS) (h:p.1.length≤1000):Ev (qBQ · (BR p.1) p.2.2.length p.2.1 (p.2.2.map qW)) (BR (wd (tb p.1)),qFq (wr (tb p.1),p.2)):=qTn p.1 _ _ _ h
theorem qRp (r:List UInt8):(wd r).length≤r.length:=by
 have:=congrArg List.length (wdr r)
 simp only [List.length_append] at this
 omega
theorem qUE (r:List UInt8) (h:r.length≤1000):Ev (qAk · (BR (wd (tb r)))) (qA6 (BR (wd (tb r)))):=qMl _ (by rw [qc];have:=qRp (tb r);have:=qAC r;omega)
theorem qVe (r:List UInt8) (h:r.length≤1000):Ev (qe · (BR (wd (tb r)))) (qi (BR (wd (tb r)))):=qHk _ (by rw [qc];have:=qRp (tb r);have:=qAC r;omega)
theorem qSS (c:UInt8) (t:List UInt8):Lib.cut (c::t) [34]=if c=34 then ([],t,true) else (c::(Lib.cut t [34]).1,(Lib.cut t [34]).2.1,(Lib.cut t [34]).2.2):=by
 by_cases h:c=34
 ·subst h
  rw [if_pos rfl]
  simp [Lib.cut,Lib.index,List.isPrefixOf]
 ·rw [if_neg h]
  have h':¬34=c:=fun e=>h e.symm
  have g:=Lib.index_ge t [34]
  unfold Lib.cut
  by_cases e:Lib.index t [34]= -1
  ·have:Lib.index (c::t) [34]= -1:=by simp [Lib.index,List.isPrefixOf,h',e]
   simp [this,e]
  ·have:Lib.index (c::t) [34]=Lib.index t [34]+1:=by simp [Lib.index,List.isPrefixOf,h',e]
   have p:0≤Lib.index t [34]:=by omega
   have p1:0≤Lib.index t [34]+1:=by omega
   have q:(Lib.index t [34]+1).toNat=(Lib.index t [34]).toNat+1:=by omega
   simp [this,p,p1,q]
theorem qVA (acc t:List UInt8):qCK acc (34::34::t)=qCK (acc++ [34]) t:=(qCK.eq_def acc _).trans (by simp)
theorem qVB (acc t:List UInt8) (h:t.head?≠some 34):qCK acc (34::t)=some (acc,t):=by
 refine (qCK.eq_def acc _).trans ?_
 cases t with
 |nil=>simp
 |cons d t=>
  have:¬d=34:=fun e=>h (by rw [e];rfl)
  simp [this]
theorem qVC (acc t:List UInt8) {c:UInt8} (h:¬c=34):qCK acc (c::t)=qCK (acc++ [c]) t:=(qCK.eq_def acc _).trans (by simp only [if_neg h])
theorem up3 {n n0:Nat} (h:n0+3≤n):∃m,n=m+3∧n0≤m:=⟨n-3,by omega,by omega⟩
theorem qRG:∀(r acc:List UInt8),qCK acc r=if (Lib.cut r [34]).2.2=true then (if (Lib.cut r [34]).2.1.head?=some 34 then qCK (acc++(Lib.cut r [34]).1++ [34]) (Lib.cut r [34]).2.1.tail else some (acc++(Lib.cut r [34]).1,(Lib.cut r [34]).2.1)) else none
 | [],acc=>by simp [qCK,Lib.cut,Lib.index]
 |c::t,acc=>by
  rw [qSS]
  by_cases h:c=34
  ·subst h
   rw [if_pos rfl]
   by_cases e:t.head?=some 34
   ·obtain ⟨u,rfl⟩:∃u,t=34::u:=by
     cases t with
     |nil=>cases e
     |cons d u=>simp at e;subst e;exact ⟨u,rfl⟩
    rw [qVA];simp
   ·rw [qVB acc t e];simp [e]
  ·simp only [if_neg h]
   rw [qVC acc t h,qRG t (acc++ [c])]
   simp
theorem qTO:∀r:List UInt8,(Lib.cut r [34]).1.length+(Lib.cut r [34]).2.1.length≤r.length∧((Lib.cut r [34]).2.2=true→(Lib.cut r [34]).2.1.length<r.length)
 | []=>by simp [Lib.cut,Lib.index]
 |c::t=>by
  rw [qSS]
  have ih:=qTO t
  split
  ·simp
  ·simp only [List.length_cons]
   exact ⟨by omega,fun h=>by have:=ih.2 h;omega⟩
theorem qHO:∀(k:Nat) (acc r:List UInt8) {s t:List UInt8},r.length≤k→qCK acc r=some (s,t)→s.length≤acc.length+r.length+1
 |k,acc,[],s,t,hk,h=>by simp [qCK] at h
 |0,acc,c::r,s,t,hk,h=>by simp at hk
 |k+1,acc,c::r,s,t,hk,h=>by
  simp only [List.length_cons] at hk
  unfold qCK at h
  split at h
  ·cases r with
   |nil=>
    simp at h
    rw [←h.1];simp;omega
   |cons d r'=>
    simp only at h
    split at h
    ·have:=qHO k _ r' (by simp at hk;omega) h
     simp at this⊢;omega
    ·simp at h
     rw [←h.1];simp;omega
  ·have:=qHO k _ r (by omega) h
   simp at this⊢;omega
theorem qVD (m:Nat) (r:List UInt8) (h:r.length≤1000):qH4 (m+1) (BR r) ⟨#[34]⟩=some (BR (Lib.cut r [34]).1,BR (Lib.cut r [34]).2.1,(Lib.cut r [34]).2.2):=by
 show zAQ (BR r) ⟨#[34]⟩=_
 unfold zAQ
 rw [if_pos (by rw [qc];omega),←Go.Lib.toList_data (BR r),qAS]
 rfl
theorem qN9 (n:Nat) (orig:ByteArray) (m:Nat) (b:Bool) (rows:List (List PV)):∀(k:Nat) (r acc:List UInt8) (M:Nat),r.length≤k→acc.length+r.length≤1000→k+1≤M→
  zD (qDF (n+2)) M (BR acc,BR r,orig,m,b,rows)=some (match qCK acc r with
   |none=> .inl (-1,orig,m,true,rows)
   |some (s,t)=> .inr (BR s,BR t,orig,m,b,rows))
 |k,r,acc,0,h1,h2,h3=>by omega
 |k,r,acc,M+1,h1,h2,h3=>by
  have hc:=qVD (n+1) r (by omega)
  have hl:=qTO r
  have hp:=qBf n (Lib.cut r [34]).2.1 [34]
  rw [qRG]
  cases hf:(Lib.cut r [34]).2.2 with
  |false=>
   rw [if_neg (by simp)]
   refine (qP (r:= .inl (-1,orig,m,true,rows)) ?_).trans rfl
   refine qA hc (qD (by simp [hf]) rfl)
  |true=>
   rw [if_pos rfl]
   have hlt:=hl.2 hf
   by_cases hh:(Lib.cut r [34]).2.1.head?=some 34
   ·rw [if_pos hh]
    have hb:List.isPrefixOf [34] (Lib.cut r [34]).2.1=true:=(qFC 34 _).2 hh
    obtain ⟨u,hu⟩:∃u,(Lib.cut r [34]).2.1=34::u:=by
     cases e:(Lib.cut r [34]).2.1 with
     |nil=>rw [e] at hh;cases hh
     |cons c u=>rw [e] at hh;simp at hh;subst hh;exact ⟨u,rfl⟩
    rw [hb] at hp
    rw [qU (v':=(BR (acc++(Lib.cut r [34]).1++ [34]),BR (Lib.cut r [34]).2.1.tail,orig,m,b,rows)) (by
     refine qA hc (qO (by simp [hf]) (qD (decide_eq_true (by rw [qc,qc];omega)) (qA hp (qO rfl (qD (decide_eq_true (by rw [qNq,qc,List.length_append];show _+1≤9223372036854775807;omega)) (qD (decide_eq_true ⟨by decide,by simp only [qc];rw [hu];simp;omega,by simp [qc]⟩) ?_))))))
     rw [qC]
     simp only [qNq,qc,qFS]
     rw [hu]
     simp
     exact (qNq (acc++(Lib.cut r [34]).1) [34]).trans (by rw [List.append_assoc]))]
    rw [hu] at hl hlt⊢
    simp only [List.length_cons] at hl hlt
    refine qN9 n orig m b rows (k-1) _ _ M (by simp;omega) (by simp;omega) (by omega)
   ·rw [if_neg hh]
    have hb:List.isPrefixOf [34] (Lib.cut r [34]).2.1=false:=by
     rw [Bool.eq_false_iff];intro e;exact hh ((qFC 34 _).1 e)
    rw [hb] at hp
    refine (qP (r:= .inr (BR (acc++(Lib.cut r [34]).1),BR (Lib.cut r [34]).2.1,orig,m,b,rows)) ?_).trans rfl
    refine qA hc (qO (by simp [hf]) (qD (decide_eq_true (by rw [qc,qc];omega)) (qA hp (qD rfl ?_))))
    rw [qC,qNq]
theorem qTo (t:List UInt8) (b:Bool) (l:List Nd) (h:t.length≤999) (hl:l.length≤60):Ev (qDo · (BR (34::t)) l.length b (l.map qW)) (qHS (match qCK [] t with
   |none=>(-1,34::t,true,l)
   |some (s,t')=>qDc (nd1 (2,0,BR s)) (t',b,l))):=by
 have lp:=fun n M (hM:t.length+1≤M)=>qN9 n (BR (34::t)) l.length b (l.map qW) t.length t [] M (Nat.le_refl _) (by simp;omega) hM
 cases hq:qCK [] t with
 |none=>
  refine ⟨t.length+1+3,fun n hn=>?_⟩
  obtain ⟨m,rfl,hm⟩:=up3 hn
  have lp:=lp m (m+2) (by omega)
  rw [hq] at lp
  refine qD (decide_eq_true ⟨by decide,by rw [qc];simp;omega,Int.le_refl _⟩) ?_
  have e:(BR (34::t)).extract ((1:Int)).toNat ((((BR (34::t)).size:Nat):Int)).toNat=BR t:=by rw [qFS,qc];simp
  rw [e]
  exact qA lp rfl
 |some st=>
  obtain ⟨s,t'⟩:=st
  obtain ⟨n1,h1⟩:=qKf (2,0,BR s) (t',b,l) hl
  refine ⟨n1+t.length+1+3,fun n hn=>?_⟩
  obtain ⟨m,rfl,hm⟩:=up3 hn
  have lp:=lp m (m+2) (by omega)
  rw [hq] at lp
  refine qD (decide_eq_true ⟨by decide,by rw [qc];simp;omega,Int.le_refl _⟩) ?_
  have e:(BR (34::t)).extract ((1:Int)).toNat ((((BR (34::t)).size:Nat):Int)).toNat=BR t:=by rw [qFS,qc];simp
  rw [e]
  exact qA lp (qA (h1 (m+2) (by omega)) rfl)
theorem qUq (m:Nat) (r:List UInt8) (w:ByteArray):qw (m+1) (BR r) w=some (BR (if w.toList.isPrefixOf r=true then r.drop w.size else r),w.toList.isPrefixOf r):=by
 show zY (BR r) w=_
 unfold zY Lib.trimPrefix Lib.hasPrefix
 rw [←Go.Lib.toList_data (BR r),←Go.Lib.toList_data w,qAS,qAT]
 rfl
theorem qST {n:Nat} (deep:Int) (r:List UInt8) (b:Bool) (l:List Nd)
  (h1:∀i,0≤i∧i≤5→qAj n i=some (qf i)) (h2:∀i,1≤i∧i≤5→qBz n i=some (4,i,em))
  (h3:∀w,qw n (BR r) w=some (BR (if w.toList.isPrefixOf r=true then r.drop w.size else r),w.toList.isPrefixOf r))
  (h4:∀i,1≤i∧i≤5→qj n 4 i em (BR (r.drop (qf i).size)) l.length b (l.map qW)=some (qHS (qDc (nd1 (4,i,em)) (r.drop (qf i).size,b,l)))):
  ∀(k:Nat) (i:Int) (M:Nat),1≤i→i+k=6→k+1≤M→zD (qCL n) M (deep,i,BR r,l.length,b,l.map qW)=some (match qJc r i k with
   |some e=> .inl (qHS (qDc (nd1 (4,e,em)) (r.drop (qf e).size,b,l)))
   |none=> .inr (deep,BR r,l.length,b,l.map qW))
 |k,i,0,_,_,h=>by omega
 |0,i,M+1,hi,hk,h=>by
  rw [qP (r:= .inr (deep,BR r,l.length,b,l.map qW)) (by exact qO (decide_eq_false (show ¬i≤5 by omega)) rfl)]
  rfl
 |k+1,i,M+1,hi,hk,h=>by
  have hi5:1≤i∧i≤5:=⟨hi,by omega⟩
  have c:=h3 (qf i)
  cases hq:(qf i).toList.isPrefixOf r with
  |true=>
   rw [hq,if_pos rfl] at c
   unfold qJc
   rw [if_pos hq]
   refine qP (qD (decide_eq_true (show i≤5 by omega)) (qA (h1 i ⟨by omega,by omega⟩) (qA c (qD rfl (qA (h2 i hi5) (qA (h4 i hi5) rfl))))))
  |false=>
   rw [hq,if_neg (by simp)] at c
   unfold qJc
   rw [if_neg (by rw [hq];simp)]
   have w1:IntKind.i64.wrap (i+1)=i+1:=qV (by omega)
   rw [qU (v':=(deep,i+1,BR r,l.length,b,l.map qW)) (by refine qD (decide_eq_true (show i≤5 by omega)) (qA (h1 i ⟨by omega,by omega⟩) (qA c (qO rfl ?_)));rw [qC,w1])]
   exact qST deep r b l h1 h2 h3 h4 k (i+1) M (by omega) (by omega) (by omega)
theorem qVE (deep:Int) (r:List UInt8) (b:Bool) (l:List Nd) (hl:l.length≤60):∃n0,∀n,n0≤n→∀M,n0≤M→zD (qCL n) M (deep,1,BR r,l.length,b,l.map qW)=some (match qJc r 1 5 with
   |some e=> .inl (qHS (qDc (nd1 (4,e,em)) (r.drop (qf e).size,b,l)))
   |none=> .inr (deep,BR r,l.length,b,l.map qW)):=by
 obtain ⟨n1,h1⟩:=qGU (F:=qAj) (f:=qf) (lo:=0) (by decide) qE8
 obtain ⟨n2,h2⟩:=qGU (F:=qBz) (f:=fun i=>(4,i,em)) (lo:=1) (by decide) (fun i _=>qLV i)
 obtain ⟨n4,h4⟩:=qGU (F:=fun n i=>qj n 4 i em (BR (r.drop (qf i).size)) l.length b (l.map qW)) (f:=fun i=>qHS (qDc (nd1 (4,i,em)) (r.drop (qf i).size,b,l))) (lo:=1) (by decide) (fun i _=>qKf (4,i,em) (r.drop (qf i).size,b,l) hl)
 refine ⟨n1+n2+n4+7,fun n hn M hM=>?_⟩
 exact qST deep r b l (h1 n (by omega)) (h2 n (by omega)) (fun w=>by
  obtain ⟨m,rfl,_⟩:=up1 (show n1+1≤n by omega)
  exact qUq m r w) (h4 n (by omega)) 5 1 M (by omega) (by omega) (by omega)
theorem qTP {g:G_impl_reader_binary} {n:Nat} (deep:Int) (w:List UInt8) (p:PS) (res:Int→Int×PS) (h1:∀i,1≤i∧i≤10→qCO n i=some (fnS i)):
  ∀(k:Nat) (i:Int) (M:Nat),1≤i→i+k=11→k+1≤M→(∀op,qGW w i k=some op→g.impl_reader_call op deep (BR p.1) p.2.2.length p.2.1 (p.2.2.map qW)=some (qHS (res op)))→
   zD (qAo g n) M (deep,BR w,i,BR p.1,p.2.2.length,p.2.1,p.2.2.map qW)=some (match qGW w i k with
   |some op=> .inl (qHS (res op))
   |none=> .inr (qFq p))
 |k,i,0,_,_,h,_=>by omega
 |0,i,M+1,hi,hk,h,_=>by
  rw [qP (r:= .inr (qFq p)) (by exact qO (decide_eq_false (show ¬i≤10 by omega)) rfl)]
  rfl
 |k+1,i,M+1,hi,hk,h,hc=>by
  unfold qGW at hc⊢
  by_cases hq:(fnS i).toList=w
  ·rw [if_pos hq] at hc⊢
   refine qP (qD (decide_eq_true (show i≤10 by omega)) (qA (h1 i ⟨hi,by omega⟩) (qD (by simp [qAS,hq]) (qA (hc i rfl) rfl))))
  ·rw [if_neg hq] at hc⊢
   have w1:IntKind.i64.wrap (i+1)=i+1:=qV (by omega)
   have hq':¬w=(fnS i).toList:=fun e=>hq e.symm
   rw [qU (v':=(deep,BR w,i+1,BR p.1,p.2.2.length,p.2.1,p.2.2.map qW)) (by refine qD (decide_eq_true (show i≤10 by omega)) (qA (h1 i ⟨hi,by omega⟩) (qO (by simp [qAS,hq']) ?_));rw [qC,w1])]
   exact qTP deep w p res h1 k (i+1) M (by omega) (by omega) (by omega) hc
theorem qVF:∃n0,∀n,n0≤n→∀i,1≤i∧i≤10→qCO n i=some (fnS i):=by
 obtain ⟨n1,h1⟩:=qBL (F:=fun (i:Nat) n=>qCO n ((i:Int)+1)) (f:=fun i=>fnS ((i:Int)+1)) (List.range 10) (fun i hi=>qKc _ (by have:=List.mem_range.1 hi;omega))
 refine ⟨n1,fun n hn i hi=>?_⟩
 have:=h1 n hn (i-1).toNat (List.mem_range.2 (by omega))
 rwa [show (((i-1).toNat:Nat):Int)+1=i by omega] at this
theorem qVG:∃n0,∀n,n0≤n→∀i,1≤i∧i≤11→qBX n i=some (qAR i):=by
 obtain ⟨n1,h1⟩:=qBL (F:=fun (i:Nat) n=>qBX n ((i:Int)+1)) (f:=fun i=>qAR ((i:Int)+1)) (List.range 11) (fun i hi=>qHL _ (by have:=List.mem_range.1 hi;omega))
 refine ⟨n1,fun n hn i hi=>?_⟩
 have:=h1 n hn (i-1).toNat (List.mem_range.2 (by omega))
 rwa [show (((i-1).toNat:Nat):Int)+1=i by omega] at this
def opF (s:List UInt8):Int→Int→Nat→Int
 |op,_,0=>op
 |op,i,k+1=>opF s (if s=(qAR i).toList then i else op) (i+1) k
theorem qVH (r:List UInt8):opF (sgn r) 0 1 11=qAw r:=by
 unfold qAw
 generalize sgn r=s
 by_cases h1:s= [43]; · subst h1;decide+kernel
 by_cases h2:s= [45]; · subst h2;decide+kernel
 by_cases h3:s= [42]; · subst h3;decide+kernel
 by_cases h4:s= [47]; · subst h4;decide+kernel
 by_cases h5:s= [38]; · subst h5;decide+kernel
 by_cases h6:s= [61]; · subst h6;decide+kernel
 by_cases h7:s= [60,62]; · subst h7;decide+kernel
 by_cases h8:s= [60]; · subst h8;decide+kernel
 by_cases h9:s= [60,61]; · subst h9;decide+kernel
 by_cases h10:s= [62]; · subst h10;decide+kernel
 by_cases h11:s= [62,61]; · subst h11;decide+kernel
 rw [if_neg h1,if_neg h2,if_neg h3,if_neg h4,if_neg h5,if_neg h6,if_neg h7,if_neg h8,if_neg h9,if_neg h10,if_neg h11]
 rw [←sg1] at h1;rw [←sg2] at h2;rw [←sg3] at h3;rw [←sg4] at h4;rw [←sg5] at h5;rw [←sg6] at h6;rw [←sg7] at h7;rw [←sg8] at h8;rw [←sg9] at h9;rw [←qUA] at h10;rw [←qUB] at h11
 simp only [opF,if_neg h1]
 simp only [show (1:Int)+1=2 from rfl,if_neg h2,show (2:Int)+1=3 from rfl,if_neg h3,show (3:Int)+1=4 from rfl,if_neg h4,show (4:Int)+1=5 from rfl,if_neg h5,show (5:Int)+1=6 from rfl,if_neg h6,show (6:Int)+1=7 from rfl,if_neg h7,show (7:Int)+1=8 from rfl,if_neg h8,show (8:Int)+1=9 from rfl,if_neg h9,show (9:Int)+1=10 from rfl,if_neg h10,show (10:Int)+1=11 from rfl,if_neg h11]
theorem qSU {n:Nat} (least deep a op i:Int) (r R:List UInt8) (m:Nat) (b:Bool) (rows:List (List PV)) (hi:1≤i∧i≤11)
  (h1:qBr n (BR r) m b rows=some (BR (sgn R),BR R,m,b,rows)) (h2:qBX n i=some (qAR i)):
  (qBI n (least,deep,a,op,i,BR r,m,b,rows)).run=some (.inl (least,deep,a,if sgn R=(qAR i).toList then i else op,i+1,BR R,m,b,rows)):=by
 have w1:IntKind.i64.wrap (i+1)=i+1:=qV (by omega)
 refine qD (decide_eq_true (show i≤11 by omega)) (qA h1 (qA h2 ?_))
 by_cases hq:sgn R=(qAR i).toList
 ·rw [if_pos hq]
  exact qD (by simp [qAS,hq]) (by rw [qC,w1])
 ·rw [if_neg hq]
  exact qO (by simp [qAS,hq]) (by rw [qC,w1])
theorem qSV {n:Nat} (least deep a:Int) (R:List UInt8) (m:Nat) (b:Bool) (rows:List (List PV))
  (h1:qBr n (BR R) m b rows=some (BR (sgn R),BR R,m,b,rows)) (h2:∀i,1≤i∧i≤11→qBX n i=some (qAR i)):
  ∀(k:Nat) (op i:Int) (M:Nat),1≤i→i+k=12→k+1≤M→zD (qBI n) M (least,deep,a,op,i,BR R,m,b,rows)=some (least,deep,a,opF (sgn R) op i k,BR R,m,b,rows)
 |k,op,i,0,_,_,h=>by omega
 |0,op,i,M+1,hi,hk,h=>by
  rw [qP (r:=(least,deep,a,op,BR R,m,b,rows)) (by exact qO (decide_eq_false (show ¬i≤11 by omega)) rfl)]
  rfl
 |k+1,op,i,M+1,hi,hk,h=>by
  rw [qU (qSU least deep a op i R R m b rows ⟨hi,by omega⟩ h1 (h2 i ⟨hi,by omega⟩))]
  exact qSV least deep a R m b rows h1 h2 k _ (i+1) M (by omega) (by omega) (by omega)
theorem qUr (least deep a:Int) (r:List UInt8) (m:Nat) (b:Bool) (rows:List (List PV)):∃n0,∀n,n0≤n→∀M,n0≤M→zD (qBI n) M (least,deep,a,0,1,BR r,m,b,rows)=some (least,deep,a,qAw (tb r),BR (tb r),m,b,rows):=by
 obtain ⟨n1,h1⟩:=qNr r m b rows
 obtain ⟨n2,h2⟩:=qNr (tb r) m b rows
 obtain ⟨n3,h3⟩:=qVG
 refine ⟨n1+n2+n3+20,fun n hn M hM=>?_⟩
 obtain ⟨M,rfl,hM⟩:=up1 hM
 have h2:=h2 n (by omega)
 rw [qCe] at h2
 rw [qU (qSU least deep a 0 1 r (tb r) m b rows (by omega) (h1 n (by omega)) (h3 n (by omega) 1 (by omega)))]
 rw [show (1:Int)+1=2 from rfl,qSV least deep a (tb r) m b rows h2 (h3 n (by omega)) 10 _ 2 M (by omega) (by omega) (by omega),←qVH]
 rfl
theorem qTQ {p:PS} (h:Gd p):Gd (qBK p).2∧(qBK p).2.1.length≤p.1.length∧∀x,(qBK p).1=some x→qO2 x:=by
 have h1:=qAC p.1
 have h2:=qHM (tb p.1)
 have h0:=h.r
 unfold qBK
 simp only
 split
 ·have h3:=qJB [58] (wr (tb p.1),p.2)
  have h4:=qAC (qZ [58] (wr (tb p.1),p.2)).2.1
  have h5:=qHM (tb (qZ [58] (wr (tb p.1),p.2)).2.1)
  have h6:=qAC (wr (tb p.1))
  have e:(qZ [58] (wr (tb p.1),p.2)).2.2.2=p.2.2:=by unfold qZ;split<;>rfl
  simp only at h3
  refine ⟨⟨by simp only;omega,by rw [e];exact h.n,by rw [e];exact h.s⟩,by simp only;omega,fun x hx=>?_⟩
  cases hx
  exact ⟨by simp [kd,ndA],by simp [ndA,em];decide⟩
 ·exact ⟨h,Nat.le_refl _,fun x hx=>by cases hx⟩
theorem qUs (p:PS) (h:p.1.length≤1000):∃x:Nd,(∀y,(qBK p).1=some y→x=y)∧Ev (qDN · (BR p.1) p.2.2.length p.2.1 (p.2.2.map qW)) (x.1,x.2.1,x.2.2.1,x.2.2.2.1,x.2.2.2.2.1,x.2.2.2.2.2.1,x.2.2.2.2.2.2.1,x.2.2.2.2.2.2.2.1,x.2.2.2.2.2.2.2.2.1,x.2.2.2.2.2.2.2.2.2.1,x.2.2.2.2.2.2.2.2.2.2.1,x.2.2.2.2.2.2.2.2.2.2.2.1,x.2.2.2.2.2.2.2.2.2.2.2.2.1,(kd x).map qAz,(qBK p).1.isSome,qFq (qBK p).2):=by
 have l1:=qAC p.1
 have l2:=qHM (tb p.1)
 have l3:=qJB [58] (wr (tb p.1),p.2)
 have l6:=qAC (wr (tb p.1))
 simp only at l3
 obtain ⟨n1,h1⟩:=qRo p h
 obtain ⟨n2,h2⟩:=qUE p.1 h
 obtain ⟨n3,h3⟩:=qGX [58] (wr (tb p.1),p.2)
 have hle:(qZ [58] (wr (tb p.1),p.2)).2.1.length≤1000:=by omega
 obtain ⟨n4,h4⟩:=qRo (qZ [58] (wr (tb p.1),p.2)).2 hle
 obtain ⟨n5,h5⟩:=qUE (qZ [58] (wr (tb p.1),p.2)).2.1 hle
 have e:(qZ [58] (wr (tb p.1),p.2)).2.2=p.2:=by unfold qZ;split<;>rfl
 unfold qBK
 simp only
 by_cases hc:(qA6 (BR (wd (tb p.1)))).2.2.2.2=true∧(qZ [58] (wr (tb p.1),p.2)).1=true
 ·rw [if_pos hc]
  refine ⟨_,fun y hy=>by cases hy;rfl,n1+n2+n3+n4+n5+1,fun n hn=>?_⟩
  obtain ⟨k,rfl,hm⟩:=up1 hn
  refine qA (h1 k (by omega)) (qA (h2 k (by omega)) (qD hc.1 (qA (h3 k (by omega)) (qO (by simp only;rw [hc.2];rfl) (qA (h4 k (by omega)) (qA (h5 k (by omega)) ?_))))))
  cases hb:(qZ [58] (wr (tb p.1),p.2)).2.2.1 with
  |true=>
   refine qD hb ?_
   rw [qC];rfl
  |false=>
   refine qO hb ?_
   rw [qC];rfl
 ·rw [if_neg hc]
  refine ⟨(0,0,0,0,⟨#[]⟩,0,0,false,false,0,0,false,false,[]),fun y hy=>(by cases hy),n1+n2+n3+1,fun n hn=>?_⟩
  obtain ⟨k,rfl,hm⟩:=up1 hn
  cases hr:(qA6 (BR (wd (tb p.1)))).2.2.2.2 with
  |false=>exact qA (h1 k (by omega)) (qA (h2 k (by omega)) (qO hr rfl))
  |true=>
   have ht:(qZ [58] (wr (tb p.1),p.2)).1=false:=by
    rw [Bool.eq_false_iff];exact fun e=>hc ⟨hr,e⟩
   refine qA (h1 k (by omega)) (qA (h2 k (by omega)) (qD hr (qA (h3 k (by omega)) (qD (by simp only;rw [ht];rfl) ?_))))
   rw [qC]
   simp only [qFq,e]
   rfl
theorem qKg {s:ByteArray} (h:(qi s).2.2.2=true) (hk:(qi s).1=1∨(qi s).1=3):(qi s).2.2.1.size≤2000:=by
 unfold qi at h hk⊢
 split at h
 ·rename_i hc
  rw [if_pos hc] at hk⊢
  have h1:=hc.1
  unfold okV at h1
  have h2:¬(qBN s).1=2:=by
   simp only at hk
   omega
  rw [if_neg h2] at h1
  simp only [Bool.and_eq_true,beq_iff_eq] at h1
  have:=congrArg List.length h1.1
  rw [qAT] at this
  have h0:(qBN s).2.2.size=0:=this
  show (qBN s).2.2.size≤2000
  omega
 ·cases h
def Kj:PJ→PS→Prop
 | .args _ _ kids,p=>kids.length+p.1.length≤1500
 |_,_=>True
theorem qKr {w:List UInt8} {p:PS} (h:Gd p):Gd (qCX w p)∧(qCX w p).1.length≤p.1.length:=by
 have h1:=qJB w p
 have h2:=qAC p.1
 unfold qCX
 split
 ·exact ⟨h,Nat.le_refl _⟩
 ·split
  ·exact ⟨qCt h,by omega⟩
  ·exact ⟨⟨(qCt h).r,(qCt h).n,(qCt h).s⟩,by show (qZ w p).2.1.length≤_;omega⟩
theorem qMt {p:PS} {r:List UInt8} (h:Gd p) (hr:r.length≤p.1.length):Gd (r,p.2):=⟨by have:=h.r;simp only;omega,h.n,h.s⟩
theorem qFI:∀(f:Nat) (j:PJ) (p:PS),Gd p→Kj j p→Gd (pP f j p).2∧(pP f j p).2.1.length≤p.1.length
 |0,j,p,h,_=>⟨h,Nat.le_refl _⟩
 |f+1,.bin least deep,p,h,_=>by
  unfold pP
  have a:=qFI f (.un deep) p h trivial
  have b:=qFI f (.loop least deep (pP f (.un deep) p).1) (pP f (.un deep) p).2 a.1 trivial
  exact ⟨b.1,Nat.le_trans b.2 a.2⟩
 |f+1,.loop least deep a,p,h,_=>by
  have h1:=qAC p.1
  unfold pP
  split
  ·exact ⟨h,Nat.le_refl _⟩
  ·split
   ·exact ⟨qMt h h1,h1⟩
   ·have l1:((tb p.1).drop (sgn (tb p.1)).length).length≤p.1.length:=by simp;omega
    have b:=qFI f (.bin (lvl (qAw (tb p.1))+1) deep) ((tb p.1).drop (sgn (tb p.1)).length,p.2) (qMt h l1) trivial
    simp only
    have c:=qHN (x:=ndK 5 (qAw (tb p.1)) [a,(pP f (.bin (lvl (qAw (tb p.1))+1) deep) ((tb p.1).drop (sgn (tb p.1)).length,p.2)).1]) b.1 ⟨by simp [kd,ndK],by simp [ndK,em];decide⟩
    have d:=qFI f (.loop least deep (qDc (ndK 5 (qAw (tb p.1)) [a,(pP f (.bin (lvl (qAw (tb p.1))+1) deep) ((tb p.1).drop (sgn (tb p.1)).length,p.2)).1]) (pP f (.bin (lvl (qAw (tb p.1))+1) deep) ((tb p.1).drop (sgn (tb p.1)).length,p.2)).2).1) _ c trivial
    refine ⟨d.1,Nat.le_trans d.2 ?_⟩
    rw [qA4]
    exact Nat.le_trans b.2 l1
 |f+1,.un deep,p,h,_=>by
  have h1:=qAC p.1
  have h2:=qJB [45] p
  unfold pP
  split
  ·exact ⟨⟨h.r,h.n,h.s⟩,Nat.le_refl _⟩
  ·split
   ·simp only
    have b:=qFI f (.un (deep+1)) (qZ [45] p).2 (qCt h) trivial
    refine ⟨qHN b.1 ⟨by simp [kd,ndK],by simp [ndK,em];decide⟩,?_⟩
    rw [qA4]
    exact Nat.le_trans b.2 (by omega)
   ·have b:=qFI f (.at deep) (qZ [45] p).2 (qCt h) trivial
    exact ⟨b.1,Nat.le_trans b.2 (by omega)⟩
 |f+1,.at deep,p,h,_=>by
  have h1:=qAC p.1
  have h2:=qJB [40] p
  have h3:=qHM (tb p.1)
  have h4:=h.r
  have g2:Gd (wr (tb p.1),p.2):=qMt h (by omega)
  unfold pP
  simp only
  split
  ·split
   ·exact ⟨⟨by simp only;omega,h.n,h.s⟩,h1⟩
   ·rename_i hh _ s t hq
    have a:=qKp _ _ hq
    have b:=qHO _ _ _ (Nat.le_refl _) hq
    simp only [List.length_tail,List.length_nil] at a b
    refine ⟨qHN (qMt h (by omega)) ⟨by simp [kd,nd1],by simp only [nd1,qc];omega⟩,?_⟩
    rw [qA4];simp only;omega
  ·split
   ·refine ⟨qHN (qMt h (by simp;omega)) ⟨by simp [kd,nd1],by simp [nd1,em];decide⟩,?_⟩
    rw [qA4];simp;omega
   ·split
    ·have b:=qFI f (.bin 1 (deep+1)) (qZ [40] p).2 (qCt h) trivial
     have c:=qKr (w:= [41]) b.1
     exact ⟨c.1,Nat.le_trans c.2 (Nat.le_trans b.2 (by omega))⟩
    ·split
     ·rename_i hv
      refine ⟨qHN g2 ⟨by simp [kd,nd1],qKg hv.1 hv.2⟩,?_⟩
      rw [qA4];simp only;omega
     ·split
      ·refine ⟨qHN g2 ⟨by simp [kd,ndC],by simp [ndC,em];decide⟩,?_⟩
       rw [qA4];simp only;omega
      ·split
       ·rename_i op _
        have b:=qFI f (.call op deep) (wr (tb p.1),p.2) g2 trivial
        exact ⟨b.1,Nat.le_trans b.2 (by simp only;omega)⟩
       ·exact ⟨⟨g2.r,g2.n,g2.s⟩,by show (wr (tb p.1)).length≤_;omega⟩
 |f+1,.call op deep,p,h,_=>by
  unfold pP
  have a:=qKr (w:= [40]) h
  have b:=qFI f (.args op deep []) (qCX [40] p) a.1 (by have:=a.1.r;show 0+_≤_;omega)
  exact ⟨b.1,Nat.le_trans b.2 a.2⟩
 |f+1,.args op deep kids,p,h,hk=>by
  replace hk:kids.length+p.1.length≤1500:=hk
  unfold pP
  split
  ·refine ⟨qHN h ⟨by simp [kd,ndK];omega,by simp [ndK,em];decide⟩,?_⟩
   rw [qA4];exact Nat.le_refl _
  ·simp only
   have a:=qTQ h
   have qg:Gd (qEf (qBK p) (fun p=>pP f (.bin 1 (deep+1)) p)).2∧(qEf (qBK p) (fun p=>pP f (.bin 1 (deep+1)) p)).2.1.length≤p.1.length:=by
    unfold qEf
    split
    ·rename_i x hx
     refine ⟨qHN a.1 (a.2.2 x hx),?_⟩
     rw [qA4];exact a.2.1
    ·have b:=qFI f (.bin 1 (deep+1)) (qBK p).2 a.1 trivial
     exact ⟨b.1,Nat.le_trans b.2 a.2.1⟩
   generalize qEf (qBK p) (fun p=>pP f (.bin 1 (deep+1)) p)=q at qg⊢
   have t0:=qg.2
   have t1:=qAC q.2.1
   have t2:=qJB [44] q.2
   split
   ·rename_i ht
    have t3:=qDu (by simp) ht
    have b:=qFI f (.args op deep (kids++ [q.1])) (qZ [44] q.2).2 (qCt qg.1) (by show (kids++ [q.1]).length+_≤_;simp;omega)
    exact ⟨b.1,Nat.le_trans b.2 (by omega)⟩
   ·have c:=qKr (w:= [41]) (qCt (w:= [44]) qg.1)
    refine ⟨qHN c.1 ⟨by simp [kd,ndK];omega,by simp [ndK,em];decide⟩,?_⟩
    rw [qA4]
    exact Nat.le_trans c.2 (by omega)
def Ad (f:Nat):PJ→PS→Prop
 | .bin _ _,p=>20*(tb p.1).length+6≤f
 | .loop _ _ _,p=>20*(tb p.1).length+5≤f
 | .un _,p=>20*(tb p.1).length+4≤f
 | .at _,p=>20*(tb p.1).length+3≤f∧p.2.1=false
 | .call _ _,p=>20*(tb p.1).length+9≤f
 | .args _ _ _,p=>20*(tb p.1).length+8≤f
def Jd:PJ→Prop
 | .bin _ d=>0≤d∧d≤401
 | .loop _ d _=>0≤d∧d≤401
 | .un d=>0≤d∧d≤401
 | .at d=>0≤d∧d≤400
 | .call _ d=>0≤d∧d≤400
 | .args _ d _=>0≤d∧d≤400
def Wk:PJ→PS→Int×PS→Prop
 | .bin least deep,p,r=>Ev (qCp · least deep (BR p.1) p.2.2.length p.2.1 (p.2.2.map qW)) (qHS r)
 | .loop least deep a,p,r=>∃n0,∀n,n0≤n→∀M,n0≤M→zD (qDG (qT n) n) M (least,deep,a,qFq p)=some (qHS r)
 | .un deep,p,r=>Ev (qGK · deep (BR p.1) p.2.2.length p.2.1 (p.2.2.map qW)) (qHS r)
 | .at deep,p,r=>Ev (qG6 · deep (BR p.1) p.2.2.length p.2.1 (p.2.2.map qW)) (qHS r)
 | .call op deep,p,r=>Ev (qCW · op deep (BR p.1) p.2.2.length p.2.1 (p.2.2.map qW)) (qHS r)
 | .args op deep kids,p,r=>∃(ks:List Int) (p':PS),r=qDc (ndK 6 op ks) p'∧Gd p'∧ks.length≤1501∧∃n0,∀n,n0≤n→∀M,n0≤M→
   zD (qCb (qT n) n) M (op,deep,kids.length,kids.map qAz,qFq p)=some (op,ks.length,ks.map qAz,qFq p')
theorem qMu (w:List UInt8) {p:PS} (h:p.2.1=false):(BR (qZ w p).2.1,(qZ w p).2.2.2.length,!(qZ w p).1,(qZ w p).2.2.2.map qW)=qFq (qCX w p):=by
 have e:(qZ w p).2.2=p.2:=by unfold qZ;split<;>rfl
 unfold qCX
 rw [if_neg (by rw [h];simp)]
 cases hc:(qZ w p).1 with
 |true=>rw [if_pos rfl];simp only [qFq,e,h];rfl
 |false=>rw [if_neg (by simp)];rfl
theorem qRq {r w:List UInt8} (hw:w≠ []) (h:w<+:r):(tb (r.drop w.length)).length<r.length:=by
 have h1:=qAC (r.drop w.length)
 have h2:=h.length_le
 have h3:0<w.length:=List.length_pos_iff.2 hw
 simp only [List.length_drop] at h1
 omega
theorem qVf {r:List UInt8} (h:qAw r≠0):1≤qAw r∧qAw r≤11∧sgn r=(qAR (qAw r)).toList∧sgn r≠ []:=by
 rcases qTM r with e|⟨a,b,c⟩
 ·exact absurd e h
 ·refine ⟨a,b,c,fun e=>h ?_⟩
  unfold qAw;rw [e];decide
def qUF (f:Nat) (deep:Int) (w:List UInt8) (p2:PS):Int×PS:=
 if (qi (BR w)).2.2.2=true∧((qi (BR w)).1=1∨(qi (BR w)).1=3) then qDc (nd1 ((qi (BR w)).1,(qi (BR w)).2.1,(qi (BR w)).2.2.1)) p2
 else if (qA6 (BR w)).2.2.2.2=true then qDc (ndC (qA6 (BR w))) p2
 else match qGW w 1 10 with
 |some op=>pP f (.call op deep) p2
 |none=>(-1,qSu p2)
def qSz (g:G_impl_reader_binary) (n:Nat) (deep:Int) (w:ByteArray) (c:ByteArray×Nat×Bool×List (List PV)):Tr (Int×ByteArray×Nat×Bool×List (List PV)):=
 (.opt (qAk n w) fun r=>(.ask r.2.2.2.2
  (.opt (qp n 2 0 0 0 ⟨#[]⟩ r.1 r.2.1 r.2.2.1 r.2.2.2.1 0 0 false false [] c.1 c.2.1 c.2.2.1 c.2.2.2) fun s=> .done (s.1,s.2.1,s.2.2.1,s.2.2.2.1,s.2.2.2.2))
  (.opt (zD (qAo g n) n (deep,w,1,c.1,c.2.1,c.2.2.1,c.2.2.2)) fun s=>(.alt s (fun t=> .done (t.1,t.2.1,t.2.2.1,t.2.2.2.1,t.2.2.2.2)) (fun t=> .done (-1,t.1,t.2.1,true,t.2.2.2))))))
def qU4 (g:G_impl_reader_binary) (n:Nat) (deep:Int) (w:ByteArray) (c:ByteArray×Nat×Bool×List (List PV)):Tr (Int×ByteArray×Nat×Bool×List (List PV)):=
 (.opt (qe n w) fun r=>(.ask r.2.2.2
  (.ask (r.1==1) (.opt (qj n r.1 r.2.1 r.2.2.1 c.1 c.2.1 c.2.2.1 c.2.2.2) fun s=> .done (s.1,s.2.1,s.2.2.1,s.2.2.2.1,s.2.2.2.2))
   (.ask (r.1==3) (.opt (qj n r.1 r.2.1 r.2.2.1 c.1 c.2.1 c.2.2.1 c.2.2.2) fun s=> .done (s.1,s.2.1,s.2.2.1,s.2.2.2.1,s.2.2.2.2))
    (qSz g n deep w c)))
  (qSz g n deep w c)))
theorem qTp (f:Nat) (deep:Int) (r:List UInt8) (p2:PS) (hr:r.length≤1000) (hp:p2.2.2.length≤60) (hc:∀op,qGW (wd (tb r)) 1 10=some op→Ev (qCW · op deep (BR p2.1) p2.2.2.length p2.2.1 (p2.2.2.map qW)) (qHS (pP f (.call op deep) p2))):
  ∃n0,∀n,n0≤n→(qSz (qT n) n deep (BR (wd (tb r))) (qFq p2)).run=some (qHS (if (qA6 (BR (wd (tb r)))).2.2.2.2=true then qDc (ndC (qA6 (BR (wd (tb r))))) p2 else match qGW (wd (tb r)) 1 10 with
   |some op=>pP f (.call op deep) p2
   |none=>(-1,qSu p2))):=by
 obtain ⟨n1,h1⟩:=qUE r hr
 obtain ⟨n2,h2⟩:=qNs (ndC (qA6 (BR (wd (tb r))))) p2 hp
 obtain ⟨n3,h3⟩:=qVF
 obtain ⟨n4,h4⟩:∃n4,∀n,n4≤n→∀op,qGW (wd (tb r)) 1 10=some op→qCW n op deep (BR p2.1) p2.2.2.length p2.2.1 (p2.2.2.map qW)=some (qHS (pP f (.call op deep) p2)):=by
  cases hf:qGW (wd (tb r)) 1 10 with
  |none=>exact ⟨0,fun n _ op h=>by cases h⟩
  |some op=>obtain ⟨n4,h4⟩:=hc op hf;exact ⟨n4,fun n hn op' h=>by cases h;exact h4 n hn⟩
 refine ⟨n1+n2+n3+n4+12,fun n hn=>?_⟩
 have lp:=qTP (g:=qT n) deep (wd (tb r)) p2 (fun op=>pP f (.call op deep) p2) (h3 n (by omega)) 10 1 n (by omega) (by omega) (by omega) (h4 n (by omega))
 cases hb:(qA6 (BR (wd (tb r)))).2.2.2.2 with
 |true=>
  rw [if_pos rfl]
  exact qA (h1 n (by omega)) (qD hb (qA (h2 n (by omega)) rfl))
 |false=>
  rw [if_neg (by simp)]
  refine qA (h1 n (by omega)) (qO hb (qA lp ?_))
  cases qGW (wd (tb r)) 1 10<;>rfl
theorem qUG (f:Nat) (deep:Int) (r:List UInt8) (p2:PS) (hr:r.length≤1000) (hp:p2.2.2.length≤60) (hc:∀op,qGW (wd (tb r)) 1 10=some op→Ev (qCW · op deep (BR p2.1) p2.2.2.length p2.2.1 (p2.2.2.map qW)) (qHS (pP f (.call op deep) p2))):
  ∃n0,∀n,n0≤n→(qU4 (qT n) n deep (BR (wd (tb r))) (qFq p2)).run=some (qHS (qUF f deep (wd (tb r)) p2)):=by
 obtain ⟨n1,h1⟩:=qVe r hr
 obtain ⟨n2,h2⟩:=qKf ((qi (BR (wd (tb r)))).1,(qi (BR (wd (tb r)))).2.1,(qi (BR (wd (tb r)))).2.2.1) p2 hp
 obtain ⟨n3,h3⟩:=qTp f deep r p2 hr hp hc
 refine ⟨n1+n2+n3,fun n hn=>?_⟩
 have h2:=h2 n (by omega)
 have h3:=h3 n (by omega)
 unfold qUF
 refine qA (h1 n (by omega)) ?_
 by_cases ho:(qi (BR (wd (tb r)))).2.2.2=true
 ·refine qD ho ?_
  by_cases k1:(qi (BR (wd (tb r)))).1=1
  ·rw [if_pos ⟨ho,.inl k1⟩]
   exact qD (by rw [k1];rfl) (qA h2 rfl)
  ·refine qO (beq_eq_false_iff_ne.2 k1) ?_
   by_cases k3:(qi (BR (wd (tb r)))).1=3
   ·rw [if_pos ⟨ho,.inr k3⟩]
    exact qD (by rw [k3];rfl) (qA h2 rfl)
   ·rw [if_neg (fun h=>h.2.elim k1 k3)]
    exact qO (beq_eq_false_iff_ne.2 k3) h3
 ·rw [if_neg (fun h=>ho h.1)]
  exact qO (by rw [Bool.eq_false_iff];exact ho) h3
theorem qVg (w:List UInt8) (p:PS):qZ w (tb p.1,p.2)=qZ w p:=by unfold qZ;simp only [qCe]
theorem qKs {c:UInt8} {r:List UInt8} (h:r.head?=some c):∃t,r=c::t:=by
 cases r with
 |nil=>cases h
 |cons d t=>simp at h;subst h;exact ⟨t,rfl⟩
theorem qFT:∀(f:Nat) (j:PJ) (p:PS),Ad f j p→Jd j→Gd p→Kj j p→Wk j p (pP f j p)
 |0,j,p,ha,_,_,_=>by cases j<;>simp [Ad] at ha
 |f+1,.bin least deep,p,ha,hj,hg,_=>by
  replace ha:20*(tb p.1).length+6≤f+1:=ha
  obtain ⟨n1,h1⟩:=qFT f (.un deep) p (by show 20*_+4≤f;omega) hj hg trivial
  have hl:=qDv f (.un deep) p
  obtain ⟨n2,h2⟩:=qFT f (.loop least deep (pP f (.un deep) p).1) (pP f (.un deep) p).2 (by show 20*_+5≤f;omega) hj (qFI f (.un deep) p hg trivial).1 trivial
  refine ⟨n1+n2+1,fun n hn=>?_⟩
  obtain ⟨k,rfl,hm⟩:=up1 hn
  exact qA (h1 k (by omega)) (qA (h2 k (by omega) k (by omega)) rfl)
 |f+1,.loop least deep a,(r,b,l),ha,hj,hg,_=>by
  replace ha:20*(tb r).length+5≤f+1:=ha
  have hn60:l.length≤60:=hg.n
  have hr1:r.length≤1000:=hg.r
  have ht:=qAC r
  unfold pP
  cases b with
  |true=>
   rw [if_pos rfl]
   refine ⟨1,fun n hn M hM=>?_⟩
   obtain ⟨M,rfl,hM⟩:=up1 hM
   exact qP (qO rfl rfl)
  |false=>
   rw [if_neg (by simp)]
   simp only
   obtain ⟨n1,h1⟩:=qUr least deep a r l.length false (l.map qW)
   by_cases h0:qAw (tb r)=0
   ·rw [if_pos (.inl h0)]
    refine ⟨n1+1,fun n hn M hM=>?_⟩
    obtain ⟨M,rfl,hM⟩:=up1 hM
    exact qP (qD rfl (qA (h1 n (by omega) n (by omega)) (qD (by simp only;rw [h0];rfl) rfl)))
   ·obtain ⟨o1,o2,o3,o4⟩:=qVf h0
    obtain ⟨n2,h2⟩:=qLZ (qAw (tb r)) ⟨o1,o2⟩
    by_cases hl:lvl (qAw (tb r))<least
    ·rw [if_pos (.inr hl)]
     refine ⟨n1+n2+1,fun n hn M hM=>?_⟩
     obtain ⟨M,rfl,hM⟩:=up1 hM
     exact qP (qD rfl (qA (h1 n (by omega) n (by omega)) (qO (beq_eq_false_iff_ne.2 h0) (qA (h2 n (by omega)) (qD (decide_eq_true hl) rfl)))))
    ·rw [if_neg (fun h=>h.elim h0 hl)]
     have lv:=qSv (op:=qAw (tb r))
     have hlt:=qRq o4 (qTN (tb r))
     have hp1:Gd ((tb r).drop (sgn (tb r)).length,false,l):=⟨by simp;omega,hn60,hg.s⟩
     obtain ⟨n3,h3⟩:=qHL (qAw (tb r)) ⟨o1,o2⟩
     obtain ⟨n4,h4⟩:=qRF (qAR (qAw (tb r))).toList (tb r) l.length false (l.map qW)
     obtain ⟨n5,h5⟩:=qFT f (.bin (lvl (qAw (tb r))+1) deep) ((tb r).drop (sgn (tb r)).length,false,l) (by show 20*_+6≤f;simp only;omega) hj hp1 trivial
     have g5:=qFI f (.bin (lvl (qAw (tb r))+1) deep) ((tb r).drop (sgn (tb r)).length,false,l) hp1 trivial
     have l5:=qDv f (.bin (lvl (qAw (tb r))+1) deep) ((tb r).drop (sgn (tb r)).length,false,l)
     simp only at l5
     generalize pP f (.bin (lvl (qAw (tb r))+1) deep) ((tb r).drop (sgn (tb r)).length,false,l)=q at h5 g5 l5⊢
     obtain ⟨n6,h6⟩:=qNs (ndK 5 (qAw (tb r)) [a,q.1]) q.2 g5.1.n
     have g6:=qHN (x:=ndK 5 (qAw (tb r)) [a,q.1]) g5.1 ⟨by simp [kd,ndK],by simp [ndK,em];decide⟩
     have e6:=qA4 (ndK 5 (qAw (tb r)) [a,q.1]) q.2
     generalize qDc (ndK 5 (qAw (tb r)) [a,q.1]) q.2=c at h6 g6 e6⊢
     obtain ⟨n7,h7⟩:=qFT f (.loop least deep c.1) c.2 (by show 20*(tb c.2.1).length+5≤f;rw [e6];omega) hj g6 trivial
     refine ⟨n1+n2+n3+n4+n5+n6+n7+1,fun n hn M hM=>?_⟩
     obtain ⟨M,rfl,hM⟩:=up1 hM
     have w1:IntKind.i64.wrap (lvl (qAw (tb r))+1)=lvl (qAw (tb r))+1:=qV (by omega)
     have h3:=h3 n (by omega)
     have h4:=h4 n (by omega)
     have h5:=h5 n (by omega)
     rw [qIj,qCe,←o3,if_pos rfl] at h4
     rw [←w1] at h5
     rw [qU (v':=(least,deep,c.1,qFq c.2)) (by
      exact qD rfl (qA (h1 n (by omega) n (by omega)) (qO (beq_eq_false_iff_ne.2 h0) (qA (h2 n (by omega)) (qO (decide_eq_false hl) (qA h3 (qA h4 (qA (h2 n (by omega)) (qA h5 (qD rfl (qA (h6 n (by omega)) rfl)))))))))))]
     exact h7 n (by omega) M (by omega)
 |f+1,.un deep,p,ha,hj,hg,_=>by
  replace ha:20*(tb p.1).length+4≤f+1:=ha
  replace hj:0≤deep∧deep≤401:=hj
  unfold pP
  by_cases hd:deep>400
  ·rw [if_pos (.inl hd)]
   refine ⟨1,fun n hn=>?_⟩
   obtain ⟨k,rfl,hm⟩:=up1 hn
   exact qD (decide_eq_true hd) (qD rfl rfl)
  ·cases hb:p.2.1 with
   |true=>
    rw [if_pos (.inr rfl)]
    refine ⟨1,fun n hn=>?_⟩
    obtain ⟨k,rfl,hm⟩:=up1 hn
    refine qO (decide_eq_false hd) (qD hb ?_)
    rw [qC,hb];rfl
   |false=>
    rw [if_neg (fun h=>h.elim hd (by simp))]
    obtain ⟨n1,h1⟩:=qGX [45] p
    have t1:=qD4 [45] p
    cases hc:(qZ [45] p).1 with
    |true=>
     rw [if_pos rfl]
     simp only
     have t2:=qDu (by simp) hc
     have t3:=qAC (qZ [45] p).2.1
     obtain ⟨n2,h2⟩:=qFT f (.un (deep+1)) (qZ [45] p).2 (by show 20*_+4≤f;omega) (by show 0≤deep+1∧deep+1≤401;omega) (qCt hg) trivial
     have g2:=qFI f (.un (deep+1)) (qZ [45] p).2 (qCt hg) trivial
     generalize pP f (.un (deep+1)) (qZ [45] p).2=q at h2 g2⊢
     obtain ⟨n3,h3⟩:=qNs (ndK 4 0 [q.1]) q.2 g2.1.n
     refine ⟨n1+n2+n3+1,fun n hn=>?_⟩
     obtain ⟨k,rfl,hm⟩:=up1 hn
     have w1:IntKind.i64.wrap (deep+1)=deep+1:=qV (by omega)
     have h2:=h2 k (by omega)
     rw [←w1] at h2
     exact qO (decide_eq_false hd) (qO hb (qA (h1 k (by omega)) (qD hc (qA h2 (qD rfl (qA (h3 k (by omega)) rfl))))))
    |false=>
     rw [if_neg (by simp)]
     have e:(qZ [45] p).2.2=p.2:=by unfold qZ;split<;>rfl
     obtain ⟨n2,h2⟩:=qFT f (.at deep) (qZ [45] p).2 ⟨by omega,by rw [e];exact hb⟩ (by show 0≤deep∧deep≤400;omega) (qCt hg) trivial
     refine ⟨n1+n2+1,fun n hn=>?_⟩
     obtain ⟨k,rfl,hm⟩:=up1 hn
     exact qO (decide_eq_false hd) (qO hb (qA (h1 k (by omega)) (qO hc (qA (h2 k (by omega)) rfl))))
 |f+1,.at deep,(r0,b,l),ha,hj,hg,_=>by
  obtain ⟨ha,hb⟩:=ha
  replace ha:20*(tb r0).length+3≤f+1:=ha
  replace hb:b=false:=hb
  subst hb
  replace hj:0≤deep∧deep≤400:=hj
  have hn60:l.length≤60:=hg.n
  have hr1:r0.length≤1000:=hg.r
  have ht:=qAC r0
  have ett:=qCe r0
  have eit:=qVg [40] (r0,false,l)
  obtain ⟨n1,h1⟩:=qHn r0 l.length false (l.map qW)
  have wdec:∀op,qGW (wd (tb r0)) 1 10=some op→(wr (tb r0)).length<(tb r0).length:=fun op h=>by
   have e:=congrArg List.length (wdr (tb r0))
   simp only [List.length_append] at e
   have:wd (tb r0)≠ []:=fun e=>by
    rw [e,show qGW [] 1 10=none by decide+kernel] at h
    cases h
   have:=List.length_pos_iff.2 this
   omega
  unfold pP
  simp only at eit⊢
  rw [←eit]
  generalize tb r0=r at*
  have hw:=qHM r
  have wordEv:∃n0,∀n,n0≤n→(qU4 (qT n) n deep (BR (wd r)) (qFq (wr r,false,l))).run=some (qHS (qUF f deep (wd r) (wr r,false,l))):=by
   have:=qUG f deep r (wr r,false,l) (by omega) hn60 (by
    rw [ett]
    intro op h
    exact qFT f (.call op deep) (wr r,false,l) (by have:=wdec op h;have:=qAC (wr r);show 20*(tb (wr r)).length+9≤f;omega) hj ⟨by simp only;omega,hn60,hg.s⟩ trivial)
   rwa [ett] at this
  obtain ⟨n9,h9⟩:=wordEv
  obtain ⟨n8,h8⟩:=qRo (r,false,l) (by simp only;omega)
  simp only [ett] at h8
  by_cases hq:r.head?=some 34
  ·rw [if_pos hq]
   obtain ⟨t,rfl⟩:=qKs hq
   simp only [List.length_cons] at ht
   obtain ⟨n2,h2⟩:=qTo t false l (by omega) hn60
   refine ⟨n1+n2+3,fun n hn=>?_⟩
   obtain ⟨k,rfl,hm⟩:=up3 hn
   refine qA (h1 (k+2) (by omega)) (qA (qBf k (34::t) [34]) (qD rfl (qA (h2 (k+2) (by omega)) ?_)))
   rw [qC]
   simp only [List.tail_cons]
   all_goals (cases qCK [] t<;>rfl)
  ·rw [if_neg hq]
   have p34:List.isPrefixOf [34] r=false:=by rw [Bool.eq_false_iff];exact fun e=>hq ((qFC 34 r).1 e)
   by_cases hh:r.head?=some 35
   ·have p35:List.isPrefixOf [35] r=true:=(qFC 35 r).2 hh
    simp only [if_pos hh]
    obtain ⟨n2,h2⟩:=qVE deep r false l hn60
    cases he:qJc r 1 5 with
    |some e=>
     simp only
     refine ⟨n1+n2+3,fun n hn=>?_⟩
     obtain ⟨k,rfl,hm⟩:=up3 hn
     have h2:=h2 (k+2) (by omega) (k+2) (by omega)
     rw [he] at h2
     exact qA (h1 (k+2) (by omega)) (qA (qBf k r [34]) (qO p34 (qA (qBf k r [35]) (qD p35 (qA h2 rfl)))))
    |none=>
     simp only
     rw [if_neg (fun h=>h.1 hh)]
     refine ⟨n1+n2+n8+n9+3,fun n hn=>?_⟩
     obtain ⟨k,rfl,hm⟩:=up3 hn
     have h2:=h2 (k+2) (by omega) (k+2) (by omega)
     rw [he] at h2
     exact qA (h1 (k+2) (by omega)) (qA (qBf k r [34]) (qO p34 (qA (qBf k r [35]) (qD p35 (qA h2 (qA (h8 (k+2) (by omega)) (h9 (k+2) (by omega))))))))
   ·have p35:List.isPrefixOf [35] r=false:=by rw [Bool.eq_false_iff];exact fun e=>hh ((qFC 35 r).1 e)
    simp only [if_neg hh]
    obtain ⟨n2,h2⟩:=qGX [40] (r,false,l)
    cases hc:(qZ [40] (r,false,l)).1 with
    |true=>
     rw [if_pos ⟨hh,rfl⟩]
     have t2:=qDu (by simp) hc
     have t3:=qAC (qZ [40] (r,false,l)).2.1
     simp only [ett] at t2
     have g1:Gd (r,false,l):=⟨by simp only;omega,hn60,hg.s⟩
     obtain ⟨n3,h3⟩:=qFT f (.bin 1 (deep+1)) (qZ [40] (r,false,l)).2 (by show 20*_+6≤f;omega) (by show 0≤deep+1∧deep+1≤401;omega) (qCt g1) trivial
     generalize pP f (.bin 1 (deep+1)) (qZ [40] (r,false,l)).2=q at h3⊢
     obtain ⟨n4,h4⟩:=qGX [41] q.2
     refine ⟨n1+n2+n3+n4+3,fun n hn=>?_⟩
     obtain ⟨k,rfl,hm⟩:=up3 hn
     have w1:IntKind.i64.wrap (deep+1)=deep+1:=qV (by omega)
     have h3:=h3 (k+2) (by omega)
     rw [←w1] at h3
     cases hbb:q.2.2.1 with
     |true=>
      refine qA (h1 (k+2) (by omega)) (qA (qBf k r [34]) (qO p34 (qA (qBf k r [35]) (qO p35 (qA (h2 (k+2) (by omega)) (qD hc (qA h3 (qD hbb ?_))))))))
      rw [qC]
      unfold qCX
      rw [if_pos hbb]
      simp only [qHS,hbb]
     |false=>
      refine qA (h1 (k+2) (by omega)) (qA (qBf k r [34]) (qO p34 (qA (qBf k r [35]) (qO p35 (qA (h2 (k+2) (by omega)) (qD hc (qA h3 (qO hbb (qA (h4 (k+2) (by omega)) ?_)))))))))
      rw [qC]
      exact congrArg (fun x=>some (q.1,x)) (qMu [41] hbb)
    |false=>
     rw [if_neg (fun h=>by simp at h)]
     have e:(qZ [40] (r,false,l)).2=(r,false,l):=by
      unfold qZ at hc⊢
      split at hc
      ·cases hc
      ·rename_i hne
       rw [if_neg hne];simp only [ett]
     rw [hc,e] at h2
     refine ⟨n1+n2+n8+n9+3,fun n hn=>?_⟩
     obtain ⟨k,rfl,hm⟩:=up3 hn
     exact qA (h1 (k+2) (by omega)) (qA (qBf k r [34]) (qO p34 (qA (qBf k r [35]) (qO p35 (qA (h2 (k+2) (by omega)) (qO rfl (qA (h8 (k+2) (by omega)) (h9 (k+2) (by omega)))))))))
 |f+1,.call op deep,p,ha,hj,hg,_=>by
  replace ha:20*(tb p.1).length+9≤f+1:=ha
  unfold pP
  have gm:=qKr (w:= [40]) hg
  have rm:=qKo [40] p
  obtain ⟨ks,p',e1,e2,e3,n2,h2⟩:=qFT f (.args op deep []) (qCX [40] p) (by show 20*_+8≤f;omega) hj gm.1 (by have:=gm.1.r;show 0+_≤_;omega)
  obtain ⟨n1,h1⟩:=qGX [40] p
  obtain ⟨n3,h3⟩:=qNs (ndK 6 op ks) p' e2.n
  rw [e1]
  refine ⟨n1+n2+n3+1,fun n hn=>?_⟩
  obtain ⟨k,rfl,hm⟩:=up1 hn
  have h2:=h2 k (by omega) k (by omega)
  by_cases hb:p.2.1=true
  ·have em:qFq (qCX [40] p)=(BR p.1,p.2.2.length,true,p.2.2.map qW):=by
    unfold qCX;rw [if_pos hb];simp only [qFq,hb]
   rw [em] at h2
   exact qD hb (qA h2 (qD (decide_eq_true (by simp)) (qA (h3 k (by omega)) rfl)))
  ·have hb:p.2.1=false:=by rw [Bool.eq_false_iff];exact hb
   have em:=qMu [40] hb
   rw [←em] at h2
   exact qO hb (qA (h1 k (by omega)) (qA h2 (qD (decide_eq_true (by simp)) (qA (h3 k (by omega)) rfl))))
 |f+1,.args op deep kids,p,ha,hj,hg,hk=>by
  replace ha:20*(tb p.1).length+8≤f+1:=ha
  replace hk:kids.length+p.1.length≤1500:=hk
  replace hj:0≤deep∧deep≤400:=hj
  unfold pP
  cases hb:p.2.1 with
  |true=>
   rw [if_pos rfl]
   refine ⟨kids,p,rfl,hg,by omega,1,fun n hn M hM=>?_⟩
   obtain ⟨M,rfl,hM⟩:=up1 hM
   exact qP (qO (by show (!p.2.1)=false;rw [hb];rfl) rfl)
  |false=>
   rw [if_neg (by simp)]
   simp only
   obtain ⟨x,hx,n1,h1⟩:=qUs p hg.r
   have ga:=qTQ hg
   have ra:=qIi p
   have tl0:=qAC p.1
   have nb:∀k:Nat,(!(qFq p).2.2.1)=true:=fun _=>by show (!p.2.1)=true;rw [hb];rfl
   cases hi:(qBK p).1 with
   |some y=>
    have hxy:=hx y hi
    subst hxy
    obtain ⟨n3,h3⟩:=qNs x (qBK p).2 ga.1.n
    have eo:qEf (qBK p) (fun p=>pP f (.bin 1 (deep+1)) p)=qDc x (qBK p).2:=by unfold qEf;rw [hi]
    rw [eo]
    have gq:Gd (qDc x (qBK p).2).2∧(qDc x (qBK p).2).2.1.length≤p.1.length∧(tb (qDc x (qBK p).2).2.1).length≤(tb p.1).length:=⟨qHN ga.1 (ga.2.2 x hi),by rw [qA4];exact ga.2.1,by rw [qA4];exact ra⟩
    have n2:=0
    generalize qDc x (qBK p).2=Q at h3 gq⊢
    obtain ⟨n4,h4⟩:=qGX [44] Q.2
    cases hc:(qZ [44] Q.2).1 with
    |true=>
     obtain ⟨ks,p',e1,e2,e3,n6,h6⟩:=qFT f (.args op deep (kids++ [Q.1])) (qZ [44] Q.2).2 (by have:=qDu (by simp) hc;show 20*(tb (qZ [44] Q.2).2.1).length+8≤f;have:=qAC (qZ [44] Q.2).2.1;omega) ⟨hj.1,hj.2⟩ (qCt gq.1) (by have:=qDu (by simp) hc;have:=qAC Q.2.1;show (kids++ [Q.1]).length+_≤_;simp;omega)
     refine ⟨ks,p',by rw [if_pos rfl];exact e1,e2,e3,n1+n2+n3+n4+n6+1,fun k hn M hM=>?_⟩
     obtain ⟨M,rfl,hM⟩:=up1 hM
     rw [qU (v':=(op,deep,(kids++ [Q.1]).length,(kids++ [Q.1]).map qAz,qFq (qZ [44] Q.2).2)) (by
      have h1:=h1 k (by omega)
      rw [hi] at h1
      refine qD (nb 0) (qA h1 (qD rfl (qA (h3 k (by omega)) (qD rfl (qD (decide_eq_true ⟨by simp,by decide,by decide,by simp;omega,rfl⟩) (qA (h4 k (by omega)) ?_))))))
      refine qO (by simp only;rw [hc];rfl) ?_
      rw [qC]
      simp only [List.length_append,List.map_append]
      rfl)]
     exact h6 k (by omega) M (by omega)
    |false=>
     obtain ⟨n5,h5⟩:=qGX [41] (qZ [44] Q.2).2
     refine ⟨kids++ [Q.1],qCX [41] (qZ [44] Q.2).2,by rw [if_neg (by simp)],(qKr (qCt gq.1)).1,by simp;omega,n1+n2+n3+n4+n5+1,fun k hn M hM=>?_⟩
     obtain ⟨M,rfl,hM⟩:=up1 hM
     cases hbb:(qZ [44] Q.2).2.2.1 with
     |true=>
      rw [qP (r:=(op,(kids++ [Q.1]).length,(kids++ [Q.1]).map qAz,qFq (qCX [41] (qZ [44] Q.2).2))) (by
       have h1:=h1 k (by omega)
       rw [hi] at h1
       refine qD (nb 0) (qA h1 (qD rfl (qA (h3 k (by omega)) (qD rfl (qD (decide_eq_true ⟨by simp,by decide,by decide,by simp;omega,rfl⟩) (qA (h4 k (by omega)) ?_))))))
       refine qD (by simp only;rw [hc];rfl) (qD hbb ?_)
       rw [qC]
       unfold qCX
       rw [if_pos hbb]
       simp only [List.length_append,List.map_append,qFq,hbb]
       rfl)]
     |false=>
      rw [qP (r:=(op,(kids++ [Q.1]).length,(kids++ [Q.1]).map qAz,qFq (qCX [41] (qZ [44] Q.2).2))) (by
       have h1:=h1 k (by omega)
       rw [hi] at h1
       refine qD (nb 0) (qA h1 (qD rfl (qA (h3 k (by omega)) (qD rfl (qD (decide_eq_true ⟨by simp,by decide,by decide,by simp;omega,rfl⟩) (qA (h4 k (by omega)) ?_))))))
       refine qD (by simp only;rw [hc];rfl) (qO hbb (qA (h5 k (by omega)) ?_))
       rw [qC]
       simp only [List.length_append,List.map_append]
       exact congrArg (fun x=>some (Sum.inr (op,kids.length+1,kids.map qAz++ [[PV.i IntKind.i64 Q.1]],x))) (qMu [41] hbb))]
   |none=>
    have eo:qEf (qBK p) (fun p=>pP f (.bin 1 (deep+1)) p)=pP f (.bin 1 (deep+1)) (qBK p).2:=by unfold qEf;rw [hi]
    rw [eo]
    obtain ⟨n3,h3⟩:=qFT f (.bin 1 (deep+1)) (qBK p).2 (by show 20*_+6≤f;omega) (by show 0≤deep+1∧deep+1≤401;omega) ga.1 trivial
    have g3:=qFI f (.bin 1 (deep+1)) (qBK p).2 ga.1 trivial
    have l3:=qDv f (.bin 1 (deep+1)) (qBK p).2
    have w1:IntKind.i64.wrap (deep+1)=deep+1:=qV (by omega)
    have gq:Gd (pP f (.bin 1 (deep+1)) (qBK p).2).2∧(pP f (.bin 1 (deep+1)) (qBK p).2).2.1.length≤p.1.length∧(tb (pP f (.bin 1 (deep+1)) (qBK p).2).2.1).length≤(tb p.1).length:=⟨g3.1,Nat.le_trans g3.2 ga.2.1,Nat.le_trans l3 ra⟩
    rw [←w1] at h3
    have n2:=0
    rw [w1] at h3
    generalize pP f (.bin 1 (deep+1)) (qBK p).2=Q at h3 gq⊢
    obtain ⟨n4,h4⟩:=qGX [44] Q.2
    cases hc:(qZ [44] Q.2).1 with
    |true=>
     obtain ⟨ks,p',e1,e2,e3,n6,h6⟩:=qFT f (.args op deep (kids++ [Q.1])) (qZ [44] Q.2).2 (by have:=qDu (by simp) hc;show 20*(tb (qZ [44] Q.2).2.1).length+8≤f;have:=qAC (qZ [44] Q.2).2.1;omega) ⟨hj.1,hj.2⟩ (qCt gq.1) (by have:=qDu (by simp) hc;have:=qAC Q.2.1;show (kids++ [Q.1]).length+_≤_;simp;omega)
     refine ⟨ks,p',by rw [if_pos rfl];exact e1,e2,e3,n1+n2+n3+n4+n6+1,fun k hn M hM=>?_⟩
     obtain ⟨M,rfl,hM⟩:=up1 hM
     rw [qU (v':=(op,deep,(kids++ [Q.1]).length,(kids++ [Q.1]).map qAz,qFq (qZ [44] Q.2).2)) (by
      have h1:=h1 k (by omega)
      rw [hi] at h1
      have h3:=h3 k (by omega)
      rw [←w1] at h3
      refine qD (nb 0) (qA h1 (qO rfl (qA h3 (qD rfl (qD (decide_eq_true ⟨by simp,by decide,by decide,by simp;omega,rfl⟩) (qA (h4 k (by omega)) ?_))))))
      refine qO (by simp only;rw [hc];rfl) ?_
      rw [qC]
      simp only [List.length_append,List.map_append]
      rfl)]
     exact h6 k (by omega) M (by omega)
    |false=>
     obtain ⟨n5,h5⟩:=qGX [41] (qZ [44] Q.2).2
     refine ⟨kids++ [Q.1],qCX [41] (qZ [44] Q.2).2,by rw [if_neg (by simp)],(qKr (qCt gq.1)).1,by simp;omega,n1+n2+n3+n4+n5+1,fun k hn M hM=>?_⟩
     obtain ⟨M,rfl,hM⟩:=up1 hM
     cases hbb:(qZ [44] Q.2).2.2.1 with
     |true=>
      rw [qP (r:=(op,(kids++ [Q.1]).length,(kids++ [Q.1]).map qAz,qFq (qCX [41] (qZ [44] Q.2).2))) (by
       have h1:=h1 k (by omega)
       rw [hi] at h1
       have h3:=h3 k (by omega)
       rw [←w1] at h3
       refine qD (nb 0) (qA h1 (qO rfl (qA h3 (qD rfl (qD (decide_eq_true ⟨by simp,by decide,by decide,by simp;omega,rfl⟩) (qA (h4 k (by omega)) ?_))))))
       refine qD (by simp only;rw [hc];rfl) (qD hbb ?_)
       rw [qC]
       unfold qCX
       rw [if_pos hbb]
       simp only [List.length_append,List.map_append,qFq,hbb]
       rfl)]
     |false=>
      rw [qP (r:=(op,(kids++ [Q.1]).length,(kids++ [Q.1]).map qAz,qFq (qCX [41] (qZ [44] Q.2).2))) (by
       have h1:=h1 k (by omega)
       rw [hi] at h1
       have h3:=h3 k (by omega)
       rw [←w1] at h3
       refine qD (nb 0) (qA h1 (qO rfl (qA h3 (qD rfl (qD (decide_eq_true ⟨by simp,by decide,by decide,by simp;omega,rfl⟩) (qA (h4 k (by omega)) ?_))))))
       refine qD (by simp only;rw [hc];rfl) (qO hbb (qA (h5 k (by omega)) ?_))
       rw [qC]
       simp only [List.length_append,List.map_append]
       exact congrArg (fun x=>some (Sum.inr (op,kids.length+1,kids.map qAz++ [[PV.i IntKind.i64 Q.1]],x))) (qMu [41] hbb))]
def pos (s r:List UInt8):Int:=((s.length-r.length:Nat):Int)
def qC1 (s:List UInt8) (q:PS):ByteArray×Int×Bool×Nat×List (List PV):=(BR s,pos s q.1,q.2.1,q.2.2.length,q.2.2.map qW)
def qCf (s:List UInt8) (r:Int×PS):Int×ByteArray×Int×Bool×Nat×List (List PV):=(r.1,qC1 s r.2)
theorem qSW {s r:List UInt8} (h:r<:+s):s.drop (s.length-r.length)=r:=by
 obtain ⟨t,rfl⟩:=h
 simp
theorem qTR (s r:List UInt8):(pos s r).toNat=s.length-r.length:=by unfold pos;simp
theorem qLb (s r:List UInt8):0≤pos s r:=by unfold pos;omega
theorem qDW {s r:List UInt8} (h:r<:+s):r.length≤s.length:=h.length_le
theorem qKt {s r t:List UInt8} {k:Nat} (h:r<:+s) (e:t=r.drop k) (hk:k≤r.length):pos s r+(k:Int)=pos s t:=by
 subst e
 have:=qDW h
 unfold pos
 simp only [List.length_drop]
 omega
theorem qMv {s r:List UInt8} (h:r<:+s):(BR s).toList[(pos s r).toNat]?=r.head?:=by
 rw [qAS,qTR,←List.head?_drop,qSW h]
theorem qS0 {s r:List UInt8} (h:r<:+s):tb r<:+s:=(List.dropWhile_suffix _).trans h
theorem qQD {s t:List UInt8} {c:UInt8} (h:(c::t)<:+s):t<:+s:=(List.suffix_cons c t).trans h
theorem qPC {s r:List UInt8} {k:Nat} (h:r<:+s):(BR s).extract (pos s r).toNat (pos s r+(k:Int)).toNat=BR (r.take k):=by
 rw [qFS,qTR,show (pos s r+(k:Int)).toNat=(s.length-r.length)+k by unfold pos;omega,←List.take_drop,qSW h]
theorem qAv {b:Bool} (h:b=true):(!b)=false:=by rw [h];rfl
theorem qCu {b:Bool} (h:b=false):(!b)=true:=by rw [h];rfl
theorem qRH {s:List UInt8} (hs:s.length≤1000) (n:Nat) (b:Bool) (m:Nat) (rows:List (List PV)):∀(r:List UInt8) (M:Nat),r<:+s→r.length+1≤M→zD (qDl n) M (BR s,pos s r,b,m,rows)=some (BR s,pos s (tb r),b,m,rows)
 |r,0,_,h=>by omega
 | [],M+1,h,_=>by
  exact qP (qO (decide_eq_false (show ¬pos s []<((BR s).size:Int) by rw [qc];unfold pos;simp)) rfl)
 |c::t,M+1,h,hM=>by
  have hl:=qDW h
  simp only [List.length_cons] at hl hM
  have g:=qMv h
  have p1:pos s (c::t)<((BR s).size:Int):=by rw [qc];unfold pos;simp only [List.length_cons];omega
  by_cases hc:c=32
  ·subst hc
   have w1:IntKind.i64.wrap (pos s (32::t)+1)=pos s t:=by
    have:=qKt (k:=1) h (t:=t) rfl (by simp)
    rw [qV (by unfold pos;omega)];exact this
   rw [qU (v':=(BR s,pos s t,b,m,rows)) (by
    refine qD (decide_eq_true p1) (qD (decide_eq_true (qLb _ _)) (qA g (qD rfl ?_)))
    rw [qC,w1])]
   have e:tb (32::t)=tb t:=by simp [tb]
   rw [e]
   exact qRH hs n b m rows t M (qQD h) (by omega)
  ·have e:tb (c::t)=c::t:=by simp [tb,hc]
   rw [e]
   refine qP (qD (decide_eq_true p1) (qD (decide_eq_true (qLb _ _)) (qA g (qO ?_ rfl))))
   rw [beq_eq_false_iff_ne]
   intro e
   exact hc (UInt8.toNat_inj.1 (show c.toNat=32 by omega))
theorem qRr {s:List UInt8} (hs:s.length≤1000) (q:PS) (h:q.1<:+s):Ev (qBl · (BR s) (pos s q.1) q.2.1 q.2.2.length (q.2.2.map qW)) (qC1 s (tb q.1,q.2)):=by
 have hl:=qDW h
 refine ⟨q.1.length+2,fun n hn=>?_⟩
 obtain ⟨k,rfl,hm⟩:=up1 hn
 exact qA (qRH hs k q.2.1 q.2.2.length (q.2.2.map qW) q.1 k h (by omega)) rfl
theorem qHP {s:List UInt8} (hs:s.length≤1000) (w:List UInt8) (hw:w.length≤1000) (q:PS) (h:q.1<:+s):Ev (qAI · (BR w) (BR s) (pos s q.1) q.2.1 q.2.2.length (q.2.2.map qW)) ((sIs w q).1,qC1 s (sIs w q).2):=by
 obtain ⟨n1,h1⟩:=qRr hs q h
 have ht:=qS0 h
 have hl:=qDW ht
 refine ⟨n1+1,fun n hn=>?_⟩
 obtain ⟨k,rfl,hm⟩:=up1 hn
 have w1:IntKind.i64.wrap (pos s (tb q.1)+((BR w).size:Int))=pos s (tb q.1)+(w.length:Int):=by rw [qc];exact qV (by unfold pos;omega)
 unfold sIs
 cases hb:q.2.1 with
 |true=>
  rw [if_pos rfl]
  have h1:=h1 k (by omega)
  rw [hb] at h1
  refine qA h1 (qD hb ?_)
  rw [qC]
 |false=>
  have h1:=h1 k (by omega)
  rw [hb] at h1
  rw [if_neg (by simp)]
  by_cases hf:pos s (tb q.1)+(w.length:Int)>(s.length:Int)
  ·have hn:¬w.isPrefixOf (tb q.1)=true:=by
    intro e
    have:=(List.isPrefixOf_iff_prefix.1 e).length_le
    unfold pos at hf
    omega
   rw [if_neg hn]
   refine qA h1 (qO hb (qD (decide_eq_true (show IntKind.i64.wrap (pos s (tb q.1)+((BR w).size:Int))>((BR s).size:Int) by rw [w1,qc];exact hf)) ?_))
   rw [qC]
  ·have hx:=qPC (k:=w.length) ht
   have hwl:w.length≤(tb q.1).length:=by unfold pos at hf;omega
   have cmp:((BR s).extract (pos s (tb q.1)).toNat (IntKind.i64.wrap (pos s (tb q.1)+((BR w).size:Int))).toNat).toList==(BR w).toList↔w.isPrefixOf (tb q.1)=true:=by
    rw [w1,hx,qAS,qAS,beq_iff_eq,List.isPrefixOf_iff_prefix,List.prefix_iff_eq_take]
    exact ⟨fun e=>e.symm,fun e=>e.symm⟩
   refine qA h1 (qO hb (qO (decide_eq_false (show ¬IntKind.i64.wrap (pos s (tb q.1)+((BR w).size:Int))>((BR s).size:Int) by rw [w1,qc];exact hf)) (qD (decide_eq_true (show 0≤pos s (tb q.1)∧pos s (tb q.1)≤IntKind.i64.wrap (pos s (tb q.1)+((BR w).size:Int))∧IntKind.i64.wrap (pos s (tb q.1)+((BR w).size:Int))≤((BR s).size:Int) by rw [w1,qc];exact ⟨qLb _ _,by omega,by omega⟩)) ?_)))
   by_cases hp:w.isPrefixOf (tb q.1)=true
   ·rw [if_pos hp]
    refine qO (qAv (cmp.2 hp)) ?_
    rw [qC]
    show some (true,BR s,IntKind.i64.wrap (pos s (tb q.1)+((BR w).size:Int)),q.2.1,q.2.2.length,q.2.2.map qW)=_
    rw [w1,qKt ht rfl hwl]
    rfl
   ·rw [if_neg hp]
    refine qD (qCu (by rw [Bool.eq_false_iff];exact fun e=>hp (cmp.1 e))) ?_
    rw [qC]
theorem qKh {s:List UInt8} (x:Nd) (q:PS) (h:q.2.2.length≤5000) (hx:qO2 x):Ev (qr · x.1 x.2.1 x.2.2.1 x.2.2.2.1 x.2.2.2.2.1 x.2.2.2.2.2.1 x.2.2.2.2.2.2.1 x.2.2.2.2.2.2.2.1 x.2.2.2.2.2.2.2.2.1 x.2.2.2.2.2.2.2.2.2.1 x.2.2.2.2.2.2.2.2.2.2.1 x.2.2.2.2.2.2.2.2.2.2.2.1 x.2.2.2.2.2.2.2.2.2.2.2.2.1 ((kd x).map qAz) (BR s) (pos s q.1) q.2.1 q.2.2.length (q.2.2.map qW)) (qCf s (qEK x q)):=by
 obtain ⟨n1,h1⟩:=qIf x (by have:=hx.2;omega)
 refine ⟨n1+1,fun n hn=>?_⟩
 obtain ⟨k,rfl,hm⟩:=up1 hn
 have w2:IntKind.i64.wrap ((((q.2.2.length+1):Nat):Int)-1)=(q.2.2.length:Int):=by rw [qV (by omega)];omega
 refine qD rfl (qD (decide_eq_true ⟨by simp,by decide,by decide,by simp;omega,rfl⟩) ?_)
 unfold qEK
 by_cases h6:60<q.2.2.length+1
 ·rw [if_pos (.inl h6)]
  refine qD (decide_eq_true (by omega)) ?_
  rw [qC,w2]
  simp only [qCf,qC1,List.map_append,List.length_append]
  rfl
 ·refine qO (decide_eq_false (by omega)) (qA (h1 k (by omega)) ?_)
  cases ho:qFH x with
  |true=>
   rw [if_neg (fun e=>e.elim h6 (by simp))]
   refine qO rfl ?_
   rw [qC,w2]
   simp only [qCf,qC1,List.map_append,List.length_append]
   rfl
  |false=>
   rw [if_pos (.inr rfl)]
   refine qD rfl ?_
   rw [qC,w2]
   simp only [qCf,qC1,List.map_append,List.length_append]
   rfl
theorem qOA {s:List UInt8} (hs:s.length≤1000) (n:Nat) (at0:Int) (b:Bool) (m:Nat) (rows:List (List PV)):∀(r:List UInt8) (M:Nat),r<:+s→r.length+1≤M→zD (qCE n) M (at0,BR s,pos s r,b,m,rows)=some (at0,BR s,pos s (wr r),b,m,rows)
 |r,0,_,h=>by omega
 | [],M+1,h,_=>by
  exact qP (qO (decide_eq_false (show ¬pos s []<((BR s).size:Int) by rw [qc];unfold pos;simp)) rfl)
 |c::t,M+1,h,hM=>by
  have hl:=qDW h
  simp only [List.length_cons] at hl hM
  have g:=qMv h
  have p1:pos s (c::t)<((BR s).size:Int):=by rw [qc];unfold pos;simp only [List.length_cons];omega
  have p0:decide (0≤pos s (c::t))=true:=decide_eq_true (qLb _ _)
  have w1:IntKind.i64.wrap (pos s (c::t)+1)=pos s t:=by
   have:=qKt (k:=1) h (t:=t) rfl (by simp)
   rw [qV (by unfold pos;omega)];exact this
  have yes:(wch c=true)→(qCE n (at0,BR s,pos s (c::t),b,m,rows)).run=some (.inl (at0,BR s,pos s t,b,m,rows)):=fun hc=>by
   have fin:some (Sum.inl (at0,BR s,IntKind.i64.wrap (pos s (c::t)+1),b,m,rows))=(some (Sum.inl (at0,BR s,pos s t,b,m,rows)):Option (_⊕(Int×ByteArray×Int×Bool×Nat×List (List PV)))):=by rw [w1]
   refine qD (decide_eq_true p1) (qD p0 (qA g ?_))
   by_cases a1:(c.toNat:Int)≥65
   ·refine qD (decide_eq_true a1) (qD p0 (qA g ?_))
    by_cases a2:(c.toNat:Int)≤90
    ·exact qD (decide_eq_true a2) fin
    ·refine qO (decide_eq_false a2) (qD p0 (qA g ?_))
     by_cases a3:(c.toNat:Int)≥48
     ·refine qD (decide_eq_true a3) (qD p0 (qA g ?_))
      by_cases a4:(c.toNat:Int)≤57
      ·exact qD (decide_eq_true a4) fin
      ·refine qO (decide_eq_false a4) (qD p0 (qA g ?_))
       have a5:c=36:=by
        unfold wch at hc
        simp only [Bool.or_eq_true,Bool.and_eq_true,decide_eq_true_eq,beq_iff_eq] at hc
        rcases hc with hc|hc|hc
        ·omega
        ·omega
        ·exact hc
       exact qD (by rw [a5];rfl) fin
     ·omega
   ·refine qO (decide_eq_false a1) (qD p0 (qA g ?_))
    by_cases a3:(c.toNat:Int)≥48
    ·refine qD (decide_eq_true a3) (qD p0 (qA g ?_))
     by_cases a4:(c.toNat:Int)≤57
     ·exact qD (decide_eq_true a4) fin
     ·refine qO (decide_eq_false a4) (qD p0 (qA g ?_))
      have a5:c=36:=by
       unfold wch at hc
       simp only [Bool.or_eq_true,Bool.and_eq_true,decide_eq_true_eq,beq_iff_eq] at hc
       rcases hc with hc|hc|hc
       ·omega
       ·omega
       ·exact hc
      exact qD (by rw [a5];rfl) fin
    ·refine qO (decide_eq_false a3) (qD p0 (qA g ?_))
     have a5:c=36:=by
      unfold wch at hc
      simp only [Bool.or_eq_true,Bool.and_eq_true,decide_eq_true_eq,beq_iff_eq] at hc
      rcases hc with hc|hc|hc
      ·omega
      ·omega
      ·exact hc
     exact qD (by rw [a5];rfl) fin
  have no:(wch c=false)→(qCE n (at0,BR s,pos s (c::t),b,m,rows)).run=some (.inr (at0,BR s,pos s (c::t),b,m,rows)):=fun hc=>by
   have hc':¬((65≤c.toNat∧c.toNat≤90)∨(48≤c.toNat∧c.toNat≤57)∨c=36):=fun e=>by
    have:wch c=true:=by
     unfold wch
     simp only [Bool.or_eq_true,Bool.and_eq_true,decide_eq_true_eq,beq_iff_eq]
     exact e
    rw [hc] at this;cases this
   have a5:((c.toNat:Int)==36)=false:=by
    rw [beq_eq_false_iff_ne];intro e
    exact hc' (.inr (.inr (UInt8.toNat_inj.1 (show c.toNat=36 by omega))))
   refine qD (decide_eq_true p1) (qD p0 (qA g ?_))
   by_cases a1:(c.toNat:Int)≥65
   ·have a2:¬(c.toNat:Int)≤90:=fun e=>hc' (.inl ⟨by omega,by omega⟩)
    refine qD (decide_eq_true a1) (qD p0 (qA g (qO (decide_eq_false a2) ?_)))
    refine qD p0 (qA g (qD (decide_eq_true (show (c.toNat:Int)≥48 by omega)) ?_))
    exact qD p0 (qA g (qO (decide_eq_false (show ¬(c.toNat:Int)≤57 by omega)) (qD p0 (qA g (qO a5 rfl)))))
   ·refine qO (decide_eq_false a1) (qD p0 (qA g ?_))
    by_cases a3:(c.toNat:Int)≥48
    ·have a4:¬(c.toNat:Int)≤57:=fun e=>hc' (.inr (.inl ⟨by omega,by omega⟩))
     exact qD (decide_eq_true a3) (qD p0 (qA g (qO (decide_eq_false a4) (qD p0 (qA g (qO a5 rfl))))))
    ·exact qO (decide_eq_false a3) (qD p0 (qA g (qO a5 rfl)))
  cases hc:wch c with
  |true=>
   rw [qU (yes hc),show wr (c::t)=wr t by simp [wr,hc]]
   exact qOA hs n at0 b m rows t M (qQD h) (by omega)
  |false=>
   rw [qP (no hc),show wr (c::t)=c::t by simp [wr,hc]]
theorem qQE {s:List UInt8} (hs:s.length≤1000) (q:PS) (h:q.1<:+s):Ev (qDA · (BR s) (pos s q.1) q.2.1 q.2.2.length (q.2.2.map qW)) (BR (wd q.1),qC1 s (wr q.1,q.2)):=by
 have hl:=qDW h
 have hw:=qHM q.1
 have hd:=congrArg List.length (wdr q.1)
 simp only [List.length_append] at hd
 refine ⟨q.1.length+2,fun n hn=>?_⟩
 obtain ⟨k,rfl,hm⟩:=up1 hn
 refine qA (qOA hs k (pos s q.1) q.2.1 q.2.2.length (q.2.2.map qW) q.1 k h (by omega)) (qD (decide_eq_true ⟨qLb _ _,by unfold pos;simp only;omega,by rw [qc];unfold pos;simp only;omega⟩) ?_)
 rw [qC]
 have e:(pos s (wr q.1))=pos s q.1+((wd q.1).length:Int):=by unfold pos;omega
 have x:=qPC (k:=(wd q.1).length) h
 rw [←e] at x
 have t:q.1.take (wd q.1).length=wd q.1:=by
  have:=List.take_left (l₁:=wd q.1) (l₂:=wr q.1)
  rwa [wdr] at this
 rw [t] at x
 show some ((BR s).extract (pos s q.1).toNat (pos s (wr q.1)).toNat,_)=_
 rw [x]
 rfl
theorem qHo {s:List UInt8} (hs:s.length≤1000) {n:Nat} (b:Bool) (l:List Nd) (res:Int×PS):∀(k:Nat) (r acc:List UInt8) (M:Nat),r.length≤k→r<:+s→acc.length+r.length≤1001→r.length+1≤M→
  (∀w t,qCK acc r=some (w,t)→qr n 1 0 2 0 (BR w) 0 0 false false 0 0 false false [] (BR s) (pos s t) b l.length (l.map qW)=some (qCf s res))→
  zD (qD7 n) M (BR acc,BR s,pos s r,b,l.length,l.map qW)=some (match qCK acc r with
   |none=> .inr (BR s,pos s [],b,l.length,l.map qW)
   |some _=> .inl (qCf s res))
 |k,r,acc,0,_,_,_,h,_=>by omega
 |k,[],acc,M+1,_,h,_,_,_=>by
  exact qP (qO (decide_eq_false (show ¬pos s []<((BR s).size:Int) by rw [qc];unfold pos;simp)) rfl)
 |0,c::t,acc,M+1,hk,_,_,_,_=>by simp at hk
 |k+1,c::t,acc,M+1,hk,h,ha,hM,hr=>by
  have hl:=qDW h
  simp only [List.length_cons] at hl hM hk ha
  have g:=qMv h
  have p1:pos s (c::t)<((BR s).size:Int):=by rw [qc];unfold pos;simp only [List.length_cons];omega
  have p0:decide (0≤pos s (c::t))=true:=decide_eq_true (qLb _ _)
  have pa:=qKt (k:=1) h (t:=t) rfl (by simp)
  have w1:IntKind.i64.wrap (pos s (c::t)+1)=pos s t:=by rw [qV (by unfold pos;omega)];exact pa
  by_cases hc:c=34
  ·subst hc
   have ht:=qQD h
   by_cases hq:t.head?=some 34
   ·obtain ⟨u,rfl⟩:=qKs hq
    simp only [List.length_cons] at hl hM hk ha
    rw [qVA] at hr⊢
    have g2:=qMv ht
    have pb:=qKt (k:=1) ht (t:=u) rfl (by simp)
    have w2:IntKind.i64.wrap (pos s (34::u)+1)=pos s u:=by rw [qV (by unfold pos;omega)];exact pb
    rw [qU (v':=(BR (acc++ [34]),BR s,pos s u,b,l.length,l.map qW)) (by
     refine qD (decide_eq_true p1) (qD p0 (qA g (qO rfl (qO (decide_eq_false (show ¬IntKind.i64.wrap (pos s (34::34::u)+1)≥((BR s).size:Int) by rw [w1,qc];unfold pos;simp only [List.length_cons];omega)) (qD (decide_eq_true (show 0≤IntKind.i64.wrap (pos s (34::34::u)+1) by rw [w1];exact qLb _ _)) (qA (x:=34) (by show (BR s).toList[(IntKind.i64.wrap (pos s (34::34::u)+1)).toNat]?=_;rw [w1];exact g2) (qO rfl (qD (decide_eq_true (show (BR acc).size+1≤9223372036854775807 by rw [qc];omega)) ?_))))))))
     rw [qC]
     show some (Sum.inl (BR acc++BR [34],BR s,IntKind.i64.wrap (IntKind.i64.wrap (pos s (34::34::u)+1)+1),b,l.length,l.map qW))=_
     rw [w1,w2,qNq])]
    exact qHo hs b l res k u _ M (by omega) (qQD ht) (by simp;omega) (by omega) hr
   ·rw [qVB acc t hq] at hr⊢
    have hr:=hr acc t rfl
    refine qP (qD (decide_eq_true p1) (qD p0 (qA g (qO rfl ?_))))
    cases t with
    |nil=>
     refine qD (decide_eq_true (show IntKind.i64.wrap (pos s [34]+1)≥((BR s).size:Int) by rw [w1,qc];unfold pos;simp)) ?_
     rw [←w1] at hr
     exact qA hr rfl
    |cons d u=>
     have g2:=qMv ht
     have hd:¬d=34:=fun e=>hq (by rw [e];rfl)
     refine qO (decide_eq_false (show ¬IntKind.i64.wrap (pos s (34::d::u)+1)≥((BR s).size:Int) by rw [w1,qc];unfold pos;simp only [List.length_cons] at hl⊢;omega)) (qD (decide_eq_true (show 0≤IntKind.i64.wrap (pos s (34::d::u)+1) by rw [w1];exact qLb _ _)) (qA (x:=d) (by show (BR s).toList[(IntKind.i64.wrap (pos s (34::d::u)+1)).toNat]?=_;rw [w1];exact g2) (qD ?_ ?_)))
     ·rw [bne_iff_ne]
      intro e
      exact hd (UInt8.toNat_inj.1 (show d.toNat=34 by omega))
     ·rw [←w1] at hr
      exact qA hr rfl
  ·rw [qVC acc t hc] at hr⊢
   have hx:=qPC (k:=1) h
   rw [show ((1:Nat):Int)=1 from rfl] at hx pa
   have hx:(BR s).extract (pos s (c::t)).toNat (IntKind.i64.wrap (pos s (c::t)+1)).toNat=BR [c]:=by
    rw [w1,←pa];exact hx
   rw [qU (v':=(BR (acc++ [c]),BR s,pos s t,b,l.length,l.map qW)) (by
    refine qD (decide_eq_true p1) (qD p0 (qA g (qD ?_ (qD (decide_eq_true (show 0≤pos s (c::t)∧pos s (c::t)≤IntKind.i64.wrap (pos s (c::t)+1)∧IntKind.i64.wrap (pos s (c::t)+1)≤((BR s).size:Int) by rw [w1,qc];exact ⟨qLb _ _,by unfold pos;simp only [List.length_cons];omega,by unfold pos;omega⟩)) (qD (decide_eq_true (show (BR acc).size+((BR s).extract (pos s (c::t)).toNat (IntKind.i64.wrap (pos s (c::t)+1)).toNat).size≤9223372036854775807 by rw [hx,qc,qc];simp;omega)) ?_)))))
    ·rw [bne_iff_ne]
     intro e
     exact hc (UInt8.toNat_inj.1 (show c.toNat=34 by omega))
    ·rw [qC]
     show some (Sum.inl (BR acc++(BR s).extract (pos s (c::t)).toNat (IntKind.i64.wrap (pos s (c::t)+1)).toNat,BR s,IntKind.i64.wrap (pos s (c::t)+1),b,l.length,l.map qW))=_
     rw [hx,qNq,w1])]
   exact qHo hs b l res k t _ M (by omega) (qQD h) (by simp;omega) (by omega) hr
theorem qUH {s:List UInt8} (hs:s.length≤1000) (q:PS) (h:q.1<:+s) (hn:q.2.2.length≤5000):Ev (qFK · (BR s) (pos s q.1) q.2.1 q.2.2.length (q.2.2.map qW)) (qCf s (match qCK [] q.1 with
  |none=>(0,[],true,q.2.2)
  |some (w,t)=>qEK (nd1 (2,0,BR w)) (t,q.2))):=by
 have hl:=qDW h
 cases hq:qCK [] q.1 with
 |none=>
  refine ⟨q.1.length+2,fun n hn=>?_⟩
  obtain ⟨k,rfl,hm⟩:=up1 hn
  have lp:=qHo hs (n:=k) q.2.1 q.2.2 (0,q) q.1.length q.1 [] k (Nat.le_refl _) h (by simp;omega) (by omega) (fun w t e=>by rw [hq] at e;cases e)
  rw [hq] at lp
  exact qA lp rfl
 |some wt=>
  obtain ⟨w,t⟩:=wt
  have hw:=qHO _ _ _ (Nat.le_refl _) hq
  simp only [List.length_nil] at hw
  obtain ⟨n1,h1⟩:=qKh (s:=s) (nd1 (2,0,BR w)) (t,q.2) hn ⟨by simp [kd,nd1],by simp only [nd1,qc];omega⟩
  refine ⟨n1+q.1.length+2,fun n hn=>?_⟩
  obtain ⟨k,rfl,hm⟩:=up1 hn
  have lp:=qHo hs (n:=k) q.2.1 q.2.2 (qEK (nd1 (2,0,BR w)) (t,q.2)) q.1.length q.1 [] k (Nat.le_refl _) h (by simp;omega) (by omega) (fun w' t' e=>by rw [hq] at e;cases e;exact h1 k (by omega))
  rw [hq] at lp
  exact qA lp rfl
theorem qRs:∀o∈qCN,(qAR o).toList≠ []∧(qAR o).size≤2:=by decide+kernel
theorem qUI:∀o∈qCN,1≤o∧o≤11:=by decide
def opR:List (List PV):=qCN.map qAz
def rsL (level:Int) (r:List UInt8):List Int→List UInt8
 | []=>r
 |o::l=>if lvl o=level then rsL level (tb r) l else rsL level r l
theorem qNt {s:List UInt8} (hs:s.length≤1000) {n:Nat} (level:Int) (R:List UInt8) (hR:tb R=R) (m:Nat) (rows:List (List PV))
  (h1:∀o∈qCN,qCT n o=some (lvl o)) (h2:∀o∈qCN,qCv n o=some (qAR o)):
  ∀(k i:Nat) (r:List UInt8) (M:Nat),i+k=11→k+1≤M→tb r=R→
  (∀r',tb r'=R→(r'=r∨r'=R)→∀o∈qCN,qAI n (qAR o) (BR s) (pos s r') false m rows=some (if (qAR o).toList.isPrefixOf R=true then (true,BR s,pos s (R.drop (qAR o).size),false,m,rows) else (false,BR s,pos s R,false,m,rows)))→
  zD (qEo n) M (level,11,(i:Int),opR,BR s,pos s r,false,m,rows)=some (if qD3 level R (qCN.drop i)=0 then .inr (BR s,pos s (rsL level r (qCN.drop i)),false,m,rows) else .inl (qD3 level R (qCN.drop i),BR s,pos s (R.drop (qAR (qD3 level R (qCN.drop i))).size),false,m,rows))
 |k,i,r,0,_,h,_,_=>by omega
 |0,i,r,M+1,hk,_,_,_=>by
  have hi:i=11:=by omega
  subst hi
  exact qP (qO rfl rfl)
 |k+1,i,r,M+1,hk,hM,hr,h3=>by
  have hi:i<qCN.length:=by simp [qCN];omega
  obtain ⟨o,ho⟩:∃o,qCN[i]?=some o:=⟨_,List.getElem?_eq_getElem hi⟩
  have hin:=List.mem_of_getElem? ho
  have hR2:opR[i]?=some [PV.i .i64 o]:=by simp [opR,List.getElem?_map,ho,qAz]
  have hc:zC .i64 [PV.i .i64 o] 0=some o:=rfl
  have hd:qCN.drop i=o::qCN.drop (i+1):=qDd ho
  have w5:IntKind.i64.wrap ((i:Int)+1)=((i+1:Nat):Int):=by rw [qV (by omega)];omega
  have g1:decide ((i:Int)<((11:Nat):Int))=true:=decide_eq_true (by omega)
  have g2:decide (11=opR.length∧0≤(i:Int)∧(i:Int)<((11:Nat):Int))=true:=decide_eq_true ⟨rfl,by omega,by omega⟩
  have h0:o≠0:=by have:=qUI o hin;omega
  rw [hd]
  by_cases hl:lvl o=level
  ·have is:=h3 r hr (.inl rfl) o hin
   by_cases hp:(qAR o).toList.isPrefixOf R=true
   ·have e:qD3 level R (o::qCN.drop (i+1))=o:=by unfold qD3;rw [if_pos ⟨hl,hp⟩]
    rw [e,if_neg h0]
    rw [if_pos hp] at is
    exact qP (qD g1 (qD g2 (qA hR2 (qA hc (qA (h1 o hin) (qD (beq_iff_eq.2 hl) (qD g2 (qA hR2 (qA hc (qA (h2 o hin) (qA is (qD rfl (qD g2 (qA hR2 (qA hc rfl)))))))))))))))
   ·have e:qD3 level R (o::qCN.drop (i+1))=qD3 level R (qCN.drop (i+1)):=by
     conv=>lhs;unfold qD3
     rw [if_neg (fun h=>hp h.2)]
    have e2:rsL level r (o::qCN.drop (i+1))=rsL level R (qCN.drop (i+1)):=by
     conv=>lhs;unfold rsL
     rw [if_pos hl,hr]
    rw [e,e2]
    rw [if_neg hp] at is
    rw [qU (v':=(level,11,((i+1:Nat):Int),opR,BR s,pos s R,false,m,rows)) (by
     refine qD g1 (qD g2 (qA hR2 (qA hc (qA (h1 o hin) (qD (beq_iff_eq.2 hl) (qD g2 (qA hR2 (qA hc (qA (h2 o hin) (qA is (qO rfl ?_)))))))))))
     rw [qC,w5])]
    exact qNt hs level R hR m rows h1 h2 k (i+1) R M (by omega) (by omega) hR (fun r' a b=>h3 r' a (.inr (b.elim id id)))
  ·have e:qD3 level R (o::qCN.drop (i+1))=qD3 level R (qCN.drop (i+1)):=by
    conv=>lhs;unfold qD3
    rw [if_neg (fun h=>hl h.1)]
   have e2:rsL level r (o::qCN.drop (i+1))=rsL level r (qCN.drop (i+1)):=by
    conv=>lhs;unfold rsL
    rw [if_neg hl]
   rw [e,e2]
   rw [qU (v':=(level,11,((i+1:Nat):Int),opR,BR s,pos s r,false,m,rows)) (by
    refine qD g1 (qD g2 (qA hR2 (qA hc (qA (h1 o hin) (qO (beq_eq_false_iff_ne.2 hl) ?_)))))
    rw [qC,w5])]
   exact qNt hs level R hR m rows h1 h2 k (i+1) r M (by omega) (by omega) hr h3
theorem qVI {level:Int} (h:1≤level∧level≤4) (r:List UInt8):rsL level r qCN=tb r:=by
 have c:level=1∨level=2∨level=3∨level=4:=by omega
 rcases c with rfl|rfl|rfl|rfl<;>simp [rsL,qCN,lvl,qCe]
theorem qVJ {s:List UInt8} (hs:s.length≤1000) {level:Int} (hl:1≤level∧level≤4) (q:PS) (hb:q.2.1=false) (h:q.1<:+s):Ev (qEp · level (BR s) (pos s q.1) q.2.1 q.2.2.length (q.2.2.map qW)) (qCf s (sOp level q)):=by
 obtain ⟨n1,h1⟩:=qBL (F:=fun o n=>qCT n o) (f:=lvl) qCN (fun o _=>qJb o)
 obtain ⟨n2,h2⟩:=qBL (F:=fun o n=>qCv n o) (f:=qAR) qCN (fun o ho=>qKb o (qUI o ho))
 obtain ⟨n3,h3⟩:=qBL (F:=fun o n=>qAI n (qAR o) (BR s) (pos s q.1) q.2.1 q.2.2.length (q.2.2.map qW)) (f:=fun o=>((sIs (qAR o).toList q).1,qC1 s (sIs (qAR o).toList q).2)) qCN (fun o ho=>by
  have:=qHP hs (qAR o).toList (by rw [qAT];have:=(qRs o ho).2;omega) q h
  rwa [qIj] at this)
 obtain ⟨n4,h4⟩:=qBL (F:=fun o n=>qAI n (qAR o) (BR s) (pos s (tb q.1)) q.2.1 q.2.2.length (q.2.2.map qW)) (f:=fun o=>((sIs (qAR o).toList (tb q.1,q.2)).1,qC1 s (sIs (qAR o).toList (tb q.1,q.2)).2)) qCN (fun o ho=>by
  have:=qHP hs (qAR o).toList (by rw [qAT];have:=(qRs o ho).2;omega) (tb q.1,q.2) (qS0 h)
  rwa [qIj] at this)
 refine ⟨n1+n2+n3+n4+13,fun n hn=>?_⟩
 obtain ⟨k,rfl,hm⟩:=up1 hn
 have lp:=qNt hs (n:=k) level (tb q.1) (qCe q.1) q.2.2.length (q.2.2.map qW) (h1 k (by omega)) (h2 k (by omega)) 11 0 q.1 k (by omega) (by omega) rfl (fun r' _ hr' o ho=>by
  rcases hr' with rfl|rfl
  ·have:=h3 k (by omega) o ho
   rw [hb] at this
   refine this.trans ?_
   unfold sIs
   rw [if_neg (by rw [hb];simp)]
   by_cases hp:(qAR o).toList.isPrefixOf (tb q.1)=true
   ·rw [if_pos hp,if_pos hp,qAT];simp only [qC1,hb]
   ·rw [if_neg hp,if_neg hp];simp only [qC1,hb]
  ·have:=h4 k (by omega) o ho
   rw [hb] at this
   refine this.trans ?_
   unfold sIs
   rw [if_neg (by rw [hb];simp)]
   simp only [qCe]
   by_cases hp:(qAR o).toList.isPrefixOf (tb q.1)=true
   ·rw [if_pos hp,if_pos hp,qAT];simp only [qC1,hb]
   ·rw [if_neg hp,if_neg hp];simp only [qC1,hb])
 rw [List.drop_zero,qVI hl] at lp
 unfold sOp
 rw [if_neg (by rw [hb];simp)]
 show qEp (k+1) level (BR s) (pos s q.1) q.2.1 q.2.2.length (q.2.2.map qW)=_
 rw [hb]
 by_cases h0:qD3 level (tb q.1) qCN=0
 ·rw [if_pos h0] at lp
  rw [if_pos h0]
  refine qA lp ?_
  simp only [qCf,qC1,hb,h0]
  rfl
 ·rw [if_neg h0] at lp
  rw [if_neg h0]
  refine qA lp ?_
  simp only [qCf,qC1,hb]
  rfl
theorem qQF {s:List UInt8} (hs:s.length≤1000) {n:Nat} (r:List UInt8) (hr:r<:+s) (b:Bool) (l:List Nd)
  (h1:∀i,1≤i∧i≤5→qBW n i=some (qf i)) (h2:∀i,1≤i∧i≤5→qC9 n i=some (4,i,em))
  (h4:∀i,1≤i∧i≤5→qr n 1 0 4 i em 0 0 false false 0 0 false false [] (BR s) (pos s (r.drop ((qf i).size-1))) b l.length (l.map qW)=some (qCf s (qEK (nd1 (4,i,em)) (r.drop ((qf i).size-1),b,l)))):
  ∀(k:Nat) (i:Int) (M:Nat),1≤i→i+k=6→k+1≤M→zD (qCl n) M (i,BR s,pos s r,b,l.length,l.map qW)=some (match qSL r i k with
   |some e=> .inl (qCf s (qEK (nd1 (4,e,em)) (r.drop ((qf e).size-1),b,l)))
   |none=> .inr (BR s,pos s r,b,l.length,l.map qW))
 |k,i,0,_,_,h=>by omega
 |0,i,M+1,hi,hk,h=>by
  exact qP (qO (decide_eq_false (show ¬i≤5 by omega)) rfl)
 |k+1,i,M+1,hi,hk,h=>by
  have hi5:1≤i∧i≤5:=⟨hi,by omega⟩
  have hsz:1≤(qf i).size∧(qf i).size≤7:=by
   have c:i=1∨i=2∨i=3∨i=4∨i=5:=by omega
   rcases c with rfl|rfl|rfl|rfl|rfl<;>decide+kernel
  have hx:(qf i).extract ((1:Int)).toNat (((qf i).size:Nat):Int).toNat=BR (qf i).toList.tail:=by
   conv=>lhs;rw [←qIj (qf i)]
   rw [qFS,qc,qAT]
   congr 1
   rw [Int.toNat_natCast,List.take_of_length_le (by rw [qAT];omega)]
   exact List.drop_one
  have hxs:((qf i).extract ((1:Int)).toNat (((qf i).size:Nat):Int).toNat).size=(qf i).size-1:=by
   rw [hx,qc,List.length_tail,qAT]
  have hl:=qDW hr
  have w1:IntKind.i64.wrap (pos s r+(((qf i).extract ((1:Int)).toNat (((qf i).size:Nat):Int).toNat).size:Int))=pos s r+(((qf i).size-1:Nat):Int):=by
   rw [hxs];exact qV (by unfold pos;omega)
  have w2:IntKind.i64.wrap (i+1)=i+1:=qV (by omega)
  have ih:=qQF hs r hr b l h1 h2 h4 k (i+1) M (by omega) (by omega) (by omega)
  unfold qSL
  by_cases hf:pos s r+(((qf i).size-1:Nat):Int)≤(s.length:Int)
  ·have hk2:(qf i).size-1≤r.length:=by unfold pos at hf;omega
   have cmp:(((BR s).extract (pos s r).toNat (IntKind.i64.wrap (pos s r+(((qf i).extract ((1:Int)).toNat (((qf i).size:Nat):Int).toNat).size:Int))).toNat).toList==((qf i).extract ((1:Int)).toNat (((qf i).size:Nat):Int).toNat).toList)=true↔(qf i).toList.tail.isPrefixOf r=true:=by
    rw [w1,qPC hr,hx,qAS,qAS,beq_iff_eq,List.isPrefixOf_iff_prefix,List.prefix_iff_eq_take,List.length_tail,qAT]
    exact ⟨fun e=>e.symm,fun e=>e.symm⟩
   have g1:decide (IntKind.i64.wrap (pos s r+(((qf i).extract ((1:Int)).toNat (((qf i).size:Nat):Int).toNat).size:Int))≤((BR s).size:Int))=true:=decide_eq_true (by rw [w1,qc];exact hf)
   have g2:decide (0≤pos s r∧pos s r≤IntKind.i64.wrap (pos s r+(((qf i).extract ((1:Int)).toNat (((qf i).size:Nat):Int).toNat).size:Int))∧IntKind.i64.wrap (pos s r+(((qf i).extract ((1:Int)).toNat (((qf i).size:Nat):Int).toNat).size:Int))≤((BR s).size:Int))=true:=decide_eq_true (by rw [w1,qc];exact ⟨qLb _ _,by omega,hf⟩)
   by_cases hp:(qf i).toList.tail.isPrefixOf r=true
   ·rw [if_pos hp]
    have h4:=h4 i hi5
    rw [←qKt hr rfl hk2,←w1] at h4
    exact qP (qD (decide_eq_true (show i≤5 by omega)) (qA (h1 i hi5) (qD (decide_eq_true ⟨by decide,by omega,Int.le_refl _⟩) (qD g1 (qD g2 (qD (cmp.2 hp) (qA (h2 i hi5) (qA h4 rfl))))))))
   ·rw [if_neg hp]
    rw [qU (v':=(i+1,BR s,pos s r,b,l.length,l.map qW)) (by
     refine qD (decide_eq_true (show i≤5 by omega)) (qA (h1 i hi5) (qD (decide_eq_true ⟨by decide,by omega,Int.le_refl _⟩) (qD g1 (qD g2 (qO (by rw [Bool.eq_false_iff];exact fun e=>hp (cmp.1 e)) ?_)))))
     rw [qC,w2])]
    exact ih
  ·have hp:¬(qf i).toList.tail.isPrefixOf r=true:=by
    intro e
    have:=(List.isPrefixOf_iff_prefix.1 e).length_le
    rw [List.length_tail,qAT] at this
    unfold pos at hf
    omega
   rw [if_neg hp]
   rw [qU (v':=(i+1,BR s,pos s r,b,l.length,l.map qW)) (by
    refine qD (decide_eq_true (show i≤5 by omega)) (qA (h1 i hi5) (qD (decide_eq_true ⟨by decide,by omega,Int.le_refl _⟩) (qO (decide_eq_false (by rw [w1,qc];exact hf)) ?_)))
    rw [qC,w2])]
   exact ih
theorem qUt {s:List UInt8} (hs:s.length≤1000) (r:List UInt8) (hr:r<:+s) (b:Bool) (l:List Nd) (hl:l.length≤5000):∃n0,∀n,n0≤n→∀M,n0≤M→zD (qCl n) M (1,BR s,pos s r,b,l.length,l.map qW)=some (match qSL r 1 5 with
   |some e=> .inl (qCf s (qEK (nd1 (4,e,em)) (r.drop ((qf e).size-1),b,l)))
   |none=> .inr (BR s,pos s r,b,l.length,l.map qW)):=by
 obtain ⟨n1,h1⟩:=qGU (F:=qBW) (f:=qf) (lo:=1) (by decide) (fun i hi=>qHI i ⟨by omega,hi.2⟩)
 obtain ⟨n2,h2⟩:=qGU (F:=qC9) (f:=fun i=>(4,i,em)) (lo:=1) (by decide) (fun i _=>qOy i)
 obtain ⟨n4,h4⟩:=qGU (F:=fun n i=>qr n 1 0 4 i em 0 0 false false 0 0 false false [] (BR s) (pos s (r.drop ((qf i).size-1))) b l.length (l.map qW)) (f:=fun i=>qCf s (qEK (nd1 (4,i,em)) (r.drop ((qf i).size-1),b,l))) (lo:=1) (by decide) (fun i _=>qKh (s:=s) (nd1 (4,i,em)) (r.drop ((qf i).size-1),b,l) hl ⟨by simp [kd,nd1],by simp [nd1,em];decide⟩)
 exact ⟨n1+n2+n4+7,fun n hn M hM=>qQF hs r hr b l (h1 n (by omega)) (h2 n (by omega)) (h4 n (by omega)) 5 1 M (by omega) (by omega) (by omega)⟩
theorem qUu:∃n0,∀n,n0≤n→∀i,1≤i∧i≤10→qCj n i=some (fnS i):=by
 obtain ⟨n1,h1⟩:=qBL (F:=fun (i:Nat) n=>qCj n ((i:Int)+1)) (f:=fun i=>fnS ((i:Int)+1)) (List.range 10) (fun i hi=>qMn _ (by have:=List.mem_range.1 hi;omega))
 refine ⟨n1,fun n hn i hi=>?_⟩
 have:=h1 n hn (i-1).toNat (List.mem_range.2 (by omega))
 rwa [show (((i-1).toNat:Nat):Int)+1=i by omega] at this
theorem qVK {i j:Int} (hi:1≤i∧i≤10) (hj:1≤j∧j≤10) (h:(fnS i).toList=(fnS j).toList):i=j:=by
 have t:∀a:Fin 10,∀b:Fin 10,(fnS (((a.val:Nat):Int)+1)).toList=(fnS (((b.val:Nat):Int)+1)).toList→a=b:=by decide+kernel
 have:=t ⟨(i-1).toNat,by omega⟩ ⟨(j-1).toNat,by omega⟩ (by
  simp only
  rw [show (((i-1).toNat:Nat):Int)+1=i by omega,show (((j-1).toNat:Nat):Int)+1=j by omega]
  exact h)
 have:=congrArg Fin.val this
 simp only at this
 omega
theorem qRI {g:G_spec_l3Rd_row} {n:Nat} {s:List UInt8} (w:List UInt8) (q:PS) (h1:∀i,1≤i∧i≤10→qCj n i=some (fnS i)):
  ∀(k:Nat) (i:Int) (M:Nat),1≤i→i+k=11→k+1≤M→(∀j,i≤j∧j≤10→(fnS j).toList≠w)→zD (qDK g n) M (BR w,i,qC1 s q)=some (.inr (BR w,qC1 s q))
 |k,i,0,_,_,h,_=>by omega
 |0,i,M+1,hi,hk,h,_=>qP (qO (decide_eq_false (show ¬i≤10 by omega)) rfl)
 |k+1,i,M+1,hi,hk,h,hn=>by
  have w1:IntKind.i64.wrap (i+1)=i+1:=qV (by omega)
  rw [qU (v':=(BR w,i+1,qC1 s q)) (by
   refine qD (decide_eq_true (show i≤10 by omega)) (qA (h1 i ⟨hi,by omega⟩) (qO (by rw [beq_eq_false_iff_ne];show (fnS i).toList≠(BR w).toList;rw [qAS];exact hn i ⟨Int.le_refl _,by omega⟩) ?_))
   rw [qC,w1])]
  exact qRI w q h1 k (i+1) M (by omega) (by omega) (by omega) (fun j hj=>hn j ⟨by omega,hj.2⟩)
theorem qKu {g:G_spec_l3Rd_row} {n:Nat} {s:List UInt8} (w:List UInt8) (q:PS) (res:Int→Int×PS) (h1:∀i,1≤i∧i≤10→qCj n i=some (fnS i))
  (h2:qAI n ⟨#[40]⟩ (BR s) (pos s q.1) q.2.1 q.2.2.length (q.2.2.map qW)=some ((sIs [40] q).1,qC1 s (sIs [40] q).2)):
  ∀(k:Nat) (i:Int) (M:Nat),1≤i→i+k=11→k+1≤M→(∀op,qGW w i k=some op→(sIs [40] q).1=true→g.spec_l3Rd_call op (BR s) (pos s (sIs [40] q).2.1) (sIs [40] q).2.2.1 (sIs [40] q).2.2.2.length ((sIs [40] q).2.2.2.map qW)=some (qCf s (res op)))→
   zD (qDK g n) M (BR w,i,qC1 s q)=some (match qGW w i k with
   |some op=>if (sIs [40] q).1=true then .inl (qCf s (res op)) else .inr (BR w,qC1 s (sIs [40] q).2)
   |none=> .inr (BR w,qC1 s q))
 |k,i,0,_,_,h,_=>by omega
 |0,i,M+1,hi,hk,h,_=>qP (qO (decide_eq_false (show ¬i≤10 by omega)) rfl)
 |k+1,i,M+1,hi,hk,h,hc=>by
  have w1:IntKind.i64.wrap (i+1)=i+1:=qV (by omega)
  unfold qGW at hc⊢
  by_cases hq:(fnS i).toList=w
  ·rw [if_pos hq] at hc⊢
   have hqb:((fnS i).toList==(BR w).toList)=true:=by rw [beq_iff_eq,qAS];exact hq
   simp only
   cases hi2:(sIs [40] q).1 with
   |true=>
    rw [if_pos rfl]
    exact qP (qD (decide_eq_true (show i≤10 by omega)) (qA (h1 i ⟨hi,by omega⟩) (qD hqb (qA h2 (qD hi2 (qA (hc i rfl hi2) rfl))))))
   |false=>
    rw [if_neg (by simp)]
    rw [qU (v':=(BR w,i+1,qC1 s (sIs [40] q).2)) (by
     refine qD (decide_eq_true (show i≤10 by omega)) (qA (h1 i ⟨hi,by omega⟩) (qD hqb (qA h2 (qO hi2 ?_))))
     rw [qC,w1])]
    exact qRI w _ h1 k (i+1) M (by omega) (by omega) (by omega) (fun j hj e=>by
     have:=qVK (i:=i) (j:=j) ⟨hi,by omega⟩ ⟨by omega,hj.2⟩ (hq.trans e.symm)
     omega)
  ·rw [if_neg hq] at hc⊢
   rw [qU (v':=(BR w,i+1,qC1 s q)) (by
    refine qD (decide_eq_true (show i≤10 by omega)) (qA (h1 i ⟨hi,by omega⟩) (qO (by rw [beq_eq_false_iff_ne];show (fnS i).toList≠(BR w).toList;rw [qAS];exact hq) ?_))
    rw [qC,w1])]
   exact qKu w q res h1 h2 k (i+1) M (by omega) (by omega) (by omega) hc
structure Go (k:Nat) (q q':PS):Prop where
 suf:q'.1<:+q.1
 sum:q'.2.2.length+q'.1.length+k≤q.2.2.length+q.1.length
 sm:(∀x∈q.2.2,qO2 x)→∀x∈q'.2.2,qO2 x
theorem Go.refl (q:PS):Go 0 q q:=⟨List.suffix_rfl,Nat.le_refl _,id⟩
theorem Go.trans {a b:Nat} {p q r:PS} (h:Go a p q) (h':Go b q r):Go (a+b) p r:=⟨h'.suf.trans h.suf,by have:=h.sum;have:=h'.sum;omega,fun e=>h'.sm (h.sm e)⟩
theorem Go.tr0 {p q r:PS} (h:Go 0 p q) (h':Go 0 q r):Go 0 p r:=h.trans h'
theorem Go.add {p q:PS} {x:Nd} (h:Go 1 p q) (hx:qO2 x):Go 0 p (qEK x q).2:=by
 refine ⟨h.suf,?_,fun e y hy=>?_⟩
 ·have:=h.sum
  simp only [qEK,List.length_append,List.length_singleton]
  omega
 ·simp only [qEK,List.mem_append,List.mem_singleton] at hy
  rcases hy with hy|rfl
  ·exact h.sm e y hy
  ·exact hx
theorem Go.weak {k:Nat} {p q:PS} (h:Go k p q):Go 0 p q:=⟨h.suf,by have:=h.sum;omega,h.sm⟩
theorem Go.of (q:PS) {r:List UInt8} (b:Bool) {k:Nat} (h:r<:+q.1) (hk:r.length+k≤q.1.length):Go k q (r,b,q.2.2):=⟨h,by simp only;omega,id⟩
theorem qMw (q:PS):Go 0 q (tb q.1,q.2):=⟨List.dropWhile_suffix _,by have:=qAC q.1;simp only;omega,id⟩
theorem qRJ (q:PS):Go 0 q (wr (tb q.1),q.2):=⟨(List.dropWhile_suffix _).trans (List.dropWhile_suffix _),by have:=qAC q.1;have:=qHM (tb q.1);simp only;omega,id⟩
theorem qUJ (q:PS) (h:wd (tb q.1)≠ []):Go 1 q (wr (tb q.1),q.2):=⟨(List.dropWhile_suffix _).trans (List.dropWhile_suffix _),by
 have:=qAC q.1
 have e:=congrArg List.length (wdr (tb q.1))
 have:=List.length_pos_iff.2 h
 simp only [List.length_append] at e
 simp only;omega,id⟩
theorem qLc {w:List UInt8} {q:PS} (h:(sIs w q).1=true):w<+:tb q.1∧(sIs w q).2=((tb q.1).drop w.length,q.2)∧q.2.1=false:=by
 unfold sIs at h⊢
 split at h
 ·cases h
 ·rename_i hb
  rw [if_neg hb]
  split at h
  ·rename_i hp
   rw [if_pos hp]
   exact ⟨List.isPrefixOf_iff_prefix.1 hp,rfl,by rw [Bool.eq_false_iff];exact hb⟩
  ·cases h
theorem qRK {w:List UInt8} {q:PS} (h:(sIs w q).1=false):(sIs w q).2=(tb q.1,q.2):=by
 unfold sIs at h⊢
 split at h
 ·rename_i hb;rw [if_pos hb]
 ·rename_i hb
  rw [if_neg hb]
  split at h
  ·cases h
  ·rename_i hp;rw [if_neg hp]
theorem qKi (w:List UInt8) (q:PS):Go 0 q (sIs w q).2:=by
 cases h:(sIs w q).1 with
 |true=>
  obtain ⟨_,h2,_⟩:=qLc h
  rw [h2]
  exact Go.tr0 (qMw q) ⟨List.drop_suffix _ _,by simp,id⟩
 |false=>rw [qRK h];exact qMw q
theorem qFD {w:List UInt8} (hw:w≠ []) {q:PS} (h:(sIs w q).1=true):Go 1 q (sIs w q).2:=by
 obtain ⟨h1,h2,_⟩:=qLc h
 rw [h2]
 have l1:=h1.length_le
 have l2:=List.length_pos_iff.2 hw
 have:=qAC q.1
 exact ⟨(List.drop_suffix _ _).trans (List.dropWhile_suffix _),by simp;omega,id⟩
theorem qQG {k:Nat} {p q:PS} (h:Go k p q):Go k p (qMB q):=⟨h.suf,h.sum,h.sm⟩
theorem qUK:∀(t r:List UInt8),(tb r).length≤(tb (t++r)).length
 | [],r=>Nat.le_refl _
 |c::t,r=>by
  have ih:=qUK t r
  have:=qAC (t++r)
  by_cases hc:c=32
  ·rw [show tb (c::t++r)=tb (t++r) by simp [tb,hc]];exact ih
  ·rw [show tb (c::t++r)=c::(t++r) by simp [tb,hc]]
   simp only [List.length_cons];omega
theorem Go.tb {k:Nat} {p q:PS} (h:Go k p q):(tb q.1).length≤(tb p.1).length:=by
 obtain ⟨t,ht⟩:=h.suf
 rw [←ht];exact qUK t q.1
theorem qTS {w:List UInt8} (hw:w≠ []) {q:PS} (h:(sIs w q).1=true):(tb (sIs w q).2.1).length<(tb q.1).length:=by
 obtain ⟨h1,h2,_⟩:=qLc h
 rw [h2]
 exact qRq hw h1
theorem qTT (level:Int) (r:List UInt8):∀l:List Int,qD3 level r l≠0→qD3 level r l∈l∧(qAR (qD3 level r l)).toList<+:r
 | [],h=>absurd rfl h
 |o::l,h=>by
  unfold qD3 at h⊢
  split at h
  ·rename_i hc
   rw [if_pos hc]
   exact ⟨List.mem_cons_self ..,List.isPrefixOf_iff_prefix.1 hc.2⟩
  ·rename_i hc
   rw [if_neg hc]
   have:=qTT level r l h
   exact ⟨List.mem_cons_of_mem _ this.1,this.2⟩
theorem qU5 (level:Int) (q:PS):Go 0 q (sOp level q).2∧((sOp level q).1≠0→Go 1 q (sOp level q).2∧(tb (sOp level q).2.1).length<(tb q.1).length):=by
 unfold sOp
 split
 ·exact ⟨qMw q,fun h=>absurd rfl h⟩
 ·simp only
  by_cases h:qD3 level (tb q.1) qCN=0
  ·rw [if_pos h]
   exact ⟨qMw q,fun e=>absurd h e⟩
  ·rw [if_neg h]
   obtain ⟨h1,h2⟩:=qTT level (tb q.1) qCN h
   have ne:=(qRs _ h1).1
   have l1:=h2.length_le
   have l2:=List.length_pos_iff.2 ne
   rw [qAT] at l1 l2
   have l3:=qAC q.1
   have g:Go 1 q ((tb q.1).drop (qAR (qD3 level (tb q.1) qCN)).size,q.2):=⟨(List.drop_suffix _ _).trans (List.dropWhile_suffix _),by simp;omega,id⟩
   have t:=qRq ne h2
   rw [qAT] at t
   exact ⟨g.weak,fun _=>⟨g,t⟩⟩
theorem qNu:∀(k:Nat) (acc r:List UInt8) {w t:List UInt8},r.length≤k→qCK acc r=some (w,t)→t<:+r
 |k,acc,[],w,t,hk,h=>by simp [qCK] at h
 |0,acc,c::r,w,t,hk,h=>by simp at hk
 |k+1,acc,c::r,w,t,hk,h=>by
  simp only [List.length_cons] at hk
  by_cases hc:c=34
  ·subst hc
   by_cases hq:r.head?=some 34
   ·obtain ⟨u,rfl⟩:=qKs hq
    rw [qVA] at h
    simp only [List.length_cons] at hk
    have:=qNu k _ u (by omega) h
    exact this.trans ((List.suffix_cons 34 u).trans (List.suffix_cons 34 _))
   ·rw [qVB acc r hq] at h
    cases h
    exact List.suffix_cons 34 _
  ·rw [qVC acc r hc] at h
   exact (qNu k _ r (by omega) h).trans (List.suffix_cons c _)
def Ks:SJ→PS→Prop
 | .call _ kids,q=>q.2.1=true∨kids.length+q.1.length≤1500
 |_,_=>True
theorem qJE {k op:Int} {kids:List Int} (h:kids.length≤2000):qO2 (ndK k op kids):=⟨h,by simp [ndK,em];decide⟩
theorem qB3 {k:Nat} {p q:PS} (h:Go k p q):q.1.length≤p.1.length:=h.suf.length_le
theorem qFJ (H:RdOK):∀(f:Nat) (j:SJ) (q:PS),q.1.length≤1000→Ks j q→Go 0 q (sP f j q).2
 |0,j,q,_,_=>Go.refl q
 |f+1,.row level,q,hr,_=>by
  unfold sP
  split
  ·exact Go.refl q
  ·split
   ·exact qFJ H f .one q hr trivial
   ·have a:=qFJ H f (.row (level+1)) q hr trivial
    exact a.tr0 (qFJ H f (.rl level _) _ (Nat.le_trans (qB3 a) hr) trivial)
 |f+1,.rl level a,q,hr,_=>by
  unfold sP
  split
  ·exact Go.refl q
  ·simp only
   have o:=qU5 level q
   split
   ·exact o.1
   ·rename_i h0
    have o1:=(o.2 h0).1
    have b:=qFJ H f (.row (level+1)) (sOp level q).2 (Nat.le_trans (qB3 o1) hr) trivial
    have c:=Go.add (x:=ndK 5 (sOp level q).1 [a,(sP f (.row (level+1)) (sOp level q).2).1]) (o1.trans b) (qJE (by simp))
    exact c.tr0 (qFJ H f (.rl level _) _ (Nat.le_trans (qB3 c) hr) trivial)
 |f+1,.one,q,hr,_=>by
  unfold sP
  split
  ·rename_i h
   have a:=qFD (by simp) h
   have b:=qFJ H f (.row 5) (sIs [45] q).2 (Nat.le_trans (qB3 a) hr) trivial
   exact Go.add (a.trans b) (qJE (by simp))
  ·have a:=qKi [45] q
   split
   ·rename_i h
    have c:=a.tr0 (qFD (by simp) h).weak
    have b:=qFJ H f (.row 1) (sIs [40] (sIs [45] q).2).2 (Nat.le_trans (qB3 c) hr) trivial
    have d:=(c.tr0 b).tr0 (qKi [41] _)
    simp only
    split
    ·exact d
    ·exact qQG d
   ·simp only
    have t:=qMw q
    split
    ·rename_i h
     have c:=qFD (by simp) h
     obtain ⟨_,e,_⟩:=qLc h
     split
     ·exact ⟨List.nil_suffix,by simp,id⟩
     ·rename_i w u hq
      have d:=qNu _ _ _ (Nat.le_refl _) hq
      have d2:=d.length_le
      have dz:=qHO _ _ _ (Nat.le_refl _) hq
      have g:=t.trans c
      have l:=qB3 g
      have sg:=g.sum
      have eq:(sIs [34] (tb q.1,q.2)).2.2=q.2:=by rw [e]
      rw [eq] at sg
      simp only [List.length_nil] at dz
      exact Go.add (q:=(u,q.2)) ⟨d.trans g.suf,by simp only;omega,id⟩ ⟨by simp [kd,nd1],by simp only [nd1,qc];omega⟩
    ·split
     ·rename_i h
      have c:=qFD (by simp) h
      obtain ⟨_,e,_⟩:=qLc h
      have g:=t.trans c
      have l:=qB3 g
      have sg:=g.sum
      have eq:(sIs [35] (tb q.1,q.2)).2.2=q.2:=by rw [e]
      rw [eq] at sg
      split
      ·exact Go.add (q:=(_,q.2)) ⟨(List.drop_suffix _ _).trans g.suf,by simp;omega,id⟩ ⟨by simp [kd,nd1],by simp [nd1,em];decide⟩
      ·exact ⟨g.suf,by simp only;omega,id⟩
     ·have w:=qRJ q
      split
      ·split
       ·have c:=w.tr0 (qKi [40] _)
        exact c.tr0 (qFJ H f (.call _ []) _ (Nat.le_trans (qB3 c) hr) (.inr (by have:=qB3 c;simp only [List.length_nil];omega)))
       ·exact qQG (w.tr0 (qKi [40] _))
      ·split
       ·rename_i hv
        exact Go.add (qUJ q hv.2) ⟨by simp [kd,nd1],qKg hv.1 (H.v _ (qSw _) hv.2 hv.1)⟩
       ·split
        ·rename_i hp
         exact Go.add (qUJ q (fun e=>by rw [e,H.p0] at hp;cases hp)) ⟨by simp [kd,ndC],by simp [ndC,em];decide⟩
        ·exact qQG w
 |f+1,.call op kids,q,hr,hk=>by
  unfold sP
  split
  ·exact Go.refl q
  ·rename_i hb
   have hk:kids.length+q.1.length≤1500:=hk.elim (fun h=>absurd h hb) id
   have a:=qFJ H f .arg q hr trivial
   simp only
   split
   ·rename_i h
    exact Go.add (a.trans (qFD (by simp) h)) (qJE (by simp;omega))
   ·have c:=a.tr0 (qKi [41] _)
    split
    ·rename_i h
     have d:=c.trans (qFD (by simp) h)
     obtain ⟨e1,e2,_⟩:=qLc h
     have l:=e1.length_le
     have l2:=qB3 c
     have l3:=qAC (sIs [41] (sP f .arg q).2).2.1
     simp only [List.length_cons,List.length_nil] at l
     exact d.weak.tr0 (qFJ H f (.call op _) _ (Nat.le_trans (qB3 d) hr) (.inr (by rw [e2];simp;omega)))
    ·have d:=qQG (c.tr0 (qKi [44] _))
     exact d.tr0 (qFJ H f (.call op _) _ (Nat.le_trans (qB3 d) hr) (.inl rfl))
 |f+1,.arg,q,hr,_=>by
  unfold sP
  simp only
  have w:=qRJ q
  split
  ·rename_i h
   have c:=w.trans (qFD (by simp) h.2)
   have d:=c.trans (qRJ _)
   split
   ·exact Go.add d ⟨by simp [kd,ndA],by simp [ndA,em];decide⟩
   ·exact ⟨d.suf,by have:=d.sum;simp only at this⊢;omega,d.sm⟩
  ·have t:=qMw q
   exact t.tr0 (qFJ H f (.row 1) _ (Nat.le_trans (qB3 t) hr) trivial)
def As (f:Nat):SJ→PS→Prop
 | .row level,q=>((20*(tb q.1).length+10:Nat):Int)-level≤f∧1≤level∧level≤5
 | .rl level _,q=>20*(tb q.1).length+5≤f∧1≤level∧level≤4
 | .one,q=>20*(tb q.1).length+4≤f∧q.2.1=false
 | .call _ _,q=>(q.2.1=true∧1≤f)∨20*(tb q.1).length+12≤f
 | .arg,q=>20*(tb q.1).length+10≤f
def Iv (s:List UInt8) (q:PS):Prop:=q.1<:+s∧q.2.2.length+q.1.length≤2000
theorem Iv.go {s:List UInt8} {k:Nat} {q q':PS} (h:Iv s q) (g:Go k q q'):Iv s q':=⟨g.suf.trans h.1,by have:=g.sum;have:=h.2;omega⟩
def Ws (s:List UInt8):SJ→PS→Int×PS→Prop
 | .row level,q,r=>Ev (qEN · level (BR s) (pos s q.1) q.2.1 q.2.2.length (q.2.2.map qW)) (qCf s r)
 | .rl level a,q,r=>∃x,(x= .inl (qCf s r)∨x= .inr (qCf s r))∧∃n0,∀n,n0≤n→∀M,n0≤M→zD (qES (qd n) n) M (level,a,qC1 s q)=some x
 | .one,q,r=>Ev (qJN · (BR s) (pos s q.1) q.2.1 q.2.2.length (q.2.2.map qW)) (qCf s r)
 | .call op kids,q,r=>∃x,(x= .inl (qCf s r)∨(x= .inr (qC1 s r.2)∧r.1=0))∧∃n0,∀n,n0≤n→∀M,n0≤M→zD (qD8 (qd n) n) M (op,kids.length,kids.map qAz,qC1 s q)=some x
 | .arg,q,r=>Ev (qJO · (BR s) (pos s q.1) q.2.1 q.2.2.length (q.2.2.map qW)) (qCf s r)
theorem srp (r:List UInt8) (h:r.length≤1000):Ev (qAr · (BR (wd r))) (qA6 (BR (wd r))):=qMk _ (by rw [qc];have:=qRp r;omega)
theorem srv (r:List UInt8) (h:r.length≤1000):Ev (qAL · (BR (wd r))) (qi (BR (wd r))):=qHl _ (by rw [qc];have:=qRp r;omega)
theorem qVh {r:List UInt8} (h:wd r≠ []):(tb (wr r)).length<r.length:=by
 have e:=congrArg List.length (wdr r)
 have:=List.length_pos_iff.2 h
 have:=qAC (wr r)
 simp only [List.length_append] at e
 omega
def qRt (n:Nat) (w:ByteArray) (c:ByteArray×Int×Bool×Nat×List (List PV)):Tr (Int×ByteArray×Int×Bool×Nat×List (List PV)):=
 (.opt (qAr n w) fun r=>(.ask (!r.2.2.2.2) (.done (0,c.1,c.2.1,true,c.2.2.2.1,c.2.2.2.2))
  (.opt (qr n 2 0 0 0 ⟨#[]⟩ r.1 r.2.1 r.2.2.1 r.2.2.2.1 0 0 false false [] c.1 c.2.1 c.2.2.1 c.2.2.2.1 c.2.2.2.2) fun t=> .done (t.1,t.2.1,t.2.2.1,t.2.2.2.1,t.2.2.2.2.1,t.2.2.2.2.2))))
def qVL (n:Nat) (w:ByteArray) (c:ByteArray×Int×Bool×Nat×List (List PV)):Tr (Int×ByteArray×Int×Bool×Nat×List (List PV)):=
 (.opt (qAL n w) fun r=>(.ask r.2.2.2
  (.ask (!(w.toList==(⟨#[]⟩:ByteArray).toList))
   (.opt (qr n 1 0 r.1 r.2.1 r.2.2.1 0 0 false false 0 0 false false [] c.1 c.2.1 c.2.2.1 c.2.2.2.1 c.2.2.2.2) fun t=> .done (t.1,t.2.1,t.2.2.1,t.2.2.2.1,t.2.2.2.2.1,t.2.2.2.2.2))
   (qRt n w c))
  (qRt n w c)))
def qQH (w:List UInt8) (q3:PS):Int×PS:=
 if (qi (BR w)).2.2.2=true∧w≠ [] then qEK (nd1 ((qi (BR w)).1,(qi (BR w)).2.1,(qi (BR w)).2.2.1)) q3
 else if (qA6 (BR w)).2.2.2.2=true then qEK (ndC (qA6 (BR w))) q3
 else (0,qMB q3)
theorem qRL (H:RdOK) {s:List UInt8} (r:List UInt8) (q:PS) (hr:r.length≤1000) (hn:q.2.2.length≤5000):∃n0,∀n,n0≤n→(qVL n (BR (wd r)) (qC1 s q)).run=some (qCf s (qQH (wd r) q)):=by
 obtain ⟨n1,h1⟩:=srv r hr
 obtain ⟨n2,h2⟩:=srp r hr
 obtain ⟨n4,h4⟩:=qKh (s:=s) (ndC (qA6 (BR (wd r)))) q hn ⟨by simp [kd,ndC],by simp [ndC,em];decide⟩
 have place:∃n0,∀n,n0≤n→(qRt n (BR (wd r)) (qC1 s q)).run=some (qCf s (if (qA6 (BR (wd r))).2.2.2.2=true then qEK (ndC (qA6 (BR (wd r)))) q else (0,qMB q))):=by
  refine ⟨n2+n4,fun n hn=>?_⟩
  cases hp:(qA6 (BR (wd r))).2.2.2.2 with
  |true=>rw [if_pos rfl];exact qA (h2 n (by omega)) (qO (qAv hp) (qA (h4 n (by omega)) rfl))
  |false=>rw [if_neg (by simp)];exact qA (h2 n (by omega)) (qD (qCu hp) rfl)
 obtain ⟨n5,h5⟩:=place
 by_cases hv:(qi (BR (wd r))).2.2.2=true∧wd r≠ []
 ·obtain ⟨n3,h3⟩:=qKh (s:=s) (nd1 ((qi (BR (wd r))).1,(qi (BR (wd r))).2.1,(qi (BR (wd r))).2.2.1)) q hn ⟨by simp [kd,nd1],qKg hv.1 (H.v _ (qSw _) hv.2 hv.1)⟩
  refine ⟨n1+n3,fun n hn=>?_⟩
  unfold qQH
  rw [if_pos hv]
  exact qA (h1 n (by omega)) (qD hv.1 (qD (qCu (by rw [beq_eq_false_iff_ne,qAS,qAG];exact hv.2)) (qA (h3 n (by omega)) rfl)))
 ·refine ⟨n1+n5,fun n hn=>?_⟩
  unfold qQH
  rw [if_neg hv]
  refine qA (h1 n (by omega)) ?_
  by_cases ho:(qi (BR (wd r))).2.2.2=true
  ·have e:wd r= []:=Classical.byContradiction fun e=>hv ⟨ho,e⟩
   exact qD ho (qO (qAv (by rw [beq_iff_eq,qAS,qAG];exact e)) (h5 n (by omega)))
  ·exact qO (by rw [Bool.eq_false_iff];exact ho) (h5 n (by omega))
theorem qFU (H:RdOK) {s:List UInt8} (hs:s.length≤1000):∀(f:Nat) (j:SJ) (q:PS),As f j q→Iv s q→Ks j q→Ws s j q (sP f j q)
 |0,j,q,ha,_,_=>by cases j<;>simp [As] at ha<;>omega
 |f+1,.row level,q,ha,hi,_=>by
  obtain ⟨ha,hl1,hl5⟩:=ha
  have hr:q.1.length≤1000:=Nat.le_trans (qDW hi.1) hs
  unfold sP
  by_cases hb:q.2.1=true
  ·rw [if_pos hb]
   refine ⟨1,fun n hn=>?_⟩
   obtain ⟨k,rfl,hm⟩:=up1 hn
   exact qD hb rfl
  ·have hb:q.2.1=false:=by rw [Bool.eq_false_iff];exact hb
   rw [if_neg (by rw [hb];simp)]
   by_cases h5:level=5
   ·rw [if_pos h5]
    obtain ⟨n1,h1⟩:=qFU H hs f .one q ⟨by omega,hb⟩ hi trivial
    refine ⟨n1+1,fun n hn=>?_⟩
    obtain ⟨k,rfl,hm⟩:=up1 hn
    exact qO hb (qD (beq_iff_eq.2 h5) (qA (h1 k (by omega)) rfl))
   ·rw [if_neg h5]
    have g:=qFJ H f (.row (level+1)) q hr trivial
    have gl:=g.tb
    obtain ⟨n1,h1⟩:=qFU H hs f (.row (level+1)) q ⟨by omega,by omega,by omega⟩ hi trivial
    generalize sP f (.row (level+1)) q=Q at g gl h1⊢
    obtain ⟨x,hx,n2,h2⟩:=qFU H hs f (.rl level Q.1) Q.2 ⟨by omega,by omega,by omega⟩ (hi.go g) trivial
    refine ⟨n1+n2+1,fun n hn=>?_⟩
    obtain ⟨k,rfl,hm⟩:=up1 hn
    have w1:IntKind.i64.wrap (level+1)=level+1:=qV (by omega)
    have h1:=h1 k (by omega)
    rw [←w1] at h1
    have h2:=h2 k (by omega) k (by omega)
    rcases hx with rfl|rfl
    ·exact qO hb (qO (beq_eq_false_iff_ne.2 h5) (qA h1 (qA h2 rfl)))
    ·exact qO hb (qO (beq_eq_false_iff_ne.2 h5) (qA h1 (qA h2 rfl)))
 |f+1,.rl level a,q,ha,hi,_=>by
  obtain ⟨ha,hl1,hl4⟩:=ha
  have hr:q.1.length≤1000:=Nat.le_trans (qDW hi.1) hs
  unfold sP
  by_cases hb:q.2.1=true
  ·rw [if_pos hb]
   refine ⟨.inr (qCf s (a,q)),.inr rfl,1,fun n hn M hM=>?_⟩
   obtain ⟨M,rfl,hM⟩:=up1 hM
   exact qP (qO (qAv hb) rfl)
  ·have hb:q.2.1=false:=by rw [Bool.eq_false_iff];exact hb
   rw [if_neg (by rw [hb];simp)]
   simp only
   obtain ⟨n1,h1⟩:=qVJ hs (level:=level) ⟨hl1,hl4⟩ q hb hi.1
   have o:=qU5 level q
   generalize sOp level q=O at h1 o⊢
   by_cases h0:O.1=0
   ·rw [if_pos h0]
    refine ⟨.inl (qCf s (a,O.2)),.inl rfl,n1+1,fun n hn M hM=>?_⟩
    obtain ⟨M,rfl,hM⟩:=up1 hM
    exact qP (qD (qCu hb) (qA (h1 n (by omega)) (qD (beq_iff_eq.2 h0) rfl)))
   ·rw [if_neg h0]
    obtain ⟨o1,o2⟩:=o.2 h0
    have b:=qFJ H f (.row (level+1)) O.2 (Nat.le_trans (qB3 o1) hr) trivial
    obtain ⟨n2,h2⟩:=qFU H hs f (.row (level+1)) O.2 ⟨by omega,by omega,by omega⟩ (hi.go o1) trivial
    have ib:=(hi.go o1).go b
    have tbb:=b.tb
    have c:=Go.add (x:=ndK 5 O.1 [a,(sP f (.row (level+1)) O.2).1]) (o1.trans b) (qJE (by simp))
    generalize sP f (.row (level+1)) O.2=Q at h2 b ib tbb c⊢
    obtain ⟨n3,h3⟩:=qKh (s:=s) (ndK 5 O.1 [a,Q.1]) Q.2 (by have:=ib.2;omega) (qJE (by simp))
    have rest:(qEK (ndK 5 O.1 [a,Q.1]) Q.2).2.1=Q.2.1:=rfl
    generalize qEK (ndK 5 O.1 [a,Q.1]) Q.2=C at h3 c rest⊢
    obtain ⟨x,hx,n4,h4⟩:=qFU H hs f (.rl level C.1) C.2 ⟨by rw [rest];omega,hl1,hl4⟩ (hi.go c) trivial
    refine ⟨x,hx,n1+n2+n3+n4+1,fun n hn M hM=>?_⟩
    obtain ⟨M,rfl,hM⟩:=up1 hM
    have w1:IntKind.i64.wrap (level+1)=level+1:=qV (by omega)
    have h2:=h2 n (by omega)
    rw [←w1] at h2
    rw [qU (v':=(level,C.1,qC1 s C.2)) (by
     exact qD (qCu hb) (qA (h1 n (by omega)) (qO (beq_eq_false_iff_ne.2 h0) (qA h2 (qD rfl (qA (h3 n (by omega)) rfl))))))]
    exact h4 n (by omega) M (by omega)
 |f+1,.one,q,ha,hi,_=>by
  obtain ⟨ha,hb⟩:=ha
  have hr:q.1.length≤1000:=Nat.le_trans (qDW hi.1) hs
  unfold sP
  obtain ⟨n1,h1⟩:=qHP hs [45] (by simp) q hi.1
  cases c1:(sIs [45] q).1 with
  |true=>
   rw [if_pos rfl]
   have a:=qFD (by simp) c1
   have al:=qTS (by simp) c1
   have b:=qFJ H f (.row 5) (sIs [45] q).2 (Nat.le_trans (qB3 a) hr) trivial
   obtain ⟨n2,h2⟩:=qFU H hs f (.row 5) (sIs [45] q).2 ⟨by omega,by omega,by omega⟩ (hi.go a) trivial
   have ib:=(hi.go a).go b
   simp only
   generalize sP f (.row 5) (sIs [45] q).2=Q at h2 ib⊢
   obtain ⟨n3,h3⟩:=qKh (s:=s) (ndK 4 0 [Q.1]) Q.2 (by have:=ib.2;omega) (qJE (by simp))
   refine ⟨n1+n2+n3+1,fun n hn=>?_⟩
   obtain ⟨k,rfl,hm⟩:=up1 hn
   exact qA (h1 k (by omega)) (qD c1 (qA (h2 k (by omega)) (qD rfl (qA (h3 k (by omega)) rfl))))
  |false=>
   rw [if_neg (by simp)]
   have a:=qKi [45] q
   obtain ⟨n2,h2⟩:=qHP hs [40] (by simp) (sIs [45] q).2 (hi.go a).1
   cases c2:(sIs [40] (sIs [45] q).2).1 with
   |true=>
    rw [if_pos rfl]
    have b:=qFD (by simp) c2
    have al:=qTS (by simp) c2
    have atb:=a.tb
    have g1:=a.trans b
    have b2:=qFJ H f (.row 1) (sIs [40] (sIs [45] q).2).2 (Nat.le_trans (qB3 g1) hr) trivial
    obtain ⟨n3,h3⟩:=qFU H hs f (.row 1) (sIs [40] (sIs [45] q).2).2 ⟨by omega,by omega,by omega⟩ (hi.go g1) trivial
    have ib:=(hi.go g1).go b2
    simp only
    generalize sP f (.row 1) (sIs [40] (sIs [45] q).2).2=Q at h3 ib⊢
    obtain ⟨n4,h4⟩:=qHP hs [41] (by simp) Q.2 ib.1
    refine ⟨n1+n2+n3+n4+1,fun n hn=>?_⟩
    obtain ⟨k,rfl,hm⟩:=up1 hn
    refine qA (h1 k (by omega)) (qO c1 (qA (h2 k (by omega)) (qD c2 (qA (h3 k (by omega)) (qA (h4 k (by omega)) ?_)))))
    cases c3:(sIs [41] Q.2).1 with
    |true=>rw [if_pos rfl];exact qO rfl rfl
    |false=>rw [if_neg (by simp)];exact qD rfl rfl
   |false=>
    rw [if_neg (by simp)]
    have e2:(sIs [40] (sIs [45] q).2).2=(tb q.1,q.2):=by
     rw [qRK c2,qRK c1];simp only [qCe]
    rw [e2] at h2
    have t:=qMw q
    have it:=hi.go t
    obtain ⟨n3,h3⟩:=qHP hs [34] (by simp) (tb q.1,q.2) it.1
    simp only
    cases c3:(sIs [34] (tb q.1,q.2)).1 with
    |true=>
     rw [if_pos rfl]
     have b:=qFD (by simp) c3
     have ib:=it.go b
     have eq2:(sIs [34] (tb q.1,q.2)).2.2=q.2:=by obtain ⟨_,e,_⟩:=qLc c3;rw [e]
     obtain ⟨n4,h4⟩:=qUH hs (sIs [34] (tb q.1,q.2)).2 ib.1 (by have:=ib.2;omega)
     refine ⟨n1+n2+n3+n4+1,fun n hn=>?_⟩
     obtain ⟨k,rfl,hm⟩:=up1 hn
     refine qA (h1 k (by omega)) (qO c1 (qA (h2 k (by omega)) (qO c2 (qA (h3 k (by omega)) (qD c3 (qA (h4 k (by omega)) ?_))))))
     rw [qC,eq2]
     all_goals (cases qCK [] (sIs [34] (tb q.1,q.2)).2.1<;>rfl)
    |false=>
     rw [if_neg (by simp)]
     have e3:(sIs [34] (tb q.1,q.2)).2=(tb q.1,q.2):=by rw [qRK c3];simp only [qCe]
     rw [e3] at h3
     obtain ⟨n4,h4⟩:=qHP hs [35] (by simp) (tb q.1,q.2) it.1
     cases c4:(sIs [35] (tb q.1,q.2)).1 with
     |true=>
      rw [if_pos rfl]
      have b:=qFD (by simp) c4
      have ib:=it.go b
      have eq2:(sIs [35] (tb q.1,q.2)).2.2=q.2:=by obtain ⟨_,e,_⟩:=qLc c4;rw [e]
      obtain ⟨n5,h5⟩:=qUt hs (sIs [35] (tb q.1,q.2)).2.1 ib.1 q.2.1 q.2.2 (by have:=hi.2;omega)
      have h4:=fun k hk=>h4 k hk
      refine ⟨n1+n2+n3+n4+n5+1,fun n hn=>?_⟩
      obtain ⟨k,rfl,hm⟩:=up1 hn
      have h4:=h4 k (by omega)
      have h5:=h5 k (by omega) k (by omega)
      have e4:qC1 s (sIs [35] (tb q.1,q.2)).2=(BR s,pos s (sIs [35] (tb q.1,q.2)).2.1,q.2.1,q.2.2.length,q.2.2.map qW):=by unfold qC1;rw [eq2]
      rw [e4] at h4
      refine qA (h1 k (by omega)) (qO c1 (qA (h2 k (by omega)) (qO c2 (qA (h3 k (by omega)) (qO c3 (qA h4 (qD c4 (qA h5 ?_))))))))
      cases qSL (sIs [35] (tb q.1,q.2)).2.1 1 5<;>rfl
     |false=>
      rw [if_neg (by simp)]
      have e4:(sIs [35] (tb q.1,q.2)).2=(tb q.1,q.2):=by rw [qRK c4];simp only [qCe]
      rw [e4] at h4
      obtain ⟨n5,h5⟩:=qQE hs (tb q.1,q.2) it.1
      have w:=qRJ q
      have iw:=hi.go w
      have htl:=qAC q.1
      obtain ⟨n6,h6⟩:=qHP hs [40] (by simp) (wr (tb q.1),q.2) iw.1
      obtain ⟨n7,h7⟩:=qUu
      obtain ⟨n9,h9⟩:=qRL H (s:=s) (tb q.1) (wr (tb q.1),q.2) (by omega) (by have:=hi.2;simp only;omega)
      have gi:=qKi [40] (wr (tb q.1),q.2)
      cases hf:qGW (wd (tb q.1)) 1 10 with
      |none=>
       simp only
       refine ⟨n1+n2+n3+n4+n5+n6+n7+n9+12+1,fun n hn=>?_⟩
       obtain ⟨k,rfl,hm⟩:=up1 hn
       have lp:=qKu (g:=qd k) (s:=s) (wd (tb q.1)) (wr (tb q.1),q.2) (fun _=>(0,q)) (h7 k (by omega)) (h6 k (by omega)) 10 1 k (by omega) (by omega) (by omega) (fun op h=>by rw [hf] at h;cases h)
       rw [hf] at lp
       exact qA (h1 k (by omega)) (qO c1 (qA (h2 k (by omega)) (qO c2 (qA (h3 k (by omega)) (qO c3 (qA (h4 k (by omega)) (qO c4 (qA (h5 k (by omega)) (qA lp (h9 k (by omega)))))))))))
      |some op=>
       have wne:wd (tb q.1)≠ []:=fun e=>by rw [e,H.f0] at hf;cases hf
       have wlt:=qVh wne
       simp only
       cases c5:(sIs [40] (wr (tb q.1),q.2)).1 with
       |true=>
        rw [if_pos rfl]
        have il:=qTS (by simp) c5
        simp only at il
        obtain ⟨x,hx,n8,h8⟩:=qFU H hs f (.call op []) (sIs [40] (wr (tb q.1),q.2)).2 (.inr (by omega)) (iw.go gi) (.inr (by have:=qB3 (w.tr0 gi);simp only [List.length_nil];omega))
        have hcall:Ev (qIS · op (BR s) (pos s (sIs [40] (wr (tb q.1),q.2)).2.1) (sIs [40] (wr (tb q.1),q.2)).2.2.1 (sIs [40] (wr (tb q.1),q.2)).2.2.2.length ((sIs [40] (wr (tb q.1),q.2)).2.2.2.map qW)) (qCf s (sP f (.call op []) (sIs [40] (wr (tb q.1),q.2)).2)):=by
         refine ⟨n8+1,fun n hn=>?_⟩
         obtain ⟨k,rfl,hm⟩:=up1 hn
         have h8:=h8 k (by omega) k (by omega)
         rcases hx with rfl|⟨rfl,hz⟩
         ·exact qA h8 rfl
         ·refine qA h8 ?_
          show some ((0:Int),qC1 s _)=some (_,qC1 s _)
          rw [hz]
        obtain ⟨n10,h10⟩:=hcall
        refine ⟨n1+n2+n3+n4+n5+n6+n7+n10+12+1,fun n hn=>?_⟩
        obtain ⟨k,rfl,hm⟩:=up1 hn
        have lp:=qKu (g:=qd k) (s:=s) (wd (tb q.1)) (wr (tb q.1),q.2) (fun op=>sP f (.call op []) (sIs [40] (wr (tb q.1),q.2)).2) (h7 k (by omega)) (h6 k (by omega)) 10 1 k (by omega) (by omega) (by omega) (fun op' h _=>by rw [hf] at h;cases h;exact h10 k (by omega))
        rw [hf] at lp
        simp only at lp
        rw [if_pos c5] at lp
        exact qA (h1 k (by omega)) (qO c1 (qA (h2 k (by omega)) (qO c2 (qA (h3 k (by omega)) (qO c3 (qA (h4 k (by omega)) (qO c4 (qA (h5 k (by omega)) (qA lp rfl)))))))))
       |false=>
        rw [if_neg (by simp)]
        obtain ⟨v1,v2⟩:=H.f _ _ hf
        obtain ⟨n9,h9⟩:=qRL H (s:=s) (tb q.1) (sIs [40] (wr (tb q.1),q.2)).2 (by omega) (by have:=(iw.go gi).2;omega)
        have er:qQH (wd (tb q.1)) (sIs [40] (wr (tb q.1),q.2)).2=(0,qMB (sIs [40] (wr (tb q.1),q.2)).2):=by
         unfold qQH
         rw [if_neg (fun h=>by rw [v1] at h;cases h.1),if_neg (by rw [v2];simp)]
        rw [er] at h9
        refine ⟨n1+n2+n3+n4+n5+n6+n7+n9+12+1,fun n hn=>?_⟩
        obtain ⟨k,rfl,hm⟩:=up1 hn
        have lp:=qKu (g:=qd k) (s:=s) (wd (tb q.1)) (wr (tb q.1),q.2) (fun _=>(0,q)) (h7 k (by omega)) (h6 k (by omega)) 10 1 k (by omega) (by omega) (by omega) (fun op' h h'=>by rw [c5] at h';cases h')
        rw [hf] at lp
        simp only at lp
        rw [if_neg (by rw [c5];simp)] at lp
        exact qA (h1 k (by omega)) (qO c1 (qA (h2 k (by omega)) (qO c2 (qA (h3 k (by omega)) (qO c3 (qA (h4 k (by omega)) (qO c4 (qA (h5 k (by omega)) (qA lp (h9 k (by omega)))))))))))
 |f+1,.call op kids,q,ha,hi,hk=>by
  have hr:q.1.length≤1000:=Nat.le_trans (qDW hi.1) hs
  unfold sP
  by_cases hb:q.2.1=true
  ·rw [if_pos hb]
   refine ⟨.inr (qC1 s q),.inr ⟨rfl,rfl⟩,1,fun n hn M hM=>?_⟩
   obtain ⟨M,rfl,hM⟩:=up1 hM
   exact qP (qO (qAv hb) rfl)
  ·have hk:kids.length+q.1.length≤1500:=hk.elim (fun h=>absurd h hb) id
   have ha:20*(tb q.1).length+12≤f+1:=ha.elim (fun h=>absurd h.1 hb) id
   have hb:q.2.1=false:=by rw [Bool.eq_false_iff];exact hb
   rw [if_neg (by rw [hb];simp)]
   simp only
   have a:=qFJ H f .arg q hr trivial
   obtain ⟨n1,h1⟩:=qFU H hs f .arg q (by show 20*_+10≤f;omega) hi trivial
   generalize sP f .arg q=A at a h1⊢
   have ia:=hi.go a
   have ta:=a.tb
   have ra:=qB3 a
   obtain ⟨n2,h2⟩:=qHP hs [41] (by simp) A.2 ia.1
   have kl:decide (kids.length=(kids.map qAz).length∧0<1∧0<8∧(kids.length+([[(PV.i .i64 A.1)]]:List (List PV)).length)*8≤140737488355328∧([[(PV.i .i64 A.1)]]:List (List PV)).all (fun e=>e.length==1)=true)=true:=decide_eq_true ⟨by simp,by decide,by decide,by simp;omega,rfl⟩
   have k1:(kids++ [A.1]).length=kids.length+1:=by simp
   have k2:(kids++ [A.1]).map qAz=kids.map qAz++ [[PV.i .i64 A.1]]:=by simp [qAz]
   cases c1:(sIs [41] A.2).1 with
   |true=>
    rw [if_pos rfl]
    have g:=a.trans (qFD (by simp) c1)
    obtain ⟨n3,h3⟩:=qKh (s:=s) (ndK 6 op (kids++ [A.1])) (sIs [41] A.2).2 (by have:=(hi.go g).2;omega) (qJE (by simp;omega))
    refine ⟨.inl (qCf s (qEK (ndK 6 op (kids++ [A.1])) (sIs [41] A.2).2)),.inl rfl,n1+n2+n3+1,fun n hn M hM=>?_⟩
    obtain ⟨M,rfl,hM⟩:=up1 hM
    have h3:_=some _:=h3 n (by omega)
    simp only [ndK,kd] at h3
    rw [k2] at h3
    exact qP (qD (qCu hb) (qA (h1 n (by omega)) (qD rfl (qD kl (qA (h2 n (by omega)) (qD c1 (qD (decide_eq_true (by simp)) (qA h3 rfl))))))))
   |false=>
    rw [if_neg (by simp)]
    have g:=a.tr0 (qKi [41] A.2)
    have gt:=(qKi [41] A.2).tb
    have i2:=hi.go g
    obtain ⟨n3,h3⟩:=qHP hs [44] (by simp) (sIs [41] A.2).2 i2.1
    cases c2:(sIs [44] (sIs [41] A.2).2).1 with
    |true=>
     rw [if_pos rfl]
     have b:=qFD (by simp) c2
     have bl:=qTS (by simp) c2
     have bs:=qB3 (g.trans b)
     have b1:=b.sum
     have eq3:(sIs [44] (sIs [41] A.2).2).2.2=(sIs [41] A.2).2.2:=by obtain ⟨_,e,_⟩:=qLc c2;rw [e]
     rw [eq3] at b1
     have g0:=qB3 g
     obtain ⟨x,hx,n4,h4⟩:=qFU H hs f (.call op (kids++ [A.1])) (sIs [44] (sIs [41] A.2).2).2 (.inr (by omega)) (i2.go b) (.inr (by rw [k1];omega))
     refine ⟨x,hx,n1+n2+n3+n4+1,fun n hn M hM=>?_⟩
     obtain ⟨M,rfl,hM⟩:=up1 hM
     have h4:=h4 n (by omega) M (by omega)
     rw [k1,k2] at h4
     rw [qU (v':=(op,kids.length+1,kids.map qAz++ [[PV.i .i64 A.1]],qC1 s (sIs [44] (sIs [41] A.2).2).2)) (by
      exact qD (qCu hb) (qA (h1 n (by omega)) (qD rfl (qD kl (qA (h2 n (by omega)) (qO c1 (qA (h3 n (by omega)) (qO (qAv c2) rfl))))))))]
     exact h4
    |false=>
     rw [if_neg (by simp)]
     have b:=qKi [44] (sIs [41] A.2).2
     obtain ⟨x,hx,n4,h4⟩:=qFU H hs f (.call op (kids++ [A.1])) (qMB (sIs [44] (sIs [41] A.2).2).2) (.inl ⟨rfl,by omega⟩) (i2.go (qQG b)) (.inl rfl)
     refine ⟨x,hx,n1+n2+n3+n4+1,fun n hn M hM=>?_⟩
     obtain ⟨M,rfl,hM⟩:=up1 hM
     have h4:=h4 n (by omega) M (by omega)
     rw [k1,k2] at h4
     rw [qU (v':=(op,kids.length+1,kids.map qAz++ [[PV.i .i64 A.1]],qC1 s (qMB (sIs [44] (sIs [41] A.2).2).2))) (by
      exact qD (qCu hb) (qA (h1 n (by omega)) (qD rfl (qD kl (qA (h2 n (by omega)) (qO c1 (qA (h3 n (by omega)) (qD (qCu c2) rfl))))))))]
     exact h4
 |f+1,.arg,q,ha,hi,_=>by
  replace ha:20*(tb q.1).length+10≤f+1:=ha
  have hr:q.1.length≤1000:=Nat.le_trans (qDW hi.1) hs
  have htl:=qAC q.1
  unfold sP
  simp only
  have t:=qMw q
  have it:=hi.go t
  have w:=qRJ q
  have iw:=hi.go w
  obtain ⟨n1,h1⟩:=qRr hs q hi.1
  obtain ⟨n2,h2⟩:=qQE hs (tb q.1,q.2) it.1
  obtain ⟨n3,h3⟩:=srp (tb q.1) (by omega)
  obtain ⟨n4,h4⟩:=qHP hs [58] (by simp) (wr (tb q.1),q.2) iw.1
  have eq2:(sIs [58] (wr (tb q.1),q.2)).2.2=q.2:=by
   cases c:(sIs [58] (wr (tb q.1),q.2)).1 with
   |true=>obtain ⟨_,e,_⟩:=qLc c;rw [e]
   |false=>rw [qRK c]
  by_cases hc:(qA6 (BR (wd (tb q.1)))).2.2.2.2=true∧(sIs [58] (wr (tb q.1),q.2)).1=true
  ·rw [if_pos hc]
   have g:=w.trans (qFD (by simp) hc.2)
   have ig:=hi.go g
   have rg:=qB3 g
   generalize sIs [58] (wr (tb q.1),q.2)=I at*
   have gt:=qMw I.2
   have gw:=qRJ I.2
   have il:=qAC I.2.1
   obtain ⟨n5,h5⟩:=qRr hs I.2 ig.1
   obtain ⟨n6,h6⟩:=qQE hs (tb I.2.1,I.2.2) (ig.go gt).1
   obtain ⟨n7,h7⟩:=srp (tb I.2.1) (by omega)
   cases hp:(qA6 (BR (wd (tb I.2.1)))).2.2.2.2 with
   |true=>
    rw [if_pos rfl]
    obtain ⟨n8,h8⟩:=qKh (s:=s) (ndA (qA6 (BR (wd (tb q.1)))) (qA6 (BR (wd (tb I.2.1))))) (wr (tb I.2.1),I.2.2) (by have:=(ig.go gw).2;simp only at this⊢;omega) ⟨by simp [kd,ndA],by simp [ndA,em];decide⟩
    refine ⟨n1+n2+n3+n4+n5+n6+n7+n8+1,fun n hn=>?_⟩
    obtain ⟨k,rfl,hm⟩:=up1 hn
    exact qA (h1 k (by omega)) (qA (h2 k (by omega)) (qA (h3 k (by omega)) (qD hc.1 (qA (h4 k (by omega)) (qD hc.2 (qA (h5 k (by omega)) (qA (h6 k (by omega)) (qA (h7 k (by omega)) (qO (qAv hp) (qA (h8 k (by omega)) rfl))))))))))
   |false=>
    rw [if_neg (by simp)]
    refine ⟨n1+n2+n3+n4+n5+n6+n7+1,fun n hn=>?_⟩
    obtain ⟨k,rfl,hm⟩:=up1 hn
    exact qA (h1 k (by omega)) (qA (h2 k (by omega)) (qA (h3 k (by omega)) (qD hc.1 (qA (h4 k (by omega)) (qD hc.2 (qA (h5 k (by omega)) (qA (h6 k (by omega)) (qA (h7 k (by omega)) (qD (qCu hp) rfl)))))))))
  ·rw [if_neg hc]
   obtain ⟨n5,h5⟩:=qFU H hs f (.row 1) (tb q.1,q.2) ⟨by simp only [qCe];omega,by omega,by omega⟩ it trivial
   refine ⟨n1+n2+n3+n4+n5+1,fun n hn=>?_⟩
   obtain ⟨k,rfl,hm⟩:=up1 hn
   cases hp:(qA6 (BR (wd (tb q.1)))).2.2.2.2 with
   |true=>
    have ht:(sIs [58] (wr (tb q.1),q.2)).1=false:=by rw [Bool.eq_false_iff];exact fun e=>hc ⟨hp,e⟩
    have h4:=h4 k (by omega)
    have e4:qC1 s (sIs [58] (wr (tb q.1),q.2)).2=(BR s,pos s (sIs [58] (wr (tb q.1),q.2)).2.1,q.2.1,q.2.2.length,q.2.2.map qW):=by unfold qC1;rw [eq2]
    rw [e4] at h4
    exact qA (h1 k (by omega)) (qA (h2 k (by omega)) (qA (h3 k (by omega)) (qD hp (qA h4 (qO ht (qA (h5 k (by omega)) rfl))))))
   |false=>exact qA (h1 k (by omega)) (qA (h2 k (by omega)) (qA (h3 k (by omega)) (qO hp (qA (h5 k (by omega)) rfl))))
theorem qTq {w:List UInt8} (h:w.all wch=true) (hn:w≠ []):(qBN (BR w)).1=1∨(qBN (BR w)).1=3:=by
 cases w with
 |nil=>exact absurd rfl hn
 |cons c t=>
  simp only [List.all_cons,Bool.and_eq_true] at h
  have h39:¬(c::t).head?=some 39:=by
   intro e;simp at e;rw [e] at h;exact absurd h.1 (by decide)
  have h35:¬(c::t).head?=some 35:=by
   intro e;simp at e;rw [e] at h;exact absurd h.1 (by decide)
  unfold qBN
  rw [qAS,if_neg h39]
  split
  ·exact .inr rfl
  ·split
   ·exact .inr rfl
   ·exact .inl rfl
theorem qVM:RdOK where
 v:=fun w h hn ho=>by
  have c:=qTq h hn
  unfold qi at ho⊢
  split at ho
  ·rename_i hc;rw [if_pos hc];exact c
  ·cases ho
 v0:=by
  have:(qi (BR [])).1=0:=by
   have:(qi ⟨#[]⟩).1=0:=by decide+kernel
   exact this
  rw [this];decide
 p0:=by
  have:(qA6 ⟨#[]⟩).2.2.2.2=false:=by decide+kernel
  exact this
 f:=fun w op h=>by
  have t:∀a:Fin 10,(qi (fnS (((a.val:Nat):Int)+1))).2.2.2=false∧(qA6 (fnS (((a.val:Nat):Int)+1))).2.2.2.2=false:=by decide+kernel
  have e:∀(k:Nat) (i:Int),1≤i→i+k≤11→qGW w i k=some op→∃j:Int,1≤j∧j≤10∧(fnS j).toList=w:=by
   intro k
   induction k with
   |zero=>intro i _ _ h;cases h
   |succ k ih=>
    intro i h1 h2 h
    unfold qGW at h
    split at h
    ·rename_i hq;exact ⟨i,h1,by omega,hq⟩
    ·exact ih (i+1) (by omega) (by omega) h
  obtain ⟨j,j1,j2,rfl⟩:=e 10 1 (by omega) (by omega) h
  rw [qIj]
  have:=t ⟨(j-1).toNat,by omega⟩
  simp only at this
  rwa [show (((j-1).toNat:Nat):Int)+1=j by omega] at this
 f0:=by decide+kernel
 n:=fun n hn=>by
  have c:n=1∨n=2∨n=3∨n=4∨n=5:=by omega
  rcases c with rfl|rfl|rfl|rfl|rfl
  ·exact ⟨[68,73,86,33],by decide+kernel⟩
  ·exact ⟨[84,89,80,69,33],by decide+kernel⟩
  ·exact ⟨[82,69,70,33],by decide+kernel⟩
  ·exact ⟨[79,86,69,82,33],by decide+kernel⟩
  ·exact ⟨[67,89,67,76,69,33],by decide+kernel⟩
def qRM (s:ByteArray):PS:=(pP 4050 (.bin 1 0) (s.toList,false,[])).2
def qA7 (s:ByteArray):List Nd×Bool:=
 if qCy s 200=true∧(qRM s).2.1=false∧tb (qRM s).1= []∧qEe (qRM s).2.2=true then ((qRM s).2.2,true) else ([],false)
theorem qKv {s:ByteArray} (h:qCy s 200=true):s.toList.length≤200:=by
 unfold qCy at h
 simp only [Bool.and_eq_true,decide_eq_true_eq] at h
 rw [qAT];omega
theorem qS1 {s:ByteArray} (h:qCy s 200=true):Gd (s.toList,false,[]):=⟨by have:=qKv h;simp only;omega,by simp,fun x hx=>by cases hx⟩
theorem qIk {l:List Nd} (h:∀x∈l,qO2 x):∀c∈l,(kd c).length≤140737488351232∧c.2.2.2.2.1.size≤140737488351232:=fun c hc=>by
 have:=h c hc
 exact ⟨by have:=this.1;omega,by have:=this.2;omega⟩
theorem qGP (s:ByteArray) (hb:s.size≤140737488351232):Ev (qDP · s) ((qA7 s).1.map qW,(qA7 s).2):=by
 obtain ⟨n1,h1⟩:=qKU s 200 hb
 by_cases hp:qCy s 200=true
 ·have hl:=qKv hp
  have htb:=qAC s.toList
  have hg:=qS1 hp
  obtain ⟨n2,h2⟩:=qFT 4050 (.bin 1 0) (s.toList,false,[]) (by show 20*(tb s.toList).length+6≤4050;omega) ⟨by decide,by decide⟩ hg trivial
  have g:=(qFI 4050 (.bin 1 0) (s.toList,false,[]) hg trivial).1
  have e0:(pP 4050 (.bin 1 0) (s.toList,false,[])).2=qRM s:=rfl
  rw [e0] at g
  generalize pP 4050 (.bin 1 0) (s.toList,false,[])=P at h2 e0
  rw [qIj] at h2
  unfold qA7
  rw [←e0] at g⊢
  obtain ⟨n3,h3⟩:=qHn P.2.1 P.2.2.2.length P.2.2.1 (P.2.2.2.map qW)
  obtain ⟨n4,h4⟩:=qHm P.2.2.2 (by have:=g.n;omega) (qIk g.s)
  refine ⟨n1+n2+n3+n4+1,fun n hn=>?_⟩
  obtain ⟨k,rfl,hm⟩:=up1 hn
  have h1:=h1 k (by omega)
  rw [hp] at h1
  refine qA h1 (qO rfl (qA (h2 k (by omega)) (qA (h3 k (by omega)) ?_)))
  by_cases hbad:P.2.2.1=true
  ·rw [if_neg (fun h=>by rw [hbad] at h;cases h.2.1)]
   exact qD hbad (qD rfl rfl)
  ·have hbad:P.2.2.1=false:=by rw [Bool.eq_false_iff];exact hbad
   refine qO hbad ?_
   by_cases hr:tb P.2.1= []
   ·refine qO (qAv (by rw [beq_iff_eq,qAG];show (BR (tb P.2.1)).toList= [];rw [qAS];exact hr)) (qD (decide_eq_true (by simp)) (qA (h4 k (by omega)) (qD (qF _) ?_)))
    cases ho:qEe P.2.2.2 with
    |true=>
     rw [if_pos ⟨hp,hbad,hr,rfl⟩]
     exact qO rfl (qD (decide_eq_true (by simp)) rfl)
    |false=>
     rw [if_neg (fun h=>by cases h.2.2.2)]
     exact qD rfl (qD rfl rfl)
   ·rw [if_neg (fun h=>hr h.2.2.1)]
    exact qD (qCu (by rw [beq_eq_false_iff_ne,qAG];show (BR (tb P.2.1)).toList≠ [];rw [qAS];exact hr)) (qD rfl rfl)
 ·refine ⟨n1+1,fun n hn=>?_⟩
  obtain ⟨k,rfl,hm⟩:=up1 hn
  unfold qA7
  rw [if_neg (fun h=>hp h.1)]
  exact qA (h1 k (by omega)) (qD (qCu (by rw [Bool.eq_false_iff];exact hp)) (qD rfl rfl))
theorem qTr {l:List Nd} (h:∃x∈l,qFH x=false):qEe l=false:=by
 obtain ⟨x,hx,hb⟩:=h
 rw [Bool.eq_false_iff]
 intro ho
 unfold qEe at ho
 simp only [Bool.and_eq_true] at ho
 obtain ⟨i,hi⟩:=List.mem_iff_getElem?.1 hx
 have hil:=(List.getElem?_eq_some_iff.1 hi).1
 have:=(qFo.1 ho.2.1 (i:Int) (by omega) (by omega)).1
 unfold qGV at this
 have e:ndi l (i:Int)=x:=by unfold ndi;simp [hi]
 rw [e,hb] at this
 cases this
theorem qGQ (s:ByteArray) (hb:s.size≤140737488351232):Ev (qDL · s) ((qA7 s).1.map qW,(qA7 s).2):=by
 obtain ⟨n1,h1⟩:=qJX s hb
 by_cases hp:qCy s 200=true
 ·have hl:=qKv hp
  have hs:s.toList.length≤1000:=by omega
  have htb:=qAC s.toList
  have hg:=qS1 hp
  have gi:=(qFI 4050 (.bin 1 0) (s.toList,false,[]) hg trivial).1
  have sim:=(qUp qVM (tb s.toList).length).2.2.1 (s.toList,false,[]) (s.toList,false,[]) 0 4 4050 4050 (by omega) ⟨rfl,rfl,rfl,rfl⟩ rfl (by omega) (by omega) (by omega) (by omega)
  rw [show (5:Int)-((4:Nat):Int)=1 from rfl] at sim
  have iv:Iv s.toList (s.toList,false,[]):=⟨List.suffix_rfl,by simp;omega⟩
  obtain ⟨n2,h2⟩:=qFU qVM hs 4050 (.row 1) (s.toList,false,[]) ⟨by simp only;omega,by omega,by omega⟩ iv trivial
  have g:=qFJ qVM 4050 (.row 1) (s.toList,false,[]) hs trivial
  have e0:(pP 4050 (.bin 1 0) (s.toList,false,[])).2=qRM s:=rfl
  generalize pP 4050 (.bin 1 0) (s.toList,false,[])=P at sim e0 gi
  generalize sP 4050 (.row 1) (s.toList,false,[])=Q at sim h2 g
  unfold qA7
  rw [←e0]
  obtain ⟨n3,h3⟩:=qRr hs Q.2 (iv.go g).1
  obtain ⟨n4,h4⟩:=qFB Q.2.2.2 (qIk (g.sm (fun x hx=>by cases hx)))
  have p0:pos s.toList s.toList=0:=by unfold pos;simp
  simp only [qIj,p0] at h2 h3
  have g2:=(qS0 (iv.go g).1)
  refine ⟨n1+n2+n3+n4+1,fun n hn=>?_⟩
  obtain ⟨k,rfl,hm⟩:=up1 hn
  have h1:=h1 k (by omega)
  rw [hp] at h1
  have h2:=h2 k (by omega)
  have h3:=h3 k (by omega)
  have e1:qCf s.toList Q=(Q.1,s,pos s.toList Q.2.1,Q.2.2.1,Q.2.2.2.length,Q.2.2.2.map qW):=by unfold qCf qC1;rw [qIj]
  have e2:qC1 s.toList (tb Q.2.1,Q.2.2)=(s,pos s.toList (tb Q.2.1),Q.2.2.1,Q.2.2.2.length,Q.2.2.2.map qW):=by unfold qC1;rw [qIj]
  rw [e1] at h2
  rw [e2] at h3
  refine qA h1 (qO rfl (qA h2 (qA h3 ?_)))
  rcases sim with ⟨_,hk,_⟩|⟨hbad,hd⟩
  ·obtain ⟨k1,k2,k3,k4⟩:=hk
   rw [k1,k3,k4]
   refine qO k2 ?_
   by_cases hr:tb Q.2.1= []
   ·refine qO (decide_eq_false (show ¬pos s.toList (tb Q.2.1)<(s.size:Int) by rw [hr];unfold pos;simp [qAT])) (qD (decide_eq_true (by simp)) (qA (h4 k (by omega)) (qD (qF _) ?_)))
    cases ho:qEe Q.2.2.2 with
    |true=>
     rw [if_pos ⟨hp,rfl,hr,rfl⟩]
     exact qO rfl (qD (decide_eq_true (by simp)) rfl)
    |false=>
     rw [if_neg (fun h=>by cases h.2.2.2)]
     exact qD rfl (qD rfl rfl)
   ·rw [if_neg (fun h=>hr h.2.2.1)]
    have hlp:=List.length_pos_iff.2 hr
    have hsl:=qDW g2
    exact qD (decide_eq_true (show pos s.toList (tb Q.2.1)<(s.size:Int) by rw [qAT] at hsl;unfold pos;rw [qAT];omega)) (qD rfl rfl)
  ·rw [if_neg (fun h=>by
    rcases hd with hd|hd
    ·rw [hd] at h;cases h.2.1
    ·rw [qTr hd] at h;cases h.2.2.2)]
   exact qD hbad (qD rfl rfl)
 ·refine ⟨n1+1,fun n hn=>?_⟩
  obtain ⟨k,rfl,hm⟩:=up1 hn
  unfold qA7
  rw [if_neg (fun h=>hp h.1)]
  exact qA (h1 k (by omega)) (qD (qCu (by rw [Bool.eq_false_iff];exact hp)) (qD rfl rfl))
theorem qKj (s:ByteArray):(qA7 s).1.length≤60∧∀x∈(qA7 s).1,qO2 x:=by
 unfold qA7
 split
 ·rename_i h
  have g:=(qFI 4050 (.bin 1 0) (s.toList,false,[]) (qS1 h.1) trivial).1
  exact ⟨g.n,g.s⟩
 ·exact ⟨by simp,fun x hx=>by cases hx⟩
theorem qQI:∀(l:List UInt8) (acc:Nat) {u:Nat},l.all qBD=true→Lib.parseUintM (2^64-1) acc l= .ok u→u=qAh acc l
 | [],acc,u,_,h=>by simp only [Lib.parseUintM] at h;cases h;rfl
 |c::r,acc,u,hd,h=>by
  simp only [List.all_cons,Bool.and_eq_true] at hd
  have hc:=hd.1
  simp only [qBD,Bool.and_eq_true,decide_eq_true_eq] at hc
  unfold Lib.parseUintM at h
  rw [qD2]
  rw [if_pos hc] at h
  by_cases h1:1844674407370955162≤acc
  ·rw [if_pos h1] at h;cases h
  ·rw [if_neg h1] at h
   by_cases h2:2^64-1<acc*10+(c.toNat-48)
   ·rw [if_pos h2] at h;cases h
   ·rw [if_neg h2] at h
    exact qQI r _ hd.2 h
theorem qS2 {p:UInt8→Bool}:∀l:List UInt8,(l.dropWhile p= [])↔l.all p=true
 | []=>by simp
 |c::r=>by
  rw [List.dropWhile_cons,List.all_cons]
  by_cases h:p c=true
  ·rw [if_pos h,h,Bool.true_and];exact qS2 r
  ·rw [if_neg h];simp [h]
theorem qTU {p:UInt8→Bool}:∀(l:List UInt8) {a:UInt8} {r:List UInt8},l.dropWhile p=a::r→p a=false
 | [],a,r,h=>by simp at h
 |c::l,a,r,h=>by
  rw [List.dropWhile_cons] at h
  by_cases hc:p c=true
  ·rw [if_pos hc] at h;exact qTU l h
  ·rw [if_neg hc] at h
   cases h
   rw [Bool.eq_false_iff];exact hc
theorem qUL:∀i:Fin 256,((⟨#[48,49,50,51,52,53,54,55,56,57]⟩:ByteArray).data.toList.contains (UInt8.ofNat i.val))=qBD (UInt8.ofNat i.val):=by decide+kernel
theorem qSX {p:UInt8→Bool} {t:List UInt8}:((t.reverse.dropWhile p).reverse.dropWhile p= [])↔t.all p=true:=by
 rw [qS2]
 constructor
 ·intro h
  cases hx:t.reverse.dropWhile p with
  |nil=>
   rw [qS2] at hx
   rw [List.all_eq_true] at hx⊢
   exact fun x hx'=>hx x (by simpa using hx')
  |cons a r=>
   rw [List.all_eq_true] at h
   have h1:=h a (by rw [hx];simp)
   rw [qTU _ hx] at h1
   cases h1
 ·intro h
  rw [List.all_eq_true] at h⊢
  intro x hx
  rw [List.mem_reverse] at hx
  exact h x (by simpa using (List.dropWhile_suffix p).subset hx)
def qHT (s:List UInt8):List UInt8:=if s.head?=some 45 then s.tail else s
def qKk (s:List UInt8):Int:=if s.head?=some 45 then-((qAh 0 (qHT s):Nat):Int) else ((qAh 0 (qHT s):Nat):Int)
def qQv (s:List UInt8):Bool:=decide (qHT s≠ [])&&(qHT s).all qBD
def qFE (s:List UInt8):Bool:=qQv s&&okV 1 (qKk s) em
theorem qUM (s:List UInt8):(qHT s).length≤s.length:=by unfold qHT;split<;>simp
theorem qSY (s:List UInt8) (h:s.length≤1000):Ev (qER · (BR s)) (qQv s):=by
 refine ⟨10,fun n hn=>?_⟩
 obtain ⟨k,rfl⟩:∃k,n=k+5:=⟨n-5,by omega⟩
 have tp:qDs (k+4) (BR s) ⟨#[45]⟩=some (BR (qHT s)):=by
  have hp:qAD (k+2) (BR s) ⟨#[45]⟩=some (List.isPrefixOf [45] s):=by
   have:=qBf (k+1) s [45]
   simp only [ql,qCG,qC,qE,qG,qH,qJ,qK,Option.bind_some,qF,qM,qN] at this
   have e:∀o:Option Bool,(o.bind fun x=>some x)=o:=fun o=>by cases o<;>rfl
   rw [e] at this
   exact this
  have inner:qBV (k+3) (BR s) ⟨#[45]⟩=some (BR (qHT s)):=by
   by_cases hh:s.head?=some 45
   ·rw [(qFC 45 s).2 hh] at hp
    obtain ⟨t,rfl⟩:=qKs hh
    unfold qHT
    rw [if_pos hh]
    refine qA hp (qD rfl (qD (decide_eq_true ⟨by decide,by rw [qc];show (1:Int)≤_;simp;omega,Int.le_refl _⟩) ?_))
    rw [qC]
    show some ((BR (45::t)).extract 1 ((((BR (45::t)).size:Nat):Int)).toNat)=_
    rw [qFS,qc]
    simp
   ·have e:List.isPrefixOf [45] s=false:=by rw [Bool.eq_false_iff];exact fun e=>hh ((qFC 45 s).1 e)
    rw [e] at hp
    unfold qHT
    rw [if_neg hh]
    exact qA hp (qO rfl rfl)
  exact qA inner rfl
 have tl:=qUM s
 unfold qQv
 generalize qHT s=t at tp tl⊢
 refine qA tp ?_
 by_cases ht:t= []
 ·subst ht
  refine qO (qAv (by rw [qAS,qAG];rfl)) ?_
  rfl
 ·refine qD (qCu (by rw [beq_eq_false_iff_ne,qAS,qAG];exact ht)) ?_
  have tr:qHC (k+4) (BR t) ⟨#[48,49,50,51,52,53,54,55,56,57]⟩=some (BR (((t.reverse.dropWhile qBD).reverse).dropWhile qBD)):=by
   show zAF (BR t) ⟨#[48,49,50,51,52,53,54,55,56,57]⟩=_
   unfold zAF
   rw [if_pos ⟨by rw [qc];omega,by decide,by decide+kernel⟩]
   unfold Lib.trimS Lib.trimLeftS Lib.trimRightS
   have:(fun c=>(⟨#[48,49,50,51,52,53,54,55,56,57]⟩:ByteArray).data.toList.contains c)=qBD:=funext (qSx qUL)
   rw [this,←Go.Lib.toList_data (BR t),qAS]
   rfl
  refine qA tr ?_
  rw [qC]
  congr 1
  have dt:decide (t≠ [])=true:=decide_eq_true ht
  rw [dt,Bool.true_and,qAS,qAG]
  by_cases ha:t.all qBD=true
  ·rw [qSX.2 ha,ha];rfl
  ·have hx:¬(t.reverse.dropWhile qBD).reverse.dropWhile qBD= []:=fun e=>ha (qSX.1 e)
   rw [beq_eq_false_iff_ne.2 hx,Bool.eq_false_iff.2 ha]
theorem qVN {n:Int}:okV 1 n em=true↔-1000000000000000≤n∧n≤1000000000000000:=by
 simp [okV,em,qAG]
theorem qNv {s:List UInt8} (h:qQv s=true):(∀n,Lib.parseIntB 64 s= .ok n→n=qKk s)∧(qFE s=true→Lib.parseIntB 64 s= .ok (qKk s)):=by
 have hd:=h
 unfold qQv at hd
 simp only [Bool.and_eq_true,decide_eq_true_eq] at hd
 obtain ⟨h1,h2⟩:=hd
 have p:(2:Nat)^(64-1)=9223372036854775808:=by decide
 have hne:s≠ []:=fun e=>h1 (by rw [e];rfl)
 obtain ⟨c,r,rfl⟩:∃c r,s=c::r:=by
  cases s with
  |nil=>exact absurd rfl hne
  |cons c r=>exact ⟨c,r,rfl⟩
 have c45:(c.toNat=45)↔c=45:=⟨fun e=>UInt8.toNat_inj.1 (show c.toNat=(45:UInt8).toNat from e),fun e=>by rw [e];rfl⟩
 have nt:qHT (c::r)=if c.toNat=43∨c.toNat=45 then r else c::r:=by
  unfold qHT
  by_cases hc:c=45
  ·subst hc;simp
  ·have hc2:¬c.toNat=45:=fun e=>hc (c45.1 e)
   have ht:qHT (c::r)=c::r:=by unfold qHT;rw [if_neg (by simpa using hc)]
   rw [ht] at h2
   simp only [List.all_cons,Bool.and_eq_true,qBD,decide_eq_true_eq] at h2
   rw [if_neg (by simpa using hc),if_neg (by omega)]
 have nv:qKk (c::r)=if c.toNat=45 then-((qAh 0 (qHT (c::r)):Nat):Int) else ((qAh 0 (qHT (c::r)):Nat):Int):=by
  unfold qKk
  by_cases hc:c=45
  ·subst hc;rfl
  ·rw [if_neg (by simpa using hc),if_neg (fun e=>hc (c45.1 e))]
 unfold Lib.parseIntB
 simp only
 rw [←nt]
 unfold Lib.parseUintB
 rw [if_neg h1]
 constructor
 ·intro n hn
  rcases hq:Lib.parseUintM (2^64-1) 0 (qHT (c::r)) with u|_|_
  rotate_left
  ·rw [hq] at hn;cases hn
  ·rw [hq] at hn;cases hn
  ·have hu:=qQI _ 0 h2 hq
   rw [hq] at hn
   simp only at hn
   split at hn
   ·cases hn
   ·split at hn
    ·cases hn
    ·injection hn with hn
     rw [nv,←hu,←hn]
 ·intro ho
  unfold qFE at ho
  simp only [Bool.and_eq_true] at ho
  have hb:=qVN.1 ho.2
  have hv:qAh 0 (qHT (c::r))≤1000000000000000:=by
   rw [nv] at hb
   split at hb<;>omega
  rw [qNh _ 0 h2 (by omega)]
  simp only
  rw [if_neg (by rw [p];omega),if_neg (by rw [p];omega),nv]
def szL:List UInt8→List UInt8
 | []=> []
 |c::t=>if t≠ []∧c=48 then szL t else c::t
theorem qPD:∀l:List UInt8,qAh 0 (szL l)=qAh 0 l
 | []=>rfl
 |c::t=>by
  unfold szL
  split
  ·rename_i h
   rw [qPD t,qD2,h.2]
   rfl
  ·rfl
theorem qRu:∀l:List UInt8,(szL l).all qBD=l.all qBD
 | []=>rfl
 |c::t=>by
  unfold szL
  split
  ·rename_i h
   rw [qRu t,List.all_cons,h.2]
   simp [qBD]
  ·rfl
theorem qU6:∀l:List UInt8,l≠ []→szL l≠ []
 | [],h=>absurd rfl h
 |c::t,_=>by
  unfold szL
  split
  ·rename_i h;exact qU6 t h.1
  ·simp
theorem qRv:∀l:List UInt8,(szL l).head?=some 48→(szL l).length=1
 | [],h=>by cases h
 |c::t,h=>by
  unfold szL at h⊢
  split at h
  ·rename_i hc;rw [if_pos hc];exact qRv t h
  ·rename_i hc
   rw [if_neg hc]
   have h48:c=48:=by simpa using h
   have:t= []:=Classical.byContradiction fun e=>hc ⟨e,h48⟩
   rw [this];rfl
theorem qUN {l:List UInt8} (h:l≠ []):qGN (szL l)=l.all qBD:=by
 unfold qGN
 rw [qRu]
 have h1:(szL l== [])=false:=beq_eq_false_iff_ne.2 (qU6 l h)
 rw [h1]
 by_cases e:(szL l).head?=some 48
 ·rw [qRv l e];simp
 ·rw [beq_eq_false_iff_ne.2 e];simp
theorem qSZ:∀(l:List UInt8) (acc:Nat),acc*10^l.length≤qAh acc l
 | [],acc=>by rw [qHH];simp
 |c::r,acc=>by
  have:=qSZ r (acc*10+(c.toNat-48))
  rw [qD2,List.length_cons,Nat.pow_succ]
  refine Nat.le_trans ?_ this
  rw [show acc*(10^r.length*10)=acc*10*10^r.length by rw [Nat.mul_comm (10^r.length) 10,Nat.mul_assoc]]
  exact Nat.mul_le_mul_right _ (by omega)
theorem qVO {l:List UInt8} (hd:l.all qBD=true) (h:16<(szL l).length):10000000000000000≤qAh 0 l:=by
 rw [←qPD]
 rw [←qRu] at hd
 have hh:=qRv l
 cases hz:szL l with
 |nil=>rw [hz] at h;simp at h
 |cons c r=>
  rw [hz] at h hd hh
  simp only [List.length_cons] at h
  have hc:¬c=48:=fun e=>by
   have:=hh (by rw [e];rfl)
   simp only [List.length_cons] at this
   omega
  simp only [List.all_cons,Bool.and_eq_true,qBD,decide_eq_true_eq] at hd
  have hc2:¬c.toNat=48:=fun e=>hc (UInt8.toNat_inj.1 (show c.toNat=(48:UInt8).toNat from e))
  rw [qD2]
  have a:=qSZ r (0*10+(c.toNat-48))
  have p:10^16≤10^r.length:=Nat.pow_le_pow_right (by decide) (by omega)
  have p16:(10:Nat)^16=10000000000000000:=by decide
  have:1*10^r.length≤(0*10+(c.toNat-48))*10^r.length:=Nat.mul_le_mul_right _ (by omega)
  omega
theorem qMx (n:Nat) (neg:Bool) (a b:Int) (e:ByteArray):∀(l:List UInt8) (M:Nat),l.length≤1000→l.length+1≤M→zD (qBo n) M (BR l,neg,a,b,e)=some (BR (szL l),neg,a,b,e)
 |l,0,_,h=>by omega
 | [],M+1,_,_=>qP (qO (decide_eq_false (show ¬((BR []).size:Int)>1 by rw [qc];decide)) rfl)
 |c::t,M+1,hl,h=>by
  simp only [List.length_cons] at h hl
  unfold szL
  by_cases ht:t= []
  ·rw [if_neg (fun h=>h.1 ht)]
   subst ht
   exact qP (qO (decide_eq_false (show ¬((BR [c]).size:Int)>1 by rw [qc];simp)) rfl)
  ·have hpos:=List.length_pos_iff.2 ht
   have g0:decide (((BR (c::t)).size:Int)>1)=true:=decide_eq_true (by rw [qc];simp only [List.length_cons];omega)
   have g1:(BR (c::t)).toList[((0:Int)).toNat]?=some c:=by rw [qAS];rfl
   by_cases hc:c=48
   ·rw [if_pos ⟨ht,hc⟩]
    subst hc
    rw [qU (v':=(BR t,neg,a,b,e)) (by
     refine qD g0 (qD rfl (qA g1 (qD rfl (qD (decide_eq_true ⟨by decide,by rw [qc];simp only [List.length_cons];omega,Int.le_refl _⟩) ?_))))
     rw [qC]
     show some (Sum.inl ((BR (48::t)).extract 1 ((((BR (48::t)).size:Nat):Int)).toNat,neg,a,b,e))=_
     rw [qFS,qc]
     simp)]
    exact qMx n neg a b e t M (by omega) (by omega)
   ·rw [if_neg (fun h=>hc h.2)]
    refine qP (qD g0 (qD rfl (qA g1 (qO ?_ rfl))))
    rw [beq_eq_false_iff_ne]
    intro e
    exact hc (UInt8.toNat_inj.1 (show c.toNat=48 by omega))
theorem qVP {l:List UInt8} (h:l≠ []):l1I (szL l) 16=if (szL l).length≤16∧l.all qBD=true then (((qAh 0 l:Nat):Int),true) else (0,false):=by
 unfold l1I
 rw [qUN h,qPD]
 by_cases hh:(szL l).length≤16∧l.all qBD=true
 ·rw [if_pos hh,if_pos ⟨by have:=hh.1;omega,hh.2⟩]
 ·rw [if_neg hh,if_neg (fun e=>hh ⟨by have:=e.1;omega,e.2⟩)]
theorem qSa (neg:Bool) (t:List UInt8) (ht:t≠ []) (hl:t.length≤1000):∃r:Int×Int×ByteArray×Bool,(r.2.2.2=(t.all qBD&&okV 1 (if neg=true then-((qAh 0 t:Nat):Int) else ((qAh 0 t:Nat):Int)) em))∧(r.2.2.2=true→r=(1,(if neg=true then-((qAh 0 t:Nat):Int) else ((qAh 0 t:Nat):Int)),em,true))∧
  ∃n0,∀n,n0≤n→∃v:ByteArray×Bool×Int×Int×ByteArray,zD (qBo n) n (BR t,neg,0,0,⟨#[]⟩)=some v∧
   (Tr.opt (qv n v.1 16) fun r221=>(.ask (v.2.1)
    (.ask (r221.2) (.opt (qa n 1 (IntKind.i64.wrap (0-r221.1)) ⟨#[]⟩) fun r222=>(.done ((1:Int),(IntKind.i64.wrap (0-r221.1)),(⟨#[]⟩:ByteArray),r222))) (.done ((1:Int),(IntKind.i64.wrap (0-r221.1)),(⟨#[]⟩:ByteArray),false)))
    (.ask (r221.2) (.opt (qa n 1 r221.1 ⟨#[]⟩) fun r223=>(.done ((1:Int),r221.1,(⟨#[]⟩:ByteArray),r223))) (.done ((1:Int),r221.1,(⟨#[]⟩:ByteArray),false))))).run=some r:=by
 have hi:=qEJ (BR (szL t)) 16 (by decide)
 rw [qAS,qVP ht] at hi
 obtain ⟨n1,h1⟩:=hi
 by_cases hh:(szL t).length≤16∧t.all qBD=true
 ·have hv:qAh 0 t<10^(0+(szL t).length):=by
   have:=qRf (szL t) 0 0 (by rw [qRu];exact hh.2) (by decide)
   rwa [qPD] at this
  have hp:10^(0+(szL t).length)≤10^16:=Nat.pow_le_pow_right (by decide) (by omega)
  have p16:(10:Nat)^16=10000000000000000:=by decide
  have w1:IntKind.i64.wrap (0-((qAh 0 t:Nat):Int))= -((qAh 0 t:Nat):Int):=by rw [qV (by omega)];omega
  cases neg with
  |true=>
   obtain ⟨n2,h2⟩:=qAH 1 (-((qAh 0 t:Nat):Int)) em (by decide)
   refine ⟨(1,-((qAh 0 t:Nat):Int),em,okV 1 (-((qAh 0 t:Nat):Int)) em),by rw [hh.2];simp,fun e=>?_,n1+n2+t.length+1,fun n hn=>⟨_,qMx n true 0 0 _ t n hl (by omega),?_⟩⟩
   ·simp only at e;rw [e];rfl
   ·have h1:=h1 n (by omega)
    rw [if_pos hh] at h1
    have h2:=h2 n (by omega)
    rw [←w1] at h2
    refine qA h1 (qD rfl (qD rfl (qA h2 ?_)))
    rw [qC,w1];rfl
  |false=>
   obtain ⟨n2,h2⟩:=qAH 1 ((qAh 0 t:Nat):Int) em (by decide)
   refine ⟨(1,((qAh 0 t:Nat):Int),em,okV 1 ((qAh 0 t:Nat):Int) em),by rw [hh.2];simp,fun e=>?_,n1+n2+t.length+1,fun n hn=>⟨_,qMx n false 0 0 _ t n hl (by omega),?_⟩⟩
   ·simp only at e;rw [e];rfl
   ·have h1:=h1 n (by omega)
    rw [if_pos hh] at h1
    exact qA h1 (qO rfl (qD rfl (qA (h2 n (by omega)) rfl)))
 ·have hno:(t.all qBD&&okV 1 (if neg=true then-((qAh 0 t:Nat):Int) else ((qAh 0 t:Nat):Int)) em)=false:=by
   rw [Bool.eq_false_iff]
   intro e
   simp only [Bool.and_eq_true] at e
   have hb:=qVN.1 e.2
   have:16<(szL t).length:=by
    have:¬(szL t).length≤16:=fun h=>hh ⟨h,e.1⟩
    omega
   have:=qVO e.1 this
   split at hb<;>omega
  cases neg with
  |true=>
   refine ⟨(1,IntKind.i64.wrap (0-0),em,false),hno.symm,(fun e=>by cases e),n1+t.length+1,fun n hn=>⟨_,qMx n true 0 0 _ t n hl (by omega),?_⟩⟩
   have h1:=h1 n (by omega)
   rw [if_neg hh] at h1
   exact qA h1 (qD rfl (qO rfl rfl))
  |false=>
   refine ⟨(1,0,em,false),hno.symm,(fun e=>by cases e),n1+t.length+1,fun n hn=>⟨_,qMx n false 0 0 _ t n hl (by omega),?_⟩⟩
   have h1:=h1 n (by omega)
   rw [if_neg hh] at h1
   exact qA h1 (qO rfl (qO rfl rfl))
theorem qSb (s:List UInt8) (hs:s≠ []) (hl:s.length≤1000):∃r:Int×Int×ByteArray×Bool,r.2.2.2=qFE s∧(qFE s=true→r=(1,qKk s,em,true))∧Ev (qFw · (BR s)) r:=by
 obtain ⟨c,t,rfl⟩:∃c t,s=c::t:=by
  cases s with
  |nil=>exact absurd rfl hs
  |cons c t=>exact ⟨c,t,rfl⟩
 simp only [List.length_cons] at hl
 have g0:decide (((BR (c::t)).size:Int)>0)=true:=decide_eq_true (by rw [qc];simp only [List.length_cons];omega)
 have g1:(BR (c::t)).toList[((0:Int)).toNat]?=some c:=by rw [qAS];rfl
 by_cases hc:c=45
 ·subst hc
  have ext:(BR (45::t)).extract ((1:Int)).toNat ((((BR (45::t)).size:Nat):Int)).toNat=BR t:=by rw [qFS,qc];simp
  have g2:decide (0≤(1:Int)∧(1:Int)≤((BR (45::t)).size:Int)∧((BR (45::t)).size:Int)≤((BR (45::t)).size:Int))=true:=decide_eq_true ⟨by decide,by rw [qc];simp only [List.length_cons];omega,Int.le_refl _⟩
  have nt:qHT (45::t)=t:=rfl
  have nv:qKk (45::t)= -((qAh 0 t:Nat):Int):=rfl
  by_cases ht:t= []
  ·subst ht
   refine ⟨(0,0,⟨#[]⟩,false),by decide+kernel,(fun e=>by revert e;decide+kernel),1,fun n hn=>?_⟩
   obtain ⟨k,rfl,hm⟩:=up1 hn
   exact qD g0 (qD rfl (qA g1 (qD rfl (qD g2 (qD (by rw [ext,qAS,qAG];rfl) rfl)))))
  ·obtain ⟨r,r1,r2,n0,h0⟩:=qSa true t ht (by omega)
   have e:qFE (45::t)=(t.all qBD&&okV 1 (-((qAh 0 t:Nat):Int)) em):=by
    unfold qFE qQv
    rw [nt,nv,decide_eq_true ht,Bool.true_and]
   rw [if_pos rfl] at r1 r2
   refine ⟨r,by rw [e];exact r1,fun h=>by rw [nv];exact r2 (by rw [r1,←e];exact h),n0+1,fun n hn=>?_⟩
   obtain ⟨k,rfl,hm⟩:=up1 hn
   obtain ⟨v,lp,fin⟩:=h0 k (by omega)
   rw [←ext] at lp
   exact qD g0 (qD rfl (qA g1 (qD rfl (qD g2 (qO (by rw [ext,beq_eq_false_iff_ne,qAS,qAG];exact ht) (qA lp fin))))))
 ·have c45:((c.toNat:Int)==45)=false:=by
   rw [beq_eq_false_iff_ne];intro e
   exact hc (UInt8.toNat_inj.1 (show c.toNat=45 by omega))
  have hh:¬(c::t).head?=some 45:=by simpa using hc
  have nt:qHT (c::t)=c::t:=by unfold qHT;rw [if_neg hh]
  have nv:qKk (c::t)=((qAh 0 (c::t):Nat):Int):=by unfold qKk;rw [if_neg hh,nt]
  obtain ⟨r,r1,r2,n0,h0⟩:=qSa false (c::t) (by simp) (by simp only [List.length_cons];omega)
  have e:qFE (c::t)=((c::t).all qBD&&okV 1 (((qAh 0 (c::t):Nat):Int)) em):=by
   unfold qFE qQv
   rw [nt,nv,decide_eq_true (by simp),Bool.true_and]
  rw [if_neg (by simp)] at r1 r2
  refine ⟨r,by rw [e];exact r1,fun h=>by rw [nv];exact r2 (by rw [r1,←e];exact h),n0+1,fun n hn=>?_⟩
  obtain ⟨k,rfl,hm⟩:=up1 hn
  obtain ⟨v,lp,fin⟩:=h0 k (by omega)
  rw [←c45] at lp
  exact qD g0 (qD rfl (qA g1 (qO c45 (qO (by rw [beq_eq_false_iff_ne,qAS,qAG];simp) (qA lp fin)))))
def qGD (s:ByteArray):ByteArray×Bool:=
 if qCy s 200=false then (⟨#[]⟩,false) else if s.toList= [] then (⟨#[]⟩,true) else
 if s.toList.head?=some 61 then (if (qA7 (BR s.toList.tail)).2=true∧(qDI (qA7 (BR s.toList.tail)).1).toList≠ []∧(qDI (qA7 (BR s.toList.tail)).1).size<200 then (⟨#[61]⟩++qDI (qA7 (BR s.toList.tail)).1,true) else (⟨#[]⟩,false)) else
 if qFE s.toList=true then (qHR (qKk s.toList),true) else
 if (qi s).2.2.2=true then (s,true) else
 if s.size=200 then (⟨#[]⟩,false) else (⟨#[39]⟩++s,true)
theorem qS3 (t:ByteArray):Ev (qBn · ((qA7 t).1.map qW)) (qDI (qA7 t).1):=qLL _ (by have:=(qKj t).1;omega) (qIk (qKj t).2)
theorem qS4 (t:ByteArray):Ev (qBu · ((qA7 t).1.map qW)) (qDI (qA7 t).1):=qLM _ (by have:=(qKj t).1;omega) (qIk (qKj t).2)
theorem qQJ (l:List Nd):(qDI l).size≤200:=by
 unfold qDI
 split
 ·split
  ·decide
  ·omega
 ·decide
theorem qFF {s:ByteArray} (h:s.toList≠ []):(s.toList==(⟨#[]⟩:ByteArray).toList)=false:=by rw [qAG];exact beq_eq_false_iff_ne.2 h
theorem qOB {s:ByteArray} (h:s.toList= []):(s.toList==(⟨#[]⟩:ByteArray).toList)=true:=by rw [qAG];exact beq_iff_eq.2 h
theorem qSc {s:ByteArray} (h:(qi s).2.2.2=true):okV (qi s).1 (qi s).2.1 (qi s).2.2.1=true∧(qCJ (qi s).1 (qi s).2.1 (qi s).2.2.1)=s:=by
 unfold qi at h⊢
 split at h
 ·rename_i hc
  rw [if_pos hc]
  exact ⟨hc.1,qE7 hc.2⟩
 ·cases h
theorem qVn {s:ByteArray} (h:qCy s 200=true):okV 2 0 s=true:=by
 unfold okV
 rw [if_pos rfl,h]
 rfl
theorem qMC {s:ByteArray} (h:qCy s 200=true):s.size≤200:=by have:=qKv h;rw [qAT] at this;exact this
theorem qUO (s:ByteArray):(qCJ 2 0 s).size=s.size+1:=by
 have e:qCJ 2 0 s=⟨#[39]⟩++s:=rfl
 rw [e,ByteArray.size_append]
 show 1+s.size=_
 omega
theorem qTs {s:ByteArray} (h:(qi s).2.2.2=true):(qi s).2.2.1.size≤1000:=by
 obtain ⟨h1,h2⟩:=qSc h
 unfold okV at h1
 split at h1
 ·simp only [Bool.and_eq_true] at h1
  have:=qMC h1.2;omega
 ·simp only [Bool.and_eq_true,beq_iff_eq] at h1
  have:=congrArg List.length h1.1
  rw [qAT] at this
  simp only [List.length_nil] at this
  omega
theorem qO3 (s:ByteArray) (hb:s.size≤140737488355328):Ev (qEs · s) (qGD s):=by
 obtain ⟨n1,h1⟩:=qIa s hb
 unfold qGD
 cases hp:qCy s 200 with
 |false=>
  rw [if_pos rfl]
  refine ⟨n1+1,fun n hn=>?_⟩
  obtain ⟨k,rfl,hm⟩:=up1 hn
  exact qA (h1 k (by omega)) (qD (qCu hp) rfl)
 |true=>
  rw [if_neg (by simp)]
  have hsz:=qMC hp
  by_cases h0:s.toList= []
  ·rw [if_pos h0]
   refine ⟨n1+1,fun n hn=>?_⟩
   obtain ⟨k,rfl,hm⟩:=up1 hn
   exact qA (h1 k (by omega)) (qO (qAv hp) (qD (qOB h0) rfl))
  ·rw [if_neg h0]
   obtain ⟨c,t,hct⟩:∃c t,s.toList=c::t:=by
    cases h:s.toList with
    |nil=>exact absurd h h0
    |cons c t=>exact ⟨c,t,rfl⟩
   have g1:s.toList[((0:Int)).toNat]?=some c:=by rw [hct];rfl
   have hl:s.size=t.length+1:=by rw [←qAT,hct];rfl
   by_cases h61:s.toList.head?=some 61
   ·rw [if_pos h61]
    have hc:c=61:=by rw [hct] at h61;simpa using h61
    subst hc
    have ext:s.extract ((1:Int)).toNat (((s.size:Nat):Int)).toNat=BR s.toList.tail:=by
     conv=>lhs;rw [←qIj s]
     rw [qFS,qc,hct]
     simp
    obtain ⟨n2,h2⟩:=qGQ (BR s.toList.tail) (by rw [qc,hct];simp;omega)
    obtain ⟨n3,h3⟩:=qS3 (BR s.toList.tail)
    rw [←ext] at h2 h3⊢
    have fz:=qQJ (qA7 (s.extract ((1:Int)).toNat (((s.size:Nat):Int)).toNat)).1
    have w1:IntKind.i64.wrap (((qDI (qA7 (s.extract ((1:Int)).toNat (((s.size:Nat):Int)).toNat)).1).size:Int)+1)=((qDI (qA7 (s.extract ((1:Int)).toNat (((s.size:Nat):Int)).toNat)).1).size:Int)+1:=qV (by omega)
    refine ⟨n1+n2+n3+1,fun n hn=>?_⟩
    obtain ⟨k,rfl,hm⟩:=up1 hn
    refine qA (h1 k (by omega)) (qO (qAv hp) (qO (qFF h0) (qD rfl (qA g1 (qD rfl (qD (decide_eq_true ⟨by decide,by omega,Int.le_refl _⟩) (qA (h2 k (by omega)) (qA (h3 k (by omega)) ?_))))))))
    by_cases hr:(qA7 (s.extract ((1:Int)).toNat (((s.size:Nat):Int)).toNat)).2=true
    ·refine qO (qAv hr) ?_
     by_cases he:(qDI (qA7 (s.extract ((1:Int)).toNat (((s.size:Nat):Int)).toNat)).1).toList= []
     ·rw [if_neg (fun h=>h.2.1 he)]
      exact qD (qOB he) rfl
     ·refine qO (qFF he) ?_
      by_cases hz:(qDI (qA7 (s.extract ((1:Int)).toNat (((s.size:Nat):Int)).toNat)).1).size<200
      ·rw [if_pos ⟨hr,he,hz⟩]
       exact qO (decide_eq_false (by rw [w1];omega)) (qD (decide_eq_true (by show 1+(qDI (qA7 (s.extract ((1:Int)).toNat (((s.size:Nat):Int)).toNat)).1).size≤9223372036854775807;omega)) rfl)
      ·rw [if_neg (fun h=>hz h.2.2)]
       exact qD (decide_eq_true (by rw [w1];omega)) rfl
    ·rw [if_neg (fun h=>hr h.1)]
     exact qD (qCu (by rw [Bool.eq_false_iff];exact hr)) rfl
   ·rw [if_neg h61]
    have hc:((c.toNat:Int)==61)=false:=by
     rw [beq_eq_false_iff_ne];intro e
     refine h61 ?_
     rw [hct,show c=61 from UInt8.toNat_inj.1 (show c.toNat=61 by omega)];rfl
    obtain ⟨r,r1,r2,n2,h2⟩:=qSb s.toList h0 (by rw [qAT];omega)
    rw [qIj] at h2
    obtain ⟨n3,h3⟩:=qHl s (by omega)
    cases hn:qFE s.toList with
    |true=>
     rw [if_pos rfl]
     have er:=r2 hn
     subst er
     have hok:okV 1 (qKk s.toList) em=true:=by unfold qFE at hn;simp only [Bool.and_eq_true] at hn;exact hn.2
     obtain ⟨n4,h4⟩:=qDi 1 (qKk s.toList) em (by decide)
     rw [if_pos hok] at h4
     refine ⟨n1+n2+n4+1,fun n hn=>?_⟩
     obtain ⟨k,rfl,hm⟩:=up1 hn
     exact qA (h1 k (by omega)) (qO (qAv hp) (qO (qFF h0) (qD rfl (qA g1 (qO hc (qA (h2 k (by omega)) (qD rfl (qA (h4 k (by omega)) rfl))))))))
    |false=>
     rw [if_neg (by simp)]
     have rf:r.2.2.2=false:=by rw [r1];exact hn
     by_cases hv:(qi s).2.2.2=true
     ·rw [if_pos hv]
      obtain ⟨v1,v2⟩:=qSc hv
      obtain ⟨n4,h4⟩:=qDi (qi s).1 (qi s).2.1 (qi s).2.2.1 (by have:=qTs hv;omega)
      rw [if_pos v1,v2] at h4
      refine ⟨n1+n2+n3+n4+1,fun n hn=>?_⟩
      obtain ⟨k,rfl,hm⟩:=up1 hn
      exact qA (h1 k (by omega)) (qO (qAv hp) (qO (qFF h0) (qD rfl (qA g1 (qO hc (qA (h2 k (by omega)) (qO rf (qA (h3 k (by omega)) (qO (qAv hv) (qA (h4 k (by omega)) (qO (decide_eq_false (by omega)) rfl)))))))))))
     ·rw [if_neg hv]
      obtain ⟨n4,h4⟩:=qDi 2 0 s (by omega)
      rw [if_pos (qVn hp)] at h4
      have vz:=qUO s
      refine ⟨n1+n2+n3+n4+1,fun n hn=>?_⟩
      obtain ⟨k,rfl,hm⟩:=up1 hn
      refine qA (h1 k (by omega)) (qO (qAv hp) (qO (qFF h0) (qD rfl (qA g1 (qO hc (qA (h2 k (by omega)) (qO rf (qA (h3 k (by omega)) (qD (qCu (by rw [Bool.eq_false_iff];exact hv)) (qA (h4 k (by omega)) ?_))))))))))
      by_cases hz:s.size=200
      ·rw [if_pos hz]
       exact qD (decide_eq_true (by omega)) rfl
      ·rw [if_neg hz]
       exact qO (decide_eq_false (by omega)) rfl
theorem qSd (X:ByteArray):Ev (qF4 · ((qA7 X).1.map qW)) (⟨#[61]⟩++qDI (qA7 X).1,decide ((qDI (qA7 X).1).toList≠ [])&&decide ((qDI (qA7 X).1).size<200)):=by
 obtain ⟨n1,h1⟩:=qS4 X
 have fz:=qQJ (qA7 X).1
 refine ⟨n1+1,fun n hn=>?_⟩
 obtain ⟨k,rfl,hm⟩:=up1 hn
 refine qA (h1 k (by omega)) (qD (decide_eq_true (by show 1+(qDI (qA7 X).1).size≤9223372036854775807;omega)) ?_)
 by_cases he:(qDI (qA7 X).1).toList= []
 ·refine qO (qAv (qOB he)) ?_
  rw [qC,decide_eq_false (fun h=>h he),Bool.false_and]
 ·refine qD (qCu (qFF he)) ?_
  rw [qC,decide_eq_true he,Bool.true_and]
  have e:decide (((qDI (qA7 X).1).size:Int)<200)=decide ((qDI (qA7 X).1).size<200):=by rw [decide_eq_decide];omega
  exact congrArg (fun b:Bool=>some ((⟨#[61]⟩:ByteArray)++qDI (qA7 X).1,b)) e
theorem qO4 (s:ByteArray) (hb:s.size≤140737488355328):Ev (qHD · s) (qGD s):=by
 obtain ⟨n1,h1⟩:=qJY s 200 hb
 unfold qGD
 cases hp:qCy s 200 with
 |false=>
  rw [if_pos rfl]
  have h0:s.toList≠ []:=fun e=>by
   have:qCy s 200=true:=by
    unfold qCy
    have hz:s.size=0:=by rw [←qAT,e];rfl
    rw [e,hz];rfl
   rw [hp] at this;cases this
  refine ⟨n1+1,fun n hn=>?_⟩
  obtain ⟨k,rfl,hm⟩:=up1 hn
  refine qA (h1 k (by omega)) (qD (qCu hp) ?_)
  rw [qC,qFF h0]
 |true=>
  rw [if_neg (by simp)]
  have hsz:=qMC hp
  by_cases h0:s.toList= []
  ·rw [if_pos h0]
   refine ⟨n1+1,fun n hn=>?_⟩
   obtain ⟨k,rfl,hm⟩:=up1 hn
   refine qA (h1 k (by omega)) (qO (qAv hp) (qD (qOB h0) ?_))
   rw [qC,qOB h0]
  ·rw [if_neg h0]
   obtain ⟨n2,h2⟩:=qFA s 61
   by_cases h61:s.toList.head?=some 61
   ·rw [if_pos h61]
    rw [if_pos h61] at h2
    obtain ⟨n3,h3⟩:=qGP (BR s.toList.tail) (by rw [qc,List.length_tail,qAT];omega)
    obtain ⟨n4,h4⟩:=qSd (BR s.toList.tail)
    change ∀n,n2≤n→qw n s ⟨#[61]⟩=some (BR s.toList.tail,true) at h2
    generalize BR s.toList.tail=X at h2 h3 h4⊢
    refine ⟨n1+n2+n3+n4+1,fun n hn=>?_⟩
    obtain ⟨k,rfl,hm⟩:=up1 hn
    have h4:=h4 k (by omega)
    refine qA (h1 k (by omega)) (qO (qAv hp) (qO (qFF h0) (qA (h2 k (by omega)) (qD rfl (qA (h3 k (by omega)) (qA h4 ?_))))))
    by_cases hr:(qA7 X).2=true
    ·refine qO (qAv hr) ?_
     by_cases he:(qDI (qA7 X).1).toList≠ []∧(qDI (qA7 X).1).size<200
     ·rw [if_pos ⟨hr,he⟩]
      exact qO (qAv (by simp only;rw [decide_eq_true he.1,decide_eq_true he.2];rfl)) rfl
     ·rw [if_neg (fun h=>he h.2)]
      exact qD (qCu (by simp only;rw [Bool.eq_false_iff];intro e;simp only [Bool.and_eq_true,decide_eq_true_eq] at e;exact he e)) rfl
    ·rw [if_neg (fun h=>hr h.1)]
     exact qD (qCu (by rw [Bool.eq_false_iff];exact hr)) rfl
   ·rw [if_neg h61]
    rw [if_neg h61] at h2
    obtain ⟨n3,h3⟩:=qHk s (by omega)
    obtain ⟨n4,h4⟩:=qSY s.toList (by rw [qAT];omega)
    rw [qIj] at h4
    have fin:∀k,n3≤k→(Tr.opt (qe k s) fun r=>(.ask (r.2.2.2) (.done (s,true)) (.ask (((s.size:Int)==(200:Int))) (.done ((⟨#[]⟩:ByteArray),false)) (.ask (decide ((⟨#[39]⟩:ByteArray).size+s.size≤9223372036854775807)) (.done (((⟨#[39]⟩:ByteArray)++s),true)) .fail)))).run=some (if (qi s).2.2.2=true then (s,true) else if s.size=200 then ((⟨#[]⟩:ByteArray),false) else (⟨#[39]⟩++s,true)):=fun k hk=>by
     refine qA (h3 k hk) ?_
     by_cases hv:(qi s).2.2.2=true
     ·rw [if_pos hv];exact qD hv rfl
     ·rw [if_neg hv]
      refine qO (by rw [Bool.eq_false_iff];exact hv) ?_
      by_cases hz:s.size=200
      ·rw [if_pos hz];exact qD (beq_iff_eq.2 (by omega)) rfl
      ·rw [if_neg hz]
       exact qO (beq_eq_false_iff_ne.2 (by omega)) (qD (decide_eq_true (by show 1+s.size≤9223372036854775807;omega)) rfl)
    have hpi:∀k,qA2 (k+1) s 10 64=zK s 10 64:=fun k=>rfl
    have hL:zK s 10 64=(match Lib.parseIntB 64 s.toList with
     | .ok v=>some (.inl v)
     | .range=>some (.inr (Lib.intSat 64 s.toList))
     |_=>some (.inr 0)):=by
     unfold zK
     rw [if_pos ⟨rfl,rfl,by omega⟩,Go.Lib.toList_data]
     cases Lib.parseIntB 64 s.data.toList<;>rfl
    rcases hq:Lib.parseIntB 64 s.toList with v|_|_
    rotate_left
    ·have hn:qFE s.toList=false:=by
      rw [Bool.eq_false_iff];intro e
      have hd:qQv s.toList=true:=by unfold qFE at e;simp only [Bool.and_eq_true] at e;exact e.1
      have:=(qNv hd).2 e
      rw [hq] at this;cases this
     rw [hn,if_neg (by simp)]
     rw [hq] at hL
     refine ⟨n1+n2+n3+2,fun n hn=>?_⟩
     obtain ⟨k,rfl,hm⟩:=up1 hn
     obtain ⟨k,rfl,hm⟩:=up1 (show n1+n2+n3+1≤k by omega)
     exact qA (h1 (k+1) (by omega)) (qO (qAv hp) (qO (qFF h0) (qA (h2 (k+1) (by omega)) (qO rfl (qA ((hpi k).trans hL) (qO rfl (fin (k+1) (by omega))))))))
    ·have hn:qFE s.toList=false:=by
      rw [Bool.eq_false_iff];intro e
      have hd:qQv s.toList=true:=by unfold qFE at e;simp only [Bool.and_eq_true] at e;exact e.1
      have:=(qNv hd).2 e
      rw [hq] at this;cases this
     rw [hn,if_neg (by simp)]
     rw [hq] at hL
     refine ⟨n1+n2+n3+2,fun n hn=>?_⟩
     obtain ⟨k,rfl,hm⟩:=up1 hn
     obtain ⟨k,rfl,hm⟩:=up1 (show n1+n2+n3+1≤k by omega)
     exact qA (h1 (k+1) (by omega)) (qO (qAv hp) (qO (qFF h0) (qA (h2 (k+1) (by omega)) (qO rfl (qA ((hpi k).trans hL) (qO rfl (fin (k+1) (by omega))))))))
    ·rw [hq] at hL
     cases hd:qQv s.toList with
     |false=>
      have hn:qFE s.toList=false:=by unfold qFE;rw [hd];rfl
      rw [hn,if_neg (by simp)]
      refine ⟨n1+n2+n3+n4+2,fun n hn=>?_⟩
      obtain ⟨k,rfl,hm⟩:=up1 hn
      obtain ⟨k,rfl,hm⟩:=up1 (show n1+n2+n3+n4+1≤k by omega)
      have h4:=h4 (k+1) (by omega)
      rw [hd] at h4
      exact qA (h1 (k+1) (by omega)) (qO (qAv hp) (qO (qFF h0) (qA (h2 (k+1) (by omega)) (qO rfl (qA ((hpi k).trans hL) (qD rfl (qA h4 (qO rfl (fin (k+1) (by omega))))))))))
     |true=>
      have hv:=(qNv hd).1 v hq
      subst hv
      obtain ⟨n5,h5⟩:=qKV (qKk s.toList)
      obtain ⟨n6,h6⟩:=qGA 1 (qKk s.toList) em (by decide)
      have ei:qFE s.toList=okV 1 (qKk s.toList) em:=by unfold qFE;rw [hd,Bool.true_and]
      rw [ei]
      cases ho:okV 1 (qKk s.toList) em with
      |true=>
       rw [if_pos rfl]
       have hb2:=qVN.1 ho
       obtain ⟨n7,h7⟩:=qGC (qKk s.toList) (by omega)
       refine ⟨n1+n2+n3+n4+n5+n6+n7+2,fun n hn=>?_⟩
       obtain ⟨k,rfl,hm⟩:=up1 hn
       obtain ⟨k,rfl,hm⟩:=up1 (show n1+n2+n3+n4+n5+n6+n7+1≤k by omega)
       have h4:=h4 (k+1) (by omega)
       rw [hd] at h4
       exact qA (h1 (k+1) (by omega)) (qO (qAv hp) (qO (qFF h0) (qA (h2 (k+1) (by omega)) (qO rfl (qA ((hpi k).trans hL) (qD rfl (qA h4 (qD rfl (qA (h5 (k+1) (by omega)) (qA (h6 (k+1) (by omega)) (qD ho (qA (h7 (k+1) (by omega)) rfl))))))))))))
      |false=>
       rw [if_neg (by simp)]
       refine ⟨n1+n2+n3+n4+n5+n6+2,fun n hn=>?_⟩
       obtain ⟨k,rfl,hm⟩:=up1 hn
       obtain ⟨k,rfl,hm⟩:=up1 (show n1+n2+n3+n4+n5+n6+1≤k by omega)
       have h4:=h4 (k+1) (by omega)
       rw [hd] at h4
       exact qA (h1 (k+1) (by omega)) (qO (qAv hp) (qO (qFF h0) (qA (h2 (k+1) (by omega)) (qO rfl (qA ((hpi k).trans hL) (qD rfl (qA h4 (qD rfl (qA (h5 (k+1) (by omega)) (qA (h6 (k+1) (by omega)) (qO ho (fin (k+1) (by omega)))))))))))))
abbrev Cl:=Int×Int×ByteArray
def qR (c:Cl):List PV:= [.i .i64 c.1,.i .i64 c.2.1,.s c.2.2]
theorem qUv {rows:List (List PV)} (h:∀e∈rows,okR [.i .i64,.i .i64,.s] e):∃l:List Cl,rows=l.map qR∧∀c∈l,c.2.2.size≤140737488351232:=by
 refine qR8 (fun e h=>?_) h
 obtain ⟨c0,t0,rfl,p0,h⟩:=zBL h
 obtain ⟨c1,t1,rfl,p1,h1⟩:=zBL h
 obtain ⟨c2,t2,rfl,p2,h2⟩:=zBL h1
 obtain rfl:=zFV h2
 obtain ⟨x0,rfl,_⟩:=zHL p0
 obtain ⟨x1,rfl,_⟩:=zHL p1
 obtain ⟨x2,rfl,w⟩:=zKl p2
 exact ⟨(x0,x1,x2),rfl,w⟩
theorem qS5 {l:List Cl} {i:Nat} {e:List PV} (h:(l.map qR)[i]?=some e):∃c,l[i]?=some c∧e=qR c:=by
 rw [List.getElem?_map] at h
 obtain ⟨c,h1,h2⟩:=Option.map_eq_some_iff.1 h
 exact ⟨c,h1,h2.symm⟩
def qLN (s:ByteArray):Bool:=(qGD s).2&&(decide (s.toList≠ [])&&((qGD s).1.toList==s.toList))
def qIH (l:List Cl) (i:Nat) (c:Cl):Bool:=match i with
 |0=>true
 |j+1=>match l[j]? with
  |some p=>qHG p.1 p.2.1 c.1 c.2.1
  |none=>true
def qII (l:List Cl):Nat→List Cl→Bool
 |_,[]=>true
 |i,c::r=>qBM c.1 c.2.1&&(qLN c.2.2&&qIH l i c)&&qII l (i+1) r
def qDX (l:List Cl):Bool:=qII l 0 l&&decide ((l.length:Int)≤120)
theorem qSe (s:ByteArray) (hb:s.size≤140737488355328):Ev (qDZ · s) (qLN s):=by
 obtain ⟨n1,h1⟩:=qO4 s hb
 refine ⟨n1+1,fun n hn=>?_⟩
 obtain ⟨k,rfl,hm⟩:=up1 hn
 refine qA (h1 k (by omega)) ?_
 unfold qLN
 by_cases h2:(qGD s).2=true
 ·refine qD h2 ?_
  rw [h2,Bool.true_and]
  by_cases h3:s.toList= []
  ·refine qO (qAv (qOB h3)) ?_
   rw [qC,decide_eq_false (fun e=>e h3),Bool.false_and]
  ·refine qD (qCu (qFF h3)) ?_
   rw [qC,decide_eq_true h3,Bool.true_and]
 ·have h2:(qGD s).2=false:=by rw [Bool.eq_false_iff];exact h2
  refine qO h2 ?_
  rw [qC,h2,Bool.false_and]
structure SrcAt (n:Nat) (c:Cl):Prop where
 r1:qAM n c.1 c.2.1=some (qBM c.1 c.2.1)
 r2:qBy n c.1 c.2.1=some (qBM c.1 c.2.1)
 i1:qEs n c.2.2=some (qGD c.2.2)
 i2:qDZ n c.2.2=some (qLN c.2.2)
theorem qUP (c:Cl) (hb:c.2.2.size≤140737488351232):∃n0,∀n,n0≤n→SrcAt n c:=by
 obtain ⟨n1,h1⟩:=qCz c.1 c.2.1
 obtain ⟨n2,h2⟩:=qDe c.1 c.2.1
 obtain ⟨n3,h3⟩:=qO3 c.2.2 (by omega)
 obtain ⟨n4,h4⟩:=qSe c.2.2 (by omega)
 exact ⟨n1+n2+n3+n4,fun n hn=>⟨h1 n (by omega),h2 n (by omega),h3 n (by omega),h4 n (by omega)⟩⟩
theorem qRw:∀(l:List Cl),(∀c∈l,c.2.2.size≤140737488351232)→∃n0,∀n,n0≤n→∀c∈l,SrcAt n c
 | [],_=>⟨0,fun n _ c hc=>by cases hc⟩
 |a::l,h=>by
  obtain ⟨n1,h1⟩:=qUP a (h a (List.mem_cons_self ..))
  obtain ⟨n2,h2⟩:=qRw l fun c hc=>h c (List.mem_cons_of_mem _ hc)
  exact ⟨n1+n2,fun n hn c hc=>by
   rcases List.mem_cons.1 hc with rfl|hc
   ·exact h1 n (by omega)
   ·exact h2 n (by omega) c hc⟩
theorem qMy (n:Nat) (l:List Cl) (hb:l.length≤140737488351232) (hs:∀c∈l,SrcAt n c) (ha:∀a b c d,qDm n a b c d=some (qHG a b c d)):
  ∀(m i M:Nat),l.length=i+m→m+1≤M→zD (qEt n) M (l.map qR,(i:Int))=some (if qII l i (l.drop i)=true then .inr () else .inl false)
 |m,i,0,h1,h2=>by omega
 |0,i,M+1,h1,h2=>by
  rw [List.drop_eq_nil_of_le (by omega)]
  exact qP (qO (decide_eq_false (show ¬((i:Int)<((l.map qR).length:Int)) by rw [List.length_map];omega)) rfl)
 |m+1,i,M+1,h1,h2=>by
  have hl:i<l.length:=by omega
  have hg:=List.getElem?_eq_getElem hl
  have hm:=List.getElem_mem hl
  rw [qDd hg]
  generalize l[i]=c at hg hm
  have S:=hs c hm
  have hw:IntKind.i64.wrap ((i:Int)+1)=((i+1:Nat):Int):=by rw [qV (by omega)];omega
  have g1:decide ((i:Int)<((l.map qR).length:Int))=true:=decide_eq_true (by rw [List.length_map];omega)
  have g2:decide (0≤(i:Int)∧(i:Int)<((l.map qR).length:Int))=true:=decide_eq_true ⟨by omega,by rw [List.length_map];omega⟩
  have g3:(l.map qR)[((i:Int)).toNat]?=some (qR c):=by rw [Int.toNat_natCast,List.getElem?_map,hg];rfl
  have k3:decide ((qR c).length=3)=true:=rfl
  have cs:zX (qR c) 2=some c.2.2:=rfl
  have c0:zC .i64 (qR c) 0=some c.1:=rfl
  have c1:zC .i64 (qR c) 1=some c.2.1:=rfl
  have ih:=qMy n l hb hs ha m (i+1) M (by omega) (by omega)
  unfold qII
  by_cases hR:qBM c.1 c.2.1=true
  rotate_left
  ·have hR:qBM c.1 c.2.1=false:=by rw [Bool.eq_false_iff];exact hR
   rw [hR,Bool.false_and,Bool.false_and,if_neg (by simp)]
   exact qP (qD g1 (qD g2 (qA g3 (qD k3 (qA cs (qA S.i1 (qD g2 (qA g3 (qD k3 (qA c0 (qA c1 (qA S.r1 (qD (qCu hR) rfl)))))))))))))
  rw [hR,Bool.true_and]
  by_cases hI:(qGD c.2.2).2=true
  rotate_left
  ·have hI:(qGD c.2.2).2=false:=by rw [Bool.eq_false_iff];exact hI
   have e:qLN c.2.2=false:=by unfold qLN;rw [hI];rfl
   rw [e,Bool.false_and,Bool.false_and,if_neg (by simp)]
   exact qP (qD g1 (qD g2 (qA g3 (qD k3 (qA cs (qA S.i1 (qD g2 (qA g3 (qD k3 (qA c0 (qA c1 (qA S.r1 (qO (qAv hR) (qD (qCu hI) rfl))))))))))))))
  by_cases hE:c.2.2.toList= []
  ·have e:qLN c.2.2=false:=by unfold qLN;rw [decide_eq_false (fun h=>h hE),Bool.false_and,Bool.and_false]
   rw [e,Bool.false_and,Bool.false_and,if_neg (by simp)]
   exact qP (qD g1 (qD g2 (qA g3 (qD k3 (qA cs (qA S.i1 (qD g2 (qA g3 (qD k3 (qA c0 (qA c1 (qA S.r1 (qO (qAv hR) (qO (qAv hI) (qD g2 (qA g3 (qD k3 (qA cs (qD (qOB hE) rfl)))))))))))))))))))
  by_cases hQ:(qGD c.2.2).1.toList=c.2.2.toList
  rotate_left
  ·have e:qLN c.2.2=false:=by unfold qLN;rw [beq_eq_false_iff_ne.2 hQ,Bool.and_false,Bool.and_false]
   rw [e,Bool.false_and,Bool.false_and,if_neg (by simp)]
   exact qP (qD g1 (qD g2 (qA g3 (qD k3 (qA cs (qA S.i1 (qD g2 (qA g3 (qD k3 (qA c0 (qA c1 (qA S.r1 (qO (qAv hR) (qO (qAv hI) (qD g2 (qA g3 (qD k3 (qA cs (qO (qFF hE) (qD g2 (qA g3 (qD k3 (qA cs (qD (qCu (beq_eq_false_iff_ne.2 hQ)) rfl))))))))))))))))))))))))
  have e:qLN c.2.2=true:=by unfold qLN;rw [hI,decide_eq_true hE,beq_iff_eq.2 hQ];rfl
  rw [e,Bool.true_and]
  cases i with
  |zero=>
   rw [show qIH l 0 c=true from rfl,Bool.true_and]
   rw [qU (v':=(l.map qR,((0+1:Nat):Int))) (by
    refine qD g1 (qD g2 (qA g3 (qD k3 (qA cs (qA S.i1 (qD g2 (qA g3 (qD k3 (qA c0 (qA c1 (qA S.r1 (qO (qAv hR) (qO (qAv hI) (qD g2 (qA g3 (qD k3 (qA cs (qO (qFF hE) (qD g2 (qA g3 (qD k3 (qA cs (qO (qAv (beq_iff_eq.2 hQ)) (qO rfl ?_))))))))))))))))))))))))
    rw [qC,hw])]
   exact ih
  |succ j=>
   have hj:j<l.length:=by omega
   have hgj:=List.getElem?_eq_getElem hj
   generalize l[j]=p at hgj
   have wj:IntKind.i64.wrap (((j+1:Nat):Int)-1)=(j:Int):=by rw [qV (by omega)];omega
   have a1:decide (((j+1:Nat):Int)>0)=true:=decide_eq_true (by omega)
   have j2:decide (0≤IntKind.i64.wrap (((j+1:Nat):Int)-1)∧IntKind.i64.wrap (((j+1:Nat):Int)-1)<((l.map qR).length:Int))=true:=decide_eq_true (by rw [wj,List.length_map];omega)
   have j3:(l.map qR)[(IntKind.i64.wrap (((j+1:Nat):Int)-1)).toNat]?=some (qR p):=by rw [wj,Int.toNat_natCast,List.getElem?_map,hgj];rfl
   have p0:zC .i64 (qR p) 0=some p.1:=rfl
   have p1:zC .i64 (qR p) 1=some p.2.1:=rfl
   have h5:=ha p.1 p.2.1 c.1 c.2.1
   have ep:qIH l (j+1) c=qHG p.1 p.2.1 c.1 c.2.1:=by unfold qIH;simp only [hgj]
   rw [ep]
   by_cases hA:qHG p.1 p.2.1 c.1 c.2.1=true
   ·rw [hA,Bool.true_and]
    rw [qU (v':=(l.map qR,((j+1+1:Nat):Int))) (by
     refine qD g1 (qD g2 (qA g3 (qD k3 (qA cs (qA S.i1 (qD g2 (qA g3 (qD k3 (qA c0 (qA c1 (qA S.r1 (qO (qAv hR) (qO (qAv hI) (qD g2 (qA g3 (qD k3 (qA cs (qO (qFF hE) (qD g2 (qA g3 (qD k3 (qA cs (qO (qAv (beq_iff_eq.2 hQ)) (qD a1 (qD j2 (qA j3 (qD rfl (qA p0 (qA p1 (qD g2 (qA g3 (qD k3 (qA c0 (qA c1 (qA h5 (qO (qAv hA) ?_))))))))))))))))))))))))))))))))))))
     rw [qC,hw])]
    exact ih
   ·have hA:qHG p.1 p.2.1 c.1 c.2.1=false:=by rw [Bool.eq_false_iff];exact hA
    rw [hA,Bool.false_and,if_neg (by simp)]
    exact qP (qD g1 (qD g2 (qA g3 (qD k3 (qA cs (qA S.i1 (qD g2 (qA g3 (qD k3 (qA c0 (qA c1 (qA S.r1 (qO (qAv hR) (qO (qAv hI) (qD g2 (qA g3 (qD k3 (qA cs (qO (qFF hE) (qD g2 (qA g3 (qD k3 (qA cs (qO (qAv (beq_iff_eq.2 hQ)) (qD a1 (qD j2 (qA j3 (qD rfl (qA p0 (qA p1 (qD g2 (qA g3 (qD k3 (qA c0 (qA c1 (qA h5 (qD (qCu hA) rfl)))))))))))))))))))))))))))))))))))))
theorem qO5 (l:List Cl) (hb:l.length≤140737488351232) (hs:∀c∈l,c.2.2.size≤140737488351232):Ev (qGo · (l.map qR)) (qDX l):=by
 obtain ⟨n1,h1⟩:=qRw l hs
 refine ⟨n1+l.length+3,fun n hn=>?_⟩
 obtain ⟨m,rfl,hm⟩:=up1 hn
 have ha:∀a b c d,qDm m a b c d=some (qHG a b c d):=fun a b c d=>by
  obtain ⟨q,rfl⟩:∃q,m=q+1:=⟨m-1,by omega⟩
  simp only [qDm,qGn,qC,qE,qG,qH,qJ,qK,Option.bind_some,qF,qM,qN]
  unfold qHG
  by_cases h:b<d
  ·simp [h]
  ·by_cases h':b=d
   ·subst h';simp
   ·simp [h,h']
 have h:=qMy m l hb (h1 m (by omega)) ha l.length 0 m (by omega) (by omega)
 simp only [Int.natCast_zero,List.drop_zero] at h
 unfold qDX
 by_cases h0:(l.length:Int)>120
 ·refine qD (decide_eq_true (by rw [List.length_map];exact h0)) ?_
  rw [qC,decide_eq_false (by omega),Bool.and_false]
 ·refine qO (decide_eq_false (by rw [List.length_map];exact h0)) (qA h ?_)
  rw [decide_eq_true (show (l.length:Int)≤120 by omega),Bool.and_true]
  cases qII l 0 l<;>rfl
theorem qMz (n:Nat) (l:List Cl) (hb:l.length≤140737488351232) (hs:∀c∈l,SrcAt n c) (ha:∀p∈l,∀c∈l,qBp n p.1 p.2.1 c.1 c.2.1=some (qDV [qL5 p.2.1 c.2.1,qL5 p.1 c.1])):
  ∀(m i M:Nat),l.length=i+m→m+1≤M→zD (qE2 n) M (l.map qR,l.map qR,(l.length:Int),(i:Int))=some (if qII l i (l.drop i)=true then .inr (l.map qR) else .inl false)
 |m,i,0,h1,h2=>by omega
 |0,i,M+1,h1,h2=>by
  rw [List.drop_eq_nil_of_le (by omega)]
  exact qP (qO (decide_eq_false (show ¬((i:Int)<(l.length:Int)) by omega)) rfl)
 |m+1,i,M+1,h1,h2=>by
  have hl:i<l.length:=by omega
  have hg:=List.getElem?_eq_getElem hl
  have hm:=List.getElem_mem hl
  rw [qDd hg]
  generalize l[i]=c at hg hm
  have S:=hs c hm
  have hw:IntKind.i64.wrap ((i:Int)+1)=((i+1:Nat):Int):=by rw [qV (by omega)];omega
  have g1:decide ((i:Int)<(l.length:Int))=true:=decide_eq_true (by omega)
  have g2:decide (0≤(i:Int)∧(i:Int)<((l.map qR).length:Int))=true:=decide_eq_true ⟨by omega,by rw [List.length_map];omega⟩
  have g3:(l.map qR)[((i:Int)).toNat]?=some (qR c):=by rw [Int.toNat_natCast,List.getElem?_map,hg];rfl
  have k3:decide ((qR c).length=3)=true:=rfl
  have cs:zX (qR c) 2=some c.2.2:=rfl
  have c0:zC .i64 (qR c) 0=some c.1:=rfl
  have c1:zC .i64 (qR c) 1=some c.2.1:=rfl
  have ih:=qMz n l hb hs ha m (i+1) M (by omega) (by omega)
  unfold qII
  by_cases hR:qBM c.1 c.2.1=true
  rotate_left
  ·have hR:qBM c.1 c.2.1=false:=by rw [Bool.eq_false_iff];exact hR
   rw [hR,Bool.false_and,Bool.false_and,if_neg (by simp)]
   exact qP (qD g1 (qD g2 (qA g3 (qD k3 (qA c0 (qA c1 (qA cs (qA S.r2 (qD (qCu hR) rfl)))))))))
  rw [hR,Bool.true_and]
  cases i with
  |zero=>
   rw [show qIH l 0 c=true from rfl,Bool.and_true]
   by_cases hS:qLN c.2.2=true
   ·rw [hS,Bool.true_and]
    rw [qU (v':=(l.map qR,l.map qR,(l.length:Int),((0+1:Nat):Int))) (by
     refine qD g1 (qD g2 (qA g3 (qD k3 (qA c0 (qA c1 (qA cs (qA S.r2 (qO (qAv hR) (qO rfl (qA S.i2 (qO (qAv hS) ?_)))))))))))
     rw [qC,hw])]
    exact ih
   ·have hS:qLN c.2.2=false:=by rw [Bool.eq_false_iff];exact hS
    rw [hS,Bool.false_and,if_neg (by simp)]
    exact qP (qD g1 (qD g2 (qA g3 (qD k3 (qA c0 (qA c1 (qA cs (qA S.r2 (qO (qAv hR) (qO rfl (qA S.i2 (qD (qCu hS) rfl))))))))))))
  |succ j=>
   have hj:j<l.length:=by omega
   have hgj:=List.getElem?_eq_getElem hj
   have hmj:=List.getElem_mem hj
   generalize l[j]=p at hgj hmj
   have wj:IntKind.i64.wrap (((j+1:Nat):Int)-1)=(j:Int):=by rw [qV (by omega)];omega
   have a1:decide (((j+1:Nat):Int)>0)=true:=decide_eq_true (by omega)
   have j2:decide (0≤IntKind.i64.wrap (((j+1:Nat):Int)-1)∧IntKind.i64.wrap (((j+1:Nat):Int)-1)<((l.map qR).length:Int))=true:=decide_eq_true (by rw [wj,List.length_map];omega)
   have j3:(l.map qR)[(IntKind.i64.wrap (((j+1:Nat):Int)-1)).toNat]?=some (qR p):=by rw [wj,Int.toNat_natCast,List.getElem?_map,hgj];rfl
   have p0:zC .i64 (qR p) 0=some p.1:=rfl
   have p1:zC .i64 (qR p) 1=some p.2.1:=rfl
   have h5:=ha p hmj c hm
   have h6:=qTe p.1 p.2.1 c.1 c.2.1
   have ep:qIH l (j+1) c=qHG p.1 p.2.1 c.1 c.2.1:=by unfold qIH;simp only [hgj]
   rw [ep]
   by_cases hA:qHG p.1 p.2.1 c.1 c.2.1=true
   ·rw [hA] at h6
    rw [hA,Bool.and_true]
    by_cases hS:qLN c.2.2=true
    ·rw [hS,Bool.true_and]
     rw [qU (v':=(l.map qR,l.map qR,(l.length:Int),((j+1+1:Nat):Int))) (by
      refine qD g1 (qD g2 (qA g3 (qD k3 (qA c0 (qA c1 (qA cs (qA S.r2 (qO (qAv hR) (qD a1 (qD j2 (qA j3 (qD rfl (qA p0 (qA p1 (qA h5 (qO h6 (qA S.i2 (qO (qAv hS) ?_))))))))))))))))))
      rw [qC,hw])]
     exact ih
    ·have hS:qLN c.2.2=false:=by rw [Bool.eq_false_iff];exact hS
     rw [hS,Bool.false_and,if_neg (by simp)]
     exact qP (qD g1 (qD g2 (qA g3 (qD k3 (qA c0 (qA c1 (qA cs (qA S.r2 (qO (qAv hR) (qD a1 (qD j2 (qA j3 (qD rfl (qA p0 (qA p1 (qA h5 (qO h6 (qA S.i2 (qD (qCu hS) rfl)))))))))))))))))))
   ·have hA:qHG p.1 p.2.1 c.1 c.2.1=false:=by rw [Bool.eq_false_iff];exact hA
    rw [hA] at h6
    rw [hA,Bool.and_false,Bool.false_and,if_neg (by simp)]
    exact qP (qD g1 (qD g2 (qA g3 (qD k3 (qA c0 (qA c1 (qA cs (qA S.r2 (qO (qAv hR) (qD a1 (qD j2 (qA j3 (qD rfl (qA p0 (qA p1 (qA h5 (qD h6 rfl)))))))))))))))))
theorem qO6 (l:List Cl) (hb:l.length≤140737488351232) (hs:∀c∈l,c.2.2.size≤140737488351232):Ev (qHE · (l.map qR)) (qDX l):=by
 obtain ⟨n1,h1⟩:=qRw l hs
 obtain ⟨n3,h3⟩:=qBL (F:=fun (pc:Cl×Cl) n=>qBp n pc.1.1 pc.1.2.1 pc.2.1 pc.2.2.1) (f:=fun pc=>qDV [qL5 pc.1.2.1 pc.2.2.1,qL5 pc.1.1 pc.2.1]) (l.flatMap fun p=>l.map fun c=>(p,c)) fun pc _=>qLJ pc.1.1 pc.1.2.1 pc.2.1 pc.2.2.1
 refine ⟨n1+n3+l.length+3,fun n hn=>?_⟩
 obtain ⟨m,rfl,hm⟩:=up1 hn
 have h:=qMz m l hb (h1 m (by omega)) (fun p hp c hc=>h3 m (by omega) (p,c) (List.mem_flatMap.2 ⟨p,hp,List.mem_map.2 ⟨c,hc,rfl⟩⟩)) l.length 0 m (by omega) (by omega)
 simp only [Int.natCast_zero,List.drop_zero] at h
 rw [show (l.length:Int)=((l.map qR).length:Int) by rw [List.length_map]] at h
 unfold qDX
 refine qA h ?_
 cases qII l 0 l with
 |true=>
  rw [if_pos rfl,Bool.true_and]
  show some (decide (((l.map qR).length:Int)≤120))=_
  rw [List.length_map]
 |false=>rfl
theorem qQK (n:Nat) (a b:Int) (s:ByteArray) (left:Int):∃r,qFW (n+1) a b s left=some r:=by
 simp only [qFW,qHp,qC,qE,qG,qH,qJ,qK,Option.bind_some,qF,qM,qN]
 by_cases h:IntKind.i64.wrap (left-s.size)<0
 ·exact ⟨-1,by simp [h]⟩
 ·exact ⟨IntKind.i64.wrap (left-s.size),by simp [h]⟩
theorem qO7 (l:List Cl) (hb:l.length≤140737488351232) (left:Int):∀n,l.length+5≤n→∃r,qEl n (l.map qR) left=some r:=by
 intro n hn
 obtain ⟨m,rfl,hm⟩:=up1 hn
 obtain ⟨q,rfl⟩:∃q,m=q+2:=⟨m-2,by omega⟩
 simp only [qEl,qGZ,qC,qE,qG,qH,qJ,qK,Option.bind_some,qF,qM,qN]
 obtain ⟨r,h⟩:=qTA (B:=qCA (q+2)) (rows:=l.map qR)
  (fun i e x he=>by
   obtain ⟨c,hc,rfl⟩:=qS5 he
   have hi:i<l.length:=(List.getElem?_eq_some_iff.1 hc).1
   have hi':(i:Int)<l.length:=by omega
   have hw:IntKind.i64.wrap ((i:Int)+1)=(i:Int)+1:=qV (by omega)
   obtain ⟨r,hr⟩:=qQK (q+1) c.1 c.2.1 c.2.2 x
   by_cases h0:r<0
   ·exact .inr ⟨.inl (-1),by simp [qCA,qC,qE,qG,qH,qJ,qK,Option.bind_some,qF,qM,qN,hi',hc,qR,zC,zX,hr,h0]⟩
   ·exact .inl ⟨r,by simp [qCA,qC,qE,qG,qH,qJ,qK,Option.bind_some,qF,qM,qN,hi',hc,qR,zC,zX,hr,h0,hw]⟩)
  (fun x=>⟨.inr x,by simp [qCA,qC,qE,qG,qH,qJ,qK,Option.bind_some,qF,qM,qN]⟩) l.length 0 (q+2) (IntKind.i64.wrap (left-l.length)) (by simp) (by omega)
 simp only [Int.natCast_zero] at h
 by_cases h0:IntKind.i64.wrap (left-l.length)<0
 ·exact ⟨-1,by simp [h0]⟩
 ·rcases r with r|r
  ·exact ⟨r,by simp [h0,h,qC,qE,qG,qH,qJ,qK,Option.bind_some,qF,qM,qN]⟩
  ·exact ⟨r,by simp [h0,h,qC,qE,qG,qH,qJ,qK,Option.bind_some,qF,qM,qN]⟩
theorem qQL (n:Nat) (a b:Int) (s:ByteArray):qFX (n+2) a b s=some (a,b,s):=by
 simp only [qFX,qHq,qDJ,qGR,qC,qE,qG,qH,qJ,qK,Option.bind_some,qF,qM,qN]
theorem qO8 (l:List Cl) (hb:l.length*32≤140737488351232):Ev (qC7 · (l.map qR)) (l.length,l.map qR):=by
 refine ⟨l.length+5,fun n hn=>?_⟩
 obtain ⟨m,rfl,hm⟩:=up1 hn
 simp only [qC7,qGa,qC,qE,qG,qH,qJ,qK,Option.bind_some,qF,qM,qN]
 have h:=qTy (B:=qCi m) (rows:=l.map qR) (z:= [.i .i64 0,.i .i64 0,.s ⟨#[]⟩]) (r:=fun acc=>((l.map qR).length,acc)) (M:=m)
  (fun i acc e he ha hz=>by
   obtain ⟨c,hc,rfl⟩:=qS5 he
   have hi:i<l.length:=(List.getElem?_eq_some_iff.1 hc).1
   have hi':(i:Int)<l.length:=by omega
   obtain ⟨q,rfl⟩:∃q,m=q+2:=⟨m-2,by omega⟩
   have hw:IntKind.i64.wrap ((i:Int)+1)=(i:Int)+1:=qV (by omega)
   have ha':acc.length=l.length:=by simpa using ha
   simp [qCi,qC,qE,qG,qH,qJ,qK,Option.bind_some,qF,qM,qN,hi',hc,qR,zC,zX,qQL,hz,ha',hw,zx])
  (fun acc ha=>by
   have ha':acc.length=l.length:=by simpa using ha
   simp [qCi,qC,qE,qG,qH,qJ,qK,Option.bind_some,qF,qM,qN])
  (by simp;omega)
 simp only [List.length_map,Int.toNat_natCast] at h⊢
 rw [h]
 have h1:(32:Int)*(l.length:Int)≤140737488355328:=by omega
 have h2:(l.length:Int)≤9223372036854775807:=by omega
 simp [qC,qE,qG,qH,qJ,qK,Option.bind_some,qF,qM,qN,h1,h2]
theorem qQM (n:Nat) (a b:Int) (s:ByteArray):qFe (n+2) a b s a b s=some true:=by
 simp only [qFe,qIB,qI6,qI5,qC,qE,qG,qH,qJ,qK,Option.bind_some,qF,qM,qN]
 simp [qC,qE,qG,qH,qJ,qK,Option.bind_some,qF,qM,qN]
theorem qO9 (l:List Cl) (hb:l.length≤140737488351232):Ev (qE5 · (l.map qR) (l.map qR)) true:=by
 refine ⟨l.length+5,fun n hn=>?_⟩
 obtain ⟨m,rfl,hm⟩:=up1 hn
 simp only [qE5,qHF,qC,qE,qG,qH,qJ,qK,Option.bind_some,qF,qM,qN]
 have h:=qS9 (B:=qCq m) (rows:=l.map qR) (r:= .inr ())
  (fun i e he=>by
   obtain ⟨c,hc,rfl⟩:=qS5 he
   have hi:i<l.length:=(List.getElem?_eq_some_iff.1 hc).1
   have hi':(i:Int)<l.length:=by omega
   obtain ⟨q,rfl⟩:∃q,m=q+2:=⟨m-2,by omega⟩
   have hw:IntKind.i64.wrap ((i:Int)+1)=(i:Int)+1:=qV (by omega)
   simp [qCq,qC,qE,qG,qH,qJ,qK,Option.bind_some,qF,qM,qN,hi',hc,qR,zC,zX,qQM,hw])
  (by simp [qCq,qC,qE,qG,qH,qJ,qK,Option.bind_some,qF,qM,qN]) l.length 0 m (by simp) (by omega)
 simp only [Int.natCast_zero] at h
 simp [h,qC,qE,qG,qH,qJ,qK,Option.bind_some,qF,qM,qN]
def Fo (r:List UInt8):Prop:=∀c,r.head?=some c→c∈([38,43,45,42,47,60,61,62,41,44]:List UInt8)
def Sta (r:List UInt8):Prop:=∃c,r.head?=some c∧(wch c=true∨c=45∨c=40∨c=34∨c=35)
def lo (l:List Nd) (i:Int):Int:=qC0 (qX l) (i.toNat+1) i
def tx (l:List Nd) (g:Nat) (i t:Int):List UInt8:=(qu l g i t).toList
structure RT (l:List Nd) (g:Nat) (i:Int):Prop where
 s:∀t,Sta (tx l g i t)
 c:∀(t:Int) (r:List UInt8),Fo r→∀d:UInt8,(d=58∨d=32)→(wr (tx l g i t++r)).head?≠some d
 u:∀(r:List UInt8) (deep:Int) (f:Nat),Fo r→0≤deep→deep+g≤400→20*(tx l g i 5++r).length+4≤f→pP f (.un deep) (tx l g i 5++r,false,l.take (lo l i).toNat)=(i,r,false,l.take (i.toNat+1))
 b:∀(t t':Int) (r:List UInt8) (deep:Int) (f:Nat),1≤t→t≤t'→t'≤5→Fo r→(qAw r=0∨lvl (qAw r)≤t')→0≤deep→deep+g≤400→20*(tx l g i t'++r).length+6≤f→
  ∃f2,20*r.length+5≤f2∧pP f (.bin t deep) (tx l g i t'++r,false,l.take (lo l i).toNat)=pP f2 (.loop t deep i) (r,false,l.take (i.toNat+1))
theorem qS6 {s:ByteArray} (h:(qA7 s).2=true):qEe (qA7 s).1=true:=by
 unfold qA7 at h⊢
 split at h
 ·rename_i hc
  rw [if_pos hc]
  exact hc.2.2.2
 ·cases h
def Dwx {β:Type} (Q:β→Prop) (R:Nat→Tr β):Prop:=∃x,Q x∧Ev (fun n=>(R n).run) x
theorem qBO {α β:Type} {Q:β→Prop} {F:Nat→Option α} {r:α} {K:Nat→α→Tr β} (h:Ev F r) (hk:Dwx Q fun n=>K n r):Dwx Q fun n=> .opt (F n) (K n):=by
 obtain ⟨x,q,n1,h1⟩:=hk
 obtain ⟨n0,h0⟩:=h
 exact ⟨x,q,n0+n1,fun n hn=>qA (h0 n (by omega)) (h1 n (by omega))⟩
theorem qFG {β:Type} {Q:β→Prop} {b:Bool} {t e:Nat→Tr β} (h:b=true) (hk:Dwx Q t):Dwx Q fun n=> .ask b (t n) (e n):=by
 obtain ⟨x,q,n1,h1⟩:=hk
 exact ⟨x,q,n1,fun n hn=>qD h (h1 n hn)⟩
theorem qNw {β:Type} {Q:β→Prop} {b:Bool} {t e:Nat→Tr β} (h:b=false) (hk:Dwx Q e):Dwx Q fun n=> .ask b (t n) (e n):=by
 obtain ⟨x,q,n1,h1⟩:=hk
 exact ⟨x,q,n1,fun n hn=>qO h (h1 n hn)⟩
theorem qM0 {α β:Type} {Q:β→Prop} {o:Option α} {r:α} {K:Nat→α→Tr β} (h:o=some r) (hk:Dwx Q fun n=>K n r):Dwx Q fun n=> .opt o (K n):=by
 obtain ⟨x,q,n1,h1⟩:=hk
 exact ⟨x,q,n1,fun n hn=>qA h (h1 n hn)⟩
theorem qAi {β:Type} {Q:β→Prop} {x:β} (h:Q x):Dwx Q fun _=> .done x:=⟨x,h,0,fun _ _=>rfl⟩
theorem qCY {β:Type} {Q:β→Prop} {F:Nat→Option β} {R:Nat→Tr β} (h:Dwx Q R) (hF:∀n,F (n+1)=(R n).run):∃x,Q x∧Ev F x:=by
 obtain ⟨x,q,n1,h1⟩:=h
 refine ⟨x,q,n1+1,fun n hn=>?_⟩
 obtain ⟨m,rfl,hm⟩:=up1 hn
 rw [hF]
 exact h1 m hm
theorem qDw {β:Type} {F:Nat→Option β} {x:β} (h:∃y,y=x∧Ev F y):Ev F x:=by
 obtain ⟨y,rfl,h⟩:=h
 exact h
def qD5 {α R:Type} (f:Nat→α→Option R):Nat→List α→Option R
 |_,[]=>none
 |i,a::r=>match f i a with
  |some x=>some x
  |none=>qD5 f (i+1) r
theorem qQN {V R α:Type} {B:V→Tr (V⊕R)} (st:Nat→V) (l:List α) (f:Nat→α→Option R) (z:R) (hs:∀i a,l[i]?=some a→(B (st i)).run=some (match f i a with|some r=> .inr r|none=> .inl (st (i+1))))
  (he:(B (st l.length)).run=some (.inr z)):∀(M:Nat),l.length+1≤M→zD B M (st 0)=some ((qD5 f 0 l).getD z):=by
 have key:∀(r:List α) (i M:Nat),l.drop i=r→i+r.length=l.length→r.length+1≤M→zD B M (st i)=some ((qD5 f i r).getD z):=by
  intro r
  induction r with
  |nil=>
   intro i M h1 h2 h3
   obtain ⟨M,rfl⟩:∃q,M=q+1:=⟨M-1,by omega⟩
   have e:i=l.length:=by simpa using h2
   subst e
   rw [qP he]
   rfl
  |cons a r ih=>
   intro i M h1 h2 h3
   obtain ⟨M,rfl⟩:∃q,M=q+1:=⟨M-1,by omega⟩
   have hg:l[i]?=some a:=by rw [←List.head?_drop,h1];rfl
   have hd:l.drop (i+1)=r:=by rw [←List.tail_drop,h1];rfl
   have h4:=hs i a hg
   simp only [List.length_cons] at h2 h3
   unfold qD5
   cases hf:f i a with
   |some x=>rw [hf] at h4;rw [qP h4];rfl
   |none=>rw [hf] at h4;rw [qU h4];exact ih (i+1) M hd (by omega) (by omega)
 exact fun M h=>key l 0 M rfl (by omega) h
theorem qHQ {i:Nat} {k:Int} {l:List (List PV)} {e:List PV} (hk:k=(i:Int)) (h:l[i]?=some e):decide (0≤k∧k<l.length)=true∧l[k.toNat]?=some e:=by
 subst hk
 have:=(List.getElem?_eq_some_iff.1 h).1
 exact ⟨decide_eq_true (by omega),by rw [Int.toNat_natCast];exact h⟩
def qQO (l:List Cl) (c r:Int):ByteArray:=((l.find? fun e=>e.1==c&&e.2.1==r).map (·.2.2)).getD ⟨#[]⟩
theorem qSf {R:Type} (c r:Int) (g:ByteArray→R):∀(l:List Cl) (i:Nat),qD5 (fun _ (e:Cl)=>if (e.1==c&&e.2.1==r)=true then some (g e.2.2) else none) i l=(l.find? fun e=>e.1==c&&e.2.1==r).map fun e=>g e.2.2
 | [],i=>rfl
 |a::l,i=>by
  unfold qD5
  rw [List.find?_cons]
  cases a.1==c&&a.2.1==r with
  |true=>rfl
  |false=>exact qSf c r g l (i+1)
theorem qRx (l:List Cl) (c r:Int) (hb:l.length≤140737488351232):Ev (qJ3 · (l.map qR) c r) (qQO l c r):=by
 refine ⟨l.length+3,fun n hn=>?_⟩
 obtain ⟨m,rfl,hm⟩:=up1 hn
 have h:=qQN (B:=qGp m) (fun i=>(l.map qR,(i:Int),c,r)) l (fun _ e=>if (e.1==c&&e.2.1==r)=true then some (.inl e.2.2) else none) (.inr ())
  (fun i e he=>by
   have hi:=(List.getElem?_eq_some_iff.1 he).1
   have hg:(l.map qR)[i]?=some (qR e):=by rw [List.getElem?_map,he];rfl
   obtain ⟨a1,a2⟩:=qHQ rfl hg
   refine qD (decide_eq_true (by simpa using hi)) (qD a1 (qA a2 (qD rfl (qA rfl (qA rfl ?_)))))
   rw [Bool.and_true]
   cases hc:e.1==c&&e.2.1==r with
   |true=>exact qD rfl (qD a1 (qA a2 (qD rfl (qA rfl rfl))))
   |false=>
    refine qO rfl ?_
    dsimp only
    rw [qV (by omega)]
    rfl)
  (qO (decide_eq_false (by simp)) rfl) m (by omega)
 refine qA h ?_
 rw [qSf]
 unfold qQO
 cases l.find? fun e=>e.1==c&&e.2.1==r<;>rfl
theorem qVi {F:Nat→Option Int} {T:Nat→Tr Bool} (h:∃N,∀n,N≤n→∃r,F n=some r) (hk:Dwx (· =true) T):Dwx (· =true) fun n=> .opt (F n) fun r=> .ask (decide (r<0)) (.done true) (T n):=by
 obtain ⟨x,rfl,n1,h1⟩:=hk
 obtain ⟨n0,h0⟩:=h
 refine ⟨true,rfl,n0+n1,fun n hn=>?_⟩
 obtain ⟨r,hr⟩:=h0 n (by omega)
 refine qA hr ?_
 by_cases h2:r<0
 ·exact qD (decide_eq_true h2) rfl
 ·exact qO (decide_eq_false h2) (h1 n (by omega))
theorem nb {a b:Int} (h:¬a=b):(a==b)=false:=beq_eq_false_iff_ne.2 h
theorem qQP {α β γ:Type} {Q:α→Prop} {x:γ} {K:Nat→β→Tr α} {L:Nat→γ→Tr α} (h:Dwx Q fun n=>L n x):Dwx Q fun n=> .alt (Sum.inr x) (K n) (L n):=h
theorem qRy {α β γ:Type} {Q:α→Prop} {x:β} {K:Nat→β→Tr α} {L:Nat→γ→Tr α} (h:Dwx Q fun n=>K n x):Dwx Q fun n=> .alt (Sum.inl x) (K n) (L n):=h
theorem qEh {α R:Type}:∀(l:List α) (i:Nat),qD5 (fun (_:Nat) (_:α)=>(none:Option R)) i l=none
 | [],i=>rfl
 |a::l,i=>qEh l (i+1)
def plB (c:Nd):Bool:=if c.1=2 then qBM c.2.2.2.2.2.1 c.2.2.2.2.2.2.1 else if c.1=3 then qGB c.2.2.2.2.2.1 c.2.2.2.2.2.2.1 c.2.2.2.2.2.2.2.2.2.1 c.2.2.2.2.2.2.2.2.2.2.1 else true
structure PlaceCh (f:Nd→Nd):Prop where
 k:∀c,(f c).1=c.1
 n:∀c,qFH c=true→c.1=2∨c.1=3→qFH (f c)=plB (f c)
 kd:∀c,kd (f c)=kd c
def qEk (c:Nd):Bool:=decide (c.1=2∨c.1=3)
def qIJ (c:Nd):List PV:=if c.1=2 then [.i .i64 c.2.2.2.2.2.1,.i .i64 c.2.2.2.2.2.2.1,.i .i64 c.2.2.2.2.2.1,.i .i64 c.2.2.2.2.2.2.1] else [.i .i64 c.2.2.2.2.2.1,.i .i64 c.2.2.2.2.2.2.1,.i .i64 c.2.2.2.2.2.2.2.2.2.1,.i .i64 c.2.2.2.2.2.2.2.2.2.2.1]
theorem qFr {α:Type} {P:α→Bool} {l:List α} {i:Nat} {a:α} (h:l[i]?=some a):(l.take (i+1)).filter P=(l.take i).filter P++(if P a=true then [a] else []):=by
 rw [List.take_add_one,h,List.filter_append]
 simp only [Option.toList_some,List.filter_cons,List.filter_nil]
theorem qPE {m:Nat} {acc:List (List PV)} {e:List PV} (hm:m=acc.length) (hb:m≤1000) (he:e.length=4):decide (m=acc.length∧0<4∧0<32∧(m+ [e].length)*32≤140737488355328∧ [e].all (fun e=>e.length==4)=true)=true:=decide_eq_true ⟨hm,by decide,by decide,by simp;omega,by simp [he]⟩
theorem qPA (l:List Nd) (hl:l.length≤1000):Ev (qE4 · (l.map qW)) ((l.filter qEk).map qIJ):=by
 obtain ⟨n1,h1⟩:=qBL (F:=fun (c:Nd) n=>qBF n c.1 c.2.1 c.2.2.1 c.2.2.2.1 c.2.2.2.2.1 c.2.2.2.2.2.1 c.2.2.2.2.2.2.1 c.2.2.2.2.2.2.2.1 c.2.2.2.2.2.2.2.2.1 c.2.2.2.2.2.2.2.2.2.1 c.2.2.2.2.2.2.2.2.2.2.1 c.2.2.2.2.2.2.2.2.2.2.2.1 c.2.2.2.2.2.2.2.2.2.2.2.2.1 ((kd c).map qAz)) (f:=fun c=>if c.1=2 then (c.2.2.2.2.2.1,c.2.2.2.2.2.2.1,c.2.2.2.2.2.1,c.2.2.2.2.2.2.1) else (c.2.2.2.2.2.1,c.2.2.2.2.2.2.1,c.2.2.2.2.2.2.2.2.2.1,c.2.2.2.2.2.2.2.2.2.2.1)) l fun c _=>by
  refine qDw (qCY (R:=fun n=>qDh n c.1 c.2.1 c.2.2.1 c.2.2.2.1 c.2.2.2.2.1 c.2.2.2.2.2.1 c.2.2.2.2.2.2.1 c.2.2.2.2.2.2.2.1 c.2.2.2.2.2.2.2.2.1 c.2.2.2.2.2.2.2.2.2.1 c.2.2.2.2.2.2.2.2.2.2.1 c.2.2.2.2.2.2.2.2.2.2.2.1 c.2.2.2.2.2.2.2.2.2.2.2.2.1 ((kd c).map qAz)) ?_ fun n=>rfl)
  by_cases h2:c.1=2
  ·rw [if_pos h2];exact qFG (beq_iff_eq.2 h2) (qAi rfl)
  ·rw [if_neg h2];exact qNw (beq_eq_false_iff_ne.2 h2) (qAi rfl)
 refine ⟨n1+l.length+3,fun n hn=>?_⟩
 obtain ⟨m,rfl,hm⟩:=up1 hn
 have h:=qQN (B:=qE3 m) (fun i=>(((l.take i).filter qEk).length,l.map qW,((l.map qW).length:Int),(i:Int),((l.take i).filter qEk).map qIJ)) l (fun _ _=>none) ((l.filter qEk).length,(l.filter qEk).map qIJ)
  (fun i c he=>by
   have hi:=(List.getElem?_eq_some_iff.1 he).1
   have hg:(l.map qW)[i]?=some (qW c):=by rw [List.getElem?_map,he];rfl
   obtain ⟨a1,a2⟩:=qHQ rfl hg
   have h1:=h1 m (by omega) c (List.mem_of_getElem? he)
   have hle:((l.take i).filter qEk).length≤1000:=Nat.le_trans (List.length_filter_le _ _) (by simp;omega)
   have w:IntKind.i64.wrap ((i:Int)+1)=((i+1:Nat):Int):=by rw [qV (by omega)];omega
   have ea:((l.take i).filter qEk).length=(((l.take i).filter qEk).map qIJ).length:=by simp
   have fin:qEk c=true→∀(e:List PV),e=qIJ c→(some (Sum.inl (((l.take i).filter qEk).length+1,l.map qW,((l.map qW).length:Int),IntKind.i64.wrap ((i:Int)+1),((l.take i).filter qEk).map qIJ++ [e])):Option ((Nat×List (List PV)×Int×Int×List (List PV))⊕(Nat×List (List PV))))=some (.inl (((l.take (i+1)).filter qEk).length,l.map qW,((l.map qW).length:Int),((i+1:Nat):Int),((l.take (i+1)).filter qEk).map qIJ)):=fun hp e he2=>by
    rw [w,qFr he,if_pos hp,he2,List.length_append,List.map_append]
    rfl
   refine qD (decide_eq_true (by simpa using hi)) (qD a1 (qA a2 (qD rfl ?_)))
   iterate 14 refine qA rfl ?_
   by_cases k2:c.1=2
   ·rw [if_pos k2] at h1
    exact qD (beq_iff_eq.2 k2) (qA h1 (qD rfl (qD (qPE ea hle rfl) (fin (decide_eq_true (.inl k2)) _ (by unfold qIJ;rw [if_pos k2])))))
   ·rw [if_neg k2] at h1
    refine qO (beq_eq_false_iff_ne.2 k2) ?_
    by_cases k3:c.1=3
    ·exact qD (beq_iff_eq.2 k3) (qA h1 (qD rfl (qD (qPE ea hle rfl) (fin (decide_eq_true (.inr k3)) _ (by unfold qIJ;rw [if_neg k2])))))
    ·refine qO (beq_eq_false_iff_ne.2 k3) ?_
     show some _=some _
     rw [w,qFr he,if_neg (by simp [qEk,k2,k3]),List.append_nil])
  (qO (decide_eq_false (by simp)) (by rw [List.take_length];rfl)) m (by omega)
 rw [qEh] at h
 exact qA h (qD (decide_eq_true (by simp)) rfl)
def fnL (s:ByteArray):List Nd×Bool:=if s.toList.head?=some 61 then qA7 (BR s.toList.tail) else ([],false)
theorem qUQ {s:ByteArray} (h:(qA7 s).2=false):(qA7 s).1= []:=by
 unfold qA7 at h⊢
 split at h
 ·cases h
 ·rename_i hc
  rw [if_neg hc]
theorem qRz (s:ByteArray):(fnL s).1.length≤60∧∀x∈(fnL s).1,qO2 x:=by
 unfold fnL
 split
 ·exact qKj _
 ·exact ⟨Nat.zero_le _,fun x hx=>by cases hx⟩
theorem qUR {s:ByteArray} (h:(fnL s).2=true):qEe (fnL s).1=true:=by
 unfold fnL at h⊢
 split at h
 ·rename_i hc
  rw [if_pos hc]
  exact qS6 h
 ·cases h
theorem qVQ {s:ByteArray} (h:(fnL s).2=false):(fnL s).1= []:=by
 unfold fnL at h⊢
 split at h
 ·rename_i hc
  rw [if_pos hc]
  exact qUQ h
 ·rename_i hc
  rw [if_neg hc]
theorem qM1 (s:ByteArray) (hb:s.size≤140737488351232):Ev (qD1 · s) ((fnL s).1.map qW,(fnL s).2):=by
 refine qDw (qCY (R:=fun n=>qFQ n s) (qBO (qFA s 61) ?_) fun n=>rfl)
 unfold fnL
 by_cases h:s.toList.head?=some 61
 ·rw [if_pos h,if_pos h]
  have ht:(BR s.toList.tail).size≤140737488351232:=by
   have:=qAT s
   rw [qc]
   simp
   omega
  exact qNw rfl (qBO (qGP (BR s.toList.tail) ht) (qAi rfl))
 ·rw [if_neg h,if_neg h]
  exact qFG rfl (qFG rfl (qAi rfl))
theorem qM2 (s:ByteArray) (hb:s.size≤140737488351232):Ev (qFN · s) ((fnL s).1.map qW,(fnL s).2):=by
 refine qDw (qCY (R:=fun n=>qFM n s) ?_ fun n=>rfl)
 unfold fnL
 by_cases h0:s.toList= []
 ·rw [if_neg (by rw [h0];simp)]
  exact qFG (qOB h0) (qFG rfl (qAi rfl))
 ·obtain ⟨c,t,hct⟩:∃c t,s.toList=c::t:=by
   cases h:s.toList with
   |nil=>exact absurd h h0
   |cons c t=>exact ⟨c,t,rfl⟩
  have hl:s.size=t.length+1:=by rw [←qAT,hct];rfl
  refine qNw (qFF h0) (qFG rfl (qM0 (r:=c) (by rw [hct];rfl) ?_))
  by_cases h61:c=61
  ·subst h61
   have ext:s.extract ((1:Int)).toNat (((s.size:Nat):Int)).toNat=BR s.toList.tail:=by
    conv=>lhs;rw [←qIj s]
    rw [qFS,qc,hct]
    simp
   rw [if_pos (by rw [hct];rfl)]
   refine qNw rfl (qFG (decide_eq_true ⟨by decide,by omega,Int.le_refl _⟩) ?_)
   rw [ext]
   exact qBO (qGQ (BR s.toList.tail) (by rw [qc,hct];simp;omega)) (qAi rfl)
  ·rw [if_neg (by rw [hct];simpa using h61)]
   exact qFG (bne_iff_ne.2 fun e=>h61 (UInt8.toNat_inj.1 (show c.toNat=61 by omega))) (qFG rfl (qAi rfl))
abbrev Ar:=Int×Int×Int×Int
def qCg (a:Ar):List PV:= [.i .i64 a.1,.i .i64 a.2.1,.i .i64 a.2.2.1,.i .i64 a.2.2.2]
def arT (c:Nd):Ar:=if c.1=2 then (c.2.2.2.2.2.1,c.2.2.2.2.2.2.1,c.2.2.2.2.2.1,c.2.2.2.2.2.2.1) else (c.2.2.2.2.2.1,c.2.2.2.2.2.2.1,c.2.2.2.2.2.2.2.2.2.1,c.2.2.2.2.2.2.2.2.2.2.1)
theorem qUw (c:Nd):qIJ c=qCg (arT c):=by
 unfold qIJ arT
 split<;>rfl
def arL (s:ByteArray):List Ar:=((fnL s).1.filter qEk).map arT
theorem qSg (s:ByteArray):((fnL s).1.filter qEk).map qIJ=(arL s).map qCg:=by
 unfold arL
 rw [List.map_map]
 exact List.map_congr_left fun c _=>qUw c
theorem qTV (s:ByteArray):(arL s).length≤60:=by
 unfold arL
 rw [List.length_map]
 exact Nat.le_trans (List.length_filter_le _ _) (qRz s).1
def iaB (x y:Int) (a:Ar):Bool:=decide (a.1≤x∧x≤a.2.2.1)&&decide (a.2.1≤y∧y≤a.2.2.2)
theorem qQw (l:List Nd) (hl:l.length≤1000) (hs:∀c∈l,qO2 c) (hf:qEe l=true):Ev (qGq · (l.map qW)) ((l.filter qEk).map qIJ):=by
 obtain ⟨n1,h1⟩:=qFB l (qIk hs)
 refine ⟨n1+l.length+3,fun n hn=>?_⟩
 obtain ⟨m,rfl,hm⟩:=up1 hn
 have h:=qQN (B:=qEu m) (fun i=>(l.map qW,((l.take i).filter qEk).length,(i:Int),((l.take i).filter qEk).map qIJ)) l (fun _ _=>none) ((l.filter qEk).length,(l.filter qEk).map qIJ)
  (fun i c he=>by
   have hi:=(List.getElem?_eq_some_iff.1 he).1
   have hg:(l.map qW)[i]?=some (qW c):=by rw [List.getElem?_map,he];rfl
   obtain ⟨a1,a2⟩:=qHQ rfl hg
   have hle:((l.take i).filter qEk).length≤1000:=Nat.le_trans (List.length_filter_le _ _) (by simp;omega)
   have w:IntKind.i64.wrap ((i:Int)+1)=((i+1:Nat):Int):=by rw [qV (by omega)];omega
   have ea:((l.take i).filter qEk).length=(((l.take i).filter qEk).map qIJ).length:=by simp
   have fin:qEk c=true→∀(e:List PV),e=qIJ c→(some (Sum.inl (l.map qW,((l.take i).filter qEk).length+1,IntKind.i64.wrap ((i:Int)+1),((l.take i).filter qEk).map qIJ++ [e])):Option ((List (List PV)×Nat×Int×List (List PV))⊕(Nat×List (List PV))))=some (.inl (l.map qW,((l.take (i+1)).filter qEk).length,((i+1:Nat):Int),((l.take (i+1)).filter qEk).map qIJ)):=fun hp e he2=>by
    rw [w,qFr he,if_pos hp,he2,List.length_append,List.map_append]
    rfl
   refine qD (decide_eq_true (by simpa using hi)) (qD a1 (qA a2 (qD rfl (qA rfl ?_))))
   by_cases k2:c.1=2
   ·exact qD (beq_iff_eq.2 k2) (qD a1 (qA a2 (qD rfl (qA rfl (qA rfl (qD a1 (qA a2 (qD rfl (qA rfl (qA rfl (qD rfl (qD (qPE ea hle rfl) (fin (decide_eq_true (.inl k2)) _ (by unfold qIJ;rw [if_pos k2]))))))))))))))
   ·refine qO (beq_eq_false_iff_ne.2 k2) ?_
    by_cases k3:c.1=3
    ·exact qD (beq_iff_eq.2 k3) (qD a1 (qA a2 (qD rfl (qA rfl (qA rfl (qD a1 (qA a2 (qD rfl (qA rfl (qA rfl (qD rfl (qD (qPE ea hle rfl) (fin (decide_eq_true (.inr k3)) _ (by unfold qIJ;rw [if_neg k2]))))))))))))))
    ·refine qO (beq_eq_false_iff_ne.2 k3) ?_
     show some _=some _
     rw [w,qFr he,if_neg (by simp [qEk,k2,k3]),List.append_nil])
  (qO (decide_eq_false (by simp)) (by rw [List.take_length];rfl)) m (by omega)
 rw [qEh] at h
 have h1:=h1 m (by omega)
 rw [hf] at h1
 exact qA h1 (qO rfl (qA h (qD (decide_eq_true (by simp)) rfl)))
theorem qPB (s:ByteArray) (hb:s.size≤140737488351232):Ev (qGs · s) ((arL s).map qCg):=by
 refine qDw (qCY (R:=fun n=>qGr n s) (qBO (qM2 s hb) ?_) fun n=>rfl)
 rw [←qSg]
 dsimp only
 cases h:(fnL s).2 with
 |false=>rw [qVQ h];exact qFG rfl (qFG rfl (qAi rfl))
 |true=>exact qNw rfl (qBO (qQw _ (by have:=(qRz s).1;omega) (qRz s).2 (qUR h)) (qAi rfl))
theorem qNx (x y:Int) (a:Ar):Ev (qEO · x y a.1 a.2.1 a.2.2.1 a.2.2.2) (iaB x y a):=by
 refine qDw (qCY (R:=fun n=>qFx n x y a.1 a.2.1 a.2.2.1 a.2.2.2) (qBO (qB2 x a.1 a.2.2.1) ?_) fun n=>rfl)
 unfold iaB
 by_cases h:a.1≤x∧x≤a.2.2.1
 ·rw [decide_eq_true h];exact qFG rfl (qBO (qB2 y a.2.1 a.2.2.2) (qAi rfl))
 ·rw [decide_eq_false h];exact qNw rfl (qAi rfl)
theorem qTt (x y:Int) (a:Ar):Ev (qFd · a.1 a.2.1 a.2.2.1 a.2.2.2 x y) (iaB x y a):=by
 refine qDw (qCY (R:=fun n=>qIA n a.1 a.2.1 a.2.2.1 a.2.2.2 x y) (qM0 rfl (qM0 rfl (qBO (qDw (x:=iaB x y a) (qCY (F:=fun n=>qF6 n a.1 a.2.1 a.2.2.1 a.2.2.2 x y) (Q:=fun z=>z=iaB x y a) (R:=fun n=>qF5 n a.1 a.2.1 a.2.2.1 a.2.2.2 x y) (qBO (qAK x a.1 a.2.2.1) ?_) fun n=>rfl)) (qAi rfl)))) fun n=>rfl)
 unfold iaB
 by_cases h:a.1≤x∧x≤a.2.2.1
 ·rw [decide_eq_true h];exact qFG rfl (qBO (qAK y a.2.1 a.2.2.2) (qAi rfl))
 ·rw [decide_eq_false h];exact qNw rfl (qAi rfl)
theorem qTW {α R:Type} (p:α→Bool) (g:Int→R):∀(l:List α) (i:Nat),(l.any p=true∧∃k:Nat,qD5 (fun i a=>if p a=true then some (g (i:Int)) else none) i l=some (g (k:Int)))∨(l.any p=false∧qD5 (fun i a=>if p a=true then some (g (i:Int)) else none) i l=none)
 | [],i=> .inr ⟨rfl,rfl⟩
 |a::l,i=>by
  unfold qD5
  rw [List.any_cons]
  cases p a with
  |true=>exact .inl ⟨rfl,i,rfl⟩
  |false=>exact qTW p g l (i+1)
theorem qR0 (l:List Ar) (hl:l.length≤1000) (x y:Int):Ev (qHh · (l.map qCg) x y) (l.any (iaB x y)):=by
 have ix:∃k:Int,decide (k≥0)=l.any (iaB x y)∧Ev (qAJ · (l.map qCg) x y) k:=by
  obtain ⟨n1,h1⟩:=qBL (F:=fun (a:Ar) n=>qFd n a.1 a.2.1 a.2.2.1 a.2.2.2 x y) (f:=fun a=>iaB x y a) l fun a _=>qTt x y a
  have h:∀m,n1+l.length+3≤m→zD (qh m) m (l.map qCg,x,y,((l.map qCg).length:Int),0)=some ((qD5 (fun i a=>if iaB x y a=true then some (Sum.inl (β:=Unit) (i:Int)) else none) 0 l).getD (.inr ())):=fun m hm=>by
   have h:=qQN (B:=qh m) (fun i=>(l.map qCg,x,y,((l.map qCg).length:Int),(i:Int))) l (fun i a=>if iaB x y a=true then some (Sum.inl (β:=Unit) (i:Int)) else none) (.inr ())
    (fun i c he=>by
     have hi:=(List.getElem?_eq_some_iff.1 he).1
     have hg:(l.map qCg)[i]?=some (qCg c):=by rw [List.getElem?_map,he];rfl
     obtain ⟨a1,a2⟩:=qHQ rfl hg
     have h1:=h1 m (by omega) c (List.mem_of_getElem? he)
     have w:IntKind.i64.wrap ((i:Int)+1)=((i+1:Nat):Int):=by rw [qV (by omega)];omega
     refine qD (decide_eq_true (by simpa using hi)) (qD a1 (qA a2 (qD rfl (qA rfl (qA rfl (qA rfl (qA rfl (qA h1 ?_))))))))
     cases iaB x y c with
     |true=>exact qD rfl rfl
     |false=>
      refine qO rfl ?_
      dsimp only
      rw [w]
      rfl)
    (qO (decide_eq_false (by simp)) rfl) m (by omega)
   exact h
  rcases qTW (iaB x y) (fun k=>(Sum.inl k:Int⊕Unit)) l 0 with ⟨e1,k,e2⟩|⟨e1,e2⟩
  ·refine ⟨(k:Int),by rw [e1];exact decide_eq_true (by omega),qDw (qCY (R:=fun n=>qm n (l.map qCg) x y) (qBO ⟨_,h⟩ ?_) fun n=>rfl)⟩
   rw [e2]
   exact qRy (qAi rfl)
  ·refine ⟨-1,by rw [e1];rfl,qDw (qCY (R:=fun n=>qm n (l.map qCg) x y) (qBO ⟨_,h⟩ ?_) fun n=>rfl)⟩
   rw [e2]
   exact qQP (qAi rfl)
 obtain ⟨k,e,hk⟩:=ix
 refine qDw (qCY (R:=fun n=>qKQ n (l.map qCg) x y) (qBO (qDw (qCY (F:=fun n=>qAB n (l.map qCg) x y) (Q:=fun z=>z=l.any (iaB x y)) (R:=fun n=>qAA n (l.map qCg) x y) (qBO hk (qAi e)) fun n=>rfl)) (qAi rfl)) fun n=>rfl)
def qS7 (r:Int×Int):List PV:= [.i .i64 r.1,.i .i64 r.2]
def clR (c:Cl):Int×Int:=(c.1,c.2.1)
def qFs (ar:List Ar) (l:List Cl):List (Int×Int):=(l.filter fun c=>ar.any (iaB c.1 c.2.1)).map clR
theorem qUx {m:Nat} {acc:List (List PV)} {e:List PV} (hm:m=acc.length) (hb:m≤1000) (he:e.length=2):decide (m=acc.length∧0<2∧0<16∧(m+ [e].length)*16≤140737488355328∧ [e].all (fun e=>e.length==2)=true)=true:=decide_eq_true ⟨hm,by decide,by decide,by simp;omega,by simp [he]⟩
theorem qTu (ar:List Ar) (l:List Cl):(qFs ar l).length≤l.length:=by
 unfold qFs
 rw [List.length_map]
 exact List.length_filter_le _ _
theorem qQQ {ar:List Ar} {l:List Cl} {i:Nat} {c:Cl} (h:l[i]?=some c):qFs ar (l.take (i+1))=qFs ar (l.take i)++(if ar.any (iaB c.1 c.2.1)=true then [clR c] else []):=by
 unfold qFs
 rw [qFr h,List.map_append]
 split<;>rfl
theorem qTv {l:List Cl} {c r:Int} (hs:∀c∈l,c.2.2.size≤140737488351232):(qQO l c r).size≤140737488351232:=by
 unfold qQO
 cases h:l.find? fun e=>e.1==c&&e.2.1==r with
 |none=>show (⟨#[]⟩:ByteArray).size≤_;decide
 |some e=>exact hs e (List.mem_of_find?_eq_some h)
def qNy (l:List Cl) (x y:Int):List (Int×Int):=qFs (arL (qQO l x y)) l
theorem qUS {α:Type} {p:α→Bool} {l:List α} {i:Nat} {a:α} (h:l[i]?=some a):(l.take (i+1)).any p=((l.take i).any p||p a):=by
 rw [List.take_add_one,h,List.any_append]
 simp
theorem qQx (ar:List Ar) (ha:ar.length≤1000) (l:List Cl) (hl:l.length≤120):∃n0,∀m,n0≤m→zD (qDg m) m (l.map qR,0,ar.map qCg,0,[])=some ((qFs ar l).length,(qFs ar l).map qS7):=by
 obtain ⟨n1,h1⟩:=qBL (F:=fun (q:Cl×Ar) n=>qEO n q.1.1 q.1.2.1 q.2.1 q.2.2.1 q.2.2.2.1 q.2.2.2.2) (f:=fun q=>iaB q.1.1 q.1.2.1 q.2) (l.flatMap fun c=>ar.map fun a=>(c,a)) fun q _=>qNx q.1.1 q.1.2.1 q.2
 refine ⟨n1+l.length+ar.length+5,fun m hm=>?_⟩
 have inner:∀(i:Nat) (c:Cl) (k:Nat) (acc:List (List PV)),l[i]?=some c→zD (qC2 m) m (l.map qR,k,ar.map qCg,(i:Int),false,0,acc)=some (l.map qR,k,ar.map qCg,(i:Int),ar.any (iaB c.1 c.2.1),acc):=fun i c k acc he=>by
  have hg:(l.map qR)[i]?=some (qR c):=by rw [List.getElem?_map,he];rfl
  obtain ⟨a1,a2⟩:=qHQ rfl hg
  have h:=qQN (B:=qC2 m) (fun j=>(l.map qR,k,ar.map qCg,(i:Int),(ar.take j).any (iaB c.1 c.2.1),(j:Int),acc)) ar (fun _ _=>none) (l.map qR,k,ar.map qCg,(i:Int),ar.any (iaB c.1 c.2.1),acc)
   (fun j a hj=>by
    have hji:=(List.getElem?_eq_some_iff.1 hj).1
    have hga:(ar.map qCg)[j]?=some (qCg a):=by rw [List.getElem?_map,hj];rfl
    obtain ⟨b1,b2⟩:=qHQ rfl hga
    have w:IntKind.i64.wrap ((j:Int)+1)=((j+1:Nat):Int):=by rw [qV (by omega)];omega
    have h1:=h1 m (by omega) (c,a) (List.mem_flatMap.2 ⟨c,List.mem_of_getElem? he,List.mem_map.2 ⟨a,List.mem_of_getElem? hj,rfl⟩⟩)
    refine qD (decide_eq_true (by simpa using hji)) ?_
    dsimp only
    rw [qUS hj,w]
    cases (ar.take j).any (iaB c.1 c.2.1) with
    |true=>exact qD rfl rfl
    |false=>
     refine qO rfl (qD a1 (qA a2 (qD rfl (qA rfl (qA rfl (qD b1 (qA b2 (qD rfl (qA rfl (qA rfl (qA rfl (qA rfl (qA h1 ?_)))))))))))))
     rw [Bool.false_or]
     rfl)
   (qO (decide_eq_false (by simp)) (by rw [List.take_length];rfl)) m (by omega)
  rw [qEh] at h
  exact h
 have h:=qQN (B:=qDg m) (fun i=>(l.map qR,(qFs ar (l.take i)).length,ar.map qCg,(i:Int),(qFs ar (l.take i)).map qS7)) l (fun _ _=>none) ((qFs ar l).length,(qFs ar l).map qS7)
  (fun i c he=>by
   have hi:=(List.getElem?_eq_some_iff.1 he).1
   have hg:(l.map qR)[i]?=some (qR c):=by rw [List.getElem?_map,he];rfl
   obtain ⟨a1,a2⟩:=qHQ rfl hg
   have hle:(qFs ar (l.take i)).length≤1000:=Nat.le_trans (qTu _ _) (by simp;omega)
   have ea:(qFs ar (l.take i)).length=((qFs ar (l.take i)).map qS7).length:=by simp
   have w:IntKind.i64.wrap ((i:Int)+1)=((i+1:Nat):Int):=by rw [qV (by omega)];omega
   refine qD (decide_eq_true (by simpa using hi)) (qA (inner i c _ _ he) ?_)
   dsimp only
   rw [qQQ he,w]
   cases ar.any (iaB c.1 c.2.1) with
   |true=>
    refine qD rfl (qD a1 (qA a2 (qD rfl (qA rfl (qA rfl (qD rfl (qD (qUx ea hle rfl) ?_)))))))
    simp [Tr.run,qS7,clR]
   |false=>
    refine qO rfl ?_
    simp [Tr.run])
  (qO (decide_eq_false (by simp)) (by rw [List.take_length];rfl)) m (by omega)
 rw [qEh] at h
 exact h
theorem qJd (l:List Cl) (x y:Int) (hl:l.length≤120) (hs:∀c∈l,c.2.2.size≤140737488351232):Ev (qCU · (l.map qR) x y) ((qNy l x y).length,(qNy l x y).map qS7):=
 qDw (qCY (R:=fun n=>qGt n (l.map qR) x y) (qBO (qRx l x y (by omega)) (qBO (qPB _ (qTv hs)) (qBO (qQx _ (by have:=qTV (qQO l x y);omega) l hl) (qAi rfl)))) fun n=>rfl)
theorem qTX {α:Type} {enc:α→List PV} {l:List α} {i:Nat} {a:α} (h:l[i]?=some a):(l.map enc)[i]?=some (enc a):=by rw [List.getElem?_map,h];rfl
def qTY {α:Type} (p:α→Bool) (l:List α):Int:=(qD5 (fun i a=>if p a=true then some (i:Int) else none) 0 l).getD (-1)
theorem qSh {α:Type} (p:α→Bool):∀(l:List α) (i:Nat),qD5 (fun i a=>if p a=true then some (Sum.inl (β:=Unit) (i:Int)) else none) i l=(qD5 (fun i a=>if p a=true then some (i:Int) else none) i l).map Sum.inl
 | [],i=>rfl
 |a::l,i=>by
  unfold qD5
  cases p a with
  |true=>rfl
  |false=>exact qSh p l (i+1)
theorem qUy {α:Type} (p:α→Bool) {l:List α} {K1:Nat→Int→Tr Int} {K2:Nat→Unit→Tr Int} {F:Nat→Option (Int⊕Unit)} (hF:Ev F ((qD5 (fun i a=>if p a=true then some (Sum.inl (β:=Unit) (i:Int)) else none) 0 l).getD (.inr ()))) (h1:∀n r,K1 n r= .done r) (h2:∀n r,K2 n r= .done (-1)):Dwx (fun y=>y=qTY p l) fun n=> .opt (F n) fun r=> .alt r (K1 n) (K2 n):=by
 refine qBO hF ?_
 rw [qSh]
 unfold qTY
 cases qD5 (fun i a=>if p a=true then some (i:Int) else none) 0 l with
 |some k=>exact qRy (by simp only [h1];exact qAi rfl)
 |none=>exact qQP (by simp only [h2];exact qAi rfl)
theorem qSi {α:Type} (p:α→Bool):∀(l:List α) (i:Nat),(qD5 (fun i a=>if p a=true then some (i:Int) else none) i l=none∧l.find? p=none)∨∃(k:Nat) (a:α),qD5 (fun i a=>if p a=true then some (i:Int) else none) i l=some ((i+k:Nat):Int)∧l.find? p=some a∧l[k]?=some a
 | [],i=> .inl ⟨rfl,rfl⟩
 |a::l,i=>by
  unfold qD5
  rw [List.find?_cons]
  cases p a with
  |true=>exact .inr ⟨0,a,rfl,rfl,rfl⟩
  |false=>
   rcases qSi p l (i+1) with h|⟨k,b,h1,h2,h3⟩
   ·exact .inl h
   ·exact .inr ⟨k+1,b,by rw [show i+(k+1)=i+1+k by omega];exact h1,h2,by simpa using h3⟩
inductive Rch (sc:Nat→List Nat) (a:Nat):Nat→Prop
 |one {j:Nat}:j∈sc a→Rch sc a j
 |more {i j:Nat}:Rch sc a i→j∈sc i→Rch sc a j
def qBk (Q:List Nat):List Nat→List Nat
 | []=>Q
 |x::M=>qBk (if Q.contains x=true then Q else Q++ [x]) M
theorem qEc {x:Nat}:∀(M Q:List Nat),x∈qBk Q M↔x∈Q∨x∈M
 | [],Q=>by simp [qBk]
 |y::M,Q=>by
  unfold qBk
  rw [qEc M]
  by_cases h:Q.contains y=true
  ·rw [if_pos h]
   have hy:y∈Q:=by simpa using h
   rw [List.mem_cons]
   constructor
   ·rintro (h|h)
    ·exact .inl h
    ·exact .inr (.inr h)
   ·rintro (h|rfl|h)
    ·exact .inl h
    ·exact .inl hy
    ·exact .inr h
  ·rw [if_neg h,List.mem_append,List.mem_singleton,List.mem_cons,or_assoc]
theorem qJF:∀(M Q:List Nat),Q.Nodup→(qBk Q M).Nodup
 | [],Q,h=>h
 |y::M,Q,h=>by
  unfold qBk
  refine qJF M _ ?_
  by_cases hy:Q.contains y=true
  ·rw [if_pos hy];exact h
  ·rw [if_neg hy]
   have hy':y∉Q:=by simpa using hy
   rw [List.nodup_append]
   refine ⟨h,by simp,fun a ha b hb=>?_⟩
   rw [List.mem_singleton] at hb
   subst hb
   rintro rfl
   exact hy' ha
theorem qMD:∀(M Q:List Nat) (k:Nat),k<Q.length→(qBk Q M)[k]?=Q[k]?
 | [],Q,k,h=>rfl
 |y::M,Q,k,h=>by
  unfold qBk
  by_cases hy:Q.contains y=true
  ·rw [if_pos hy];exact qMD M Q k h
  ·rw [if_neg hy,qMD M _ k (by simp;omega),List.getElem?_append_left h]
theorem qQR:∀(M Q:List Nat),Q.length≤(qBk Q M).length
 | [],Q=>Nat.le_refl _
 |y::M,Q=>by
  unfold qBk
  refine Nat.le_trans ?_ (qQR M _)
  split
  ·exact Nat.le_refl _
  ·simp
theorem qR1:∀(n:Nat) (l:List Nat),l.Nodup→(∀x∈l,x<n)→l.length≤n
 |0,l,_,h=>by
  cases l with
  |nil=>simp
  |cons a l=>exact absurd (h a (List.mem_cons_self ..)) (Nat.not_lt_zero a)
 |n+1,l,hd,h=>by
  by_cases hn:n∈l
  ·have h1:=qR1 n (l.erase n) (hd.erase n) fun x hx=>by
    have h2:=(hd.mem_erase_iff).1 hx
    have:=h x h2.2
    omega
   rw [List.length_erase_of_mem hn] at h1
   omega
  ·have:=qR1 n l hd fun x hx=>by
    have h2:=h x hx
    have h3:x≠n:=fun e=>hn (e▸hx)
    omega
   omega
structure QI (sc:Nat→List Nat) (a n:Nat) (Q:List Nat) (k:Nat):Prop where
 nd:Q.Nodup
 lt:∀x∈Q,x<n
 rc:∀x∈Q,Rch sc a x
 st:∀j∈sc a,j∈Q
 dn:∀i q,i<k→Q[i]?=some q→q≠a∧∀j∈sc q,j∈Q
theorem QI.len {sc:Nat→List Nat} {a n:Nat} {Q:List Nat} {k:Nat} (h:QI sc a n Q k):Q.length≤n:=qR1 n Q h.nd h.lt
theorem QI.all {sc:Nat→List Nat} {a n:Nat} {Q:List Nat} (h:QI sc a n Q Q.length):¬Rch sc a a:=by
 have key:∀x,Rch sc a x→x∈Q:=fun x hx=>by
  induction hx with
  |one h1=>exact h.st _ h1
  |more h1 h2 ih=>
   obtain ⟨i,hi,e⟩:=List.mem_iff_getElem.1 ih
   exact (h.dn i _ hi (by rw [List.getElem?_eq_getElem hi,e])).2 _ h2
 intro hr
 obtain ⟨i,hi,e⟩:=List.mem_iff_getElem.1 (key a hr)
 exact (h.dn i _ hi (by rw [List.getElem?_eq_getElem hi,e])).1 rfl
theorem QI.next {sc:Nat→List Nat} {a n:Nat} {Q:List Nat} {k q:Nat} (h:QI sc a n Q k) (hq:Q[k]?=some q) (hne:q≠a) (hs:∀j∈sc q,j<n):QI sc a n (qBk Q (sc q)) (k+1):=by
 have hk:=(List.getElem?_eq_some_iff.1 hq).1
 have hm:=List.mem_of_getElem? hq
 refine ⟨qJF _ _ h.nd,fun x hx=>?_,fun x hx=>?_,fun j hj=>(qEc _ _).2 (.inl (h.st j hj)),fun i r hi hr=>?_⟩
 ·rcases (qEc _ _).1 hx with hx|hx
  ·exact h.lt x hx
  ·exact hs x hx
 ·rcases (qEc _ _).1 hx with hx|hx
  ·exact h.rc x hx
  ·exact .more (h.rc q hm) hx
 ·rw [qMD _ _ i (by omega)] at hr
  by_cases e:i=k
  ·subst e
   rw [hq] at hr
   cases hr
   exact ⟨hne,fun j hj=>(qEc _ _).2 (.inr hj)⟩
  ·obtain ⟨h1,h2⟩:=h.dn i r (by omega) hr
   exact ⟨h1,fun j hj=>(qEc _ _).2 (.inl (h2 j hj))⟩
theorem QI.start {sc:Nat→List Nat} {a n:Nat} (hd:(sc a).Nodup) (hs:∀j∈sc a,j<n):QI sc a n (sc a) 0:=⟨hd,hs,fun x hx=> .one hx,fun j hj=>hj,fun i q hi=>absurd hi (Nat.not_lt_zero i)⟩
structure MI (sc:Nat→List Nat) (a n:Nat) (met:List Bool) (Q:List Nat) (k:Nat):Prop where
 ln:met.length=n
 kl:k≤Q.length
 lt:∀x∈Q,x<n
 rc:∀x∈Q,Rch sc a x
 st:∀j∈sc a,j∈Q
 mt:∀i,met[i]?=some true→∀j∈sc i,j∈Q
 dn:∀i q,i<k→Q[i]?=some q→q≠a∧met[q]?=some true
theorem MI.all {sc:Nat→List Nat} {a n:Nat} {met:List Bool} {Q:List Nat} (h:MI sc a n met Q Q.length):¬Rch sc a a:=by
 have key:∀x,Rch sc a x→x∈Q:=fun x hx=>by
  induction hx with
  |one h1=>exact h.st _ h1
  |more h1 h2 ih=>
   obtain ⟨i,hi,e⟩:=List.mem_iff_getElem.1 ih
   exact h.mt _ (h.dn i _ hi (by rw [List.getElem?_eq_getElem hi,e])).2 _ h2
 intro hr
 obtain ⟨i,hi,e⟩:=List.mem_iff_getElem.1 (key a hr)
 exact (h.dn i _ hi (by rw [List.getElem?_eq_getElem hi,e])).1 rfl
theorem MI.old {sc:Nat→List Nat} {a n:Nat} {met:List Bool} {Q:List Nat} {k q:Nat} (h:MI sc a n met Q k) (hq:Q[k]?=some q) (hne:q≠a) (hm:met[q]?=some true):MI sc a n met Q (k+1):=by
 have hk:=(List.getElem?_eq_some_iff.1 hq).1
 refine ⟨h.ln,hk,h.lt,h.rc,h.st,h.mt,fun i r hi hr=>?_⟩
 by_cases e:i=k
 ·subst e
  rw [hq] at hr
  cases hr
  exact ⟨hne,hm⟩
 ·exact h.dn i r (by omega) hr
theorem MI.new {sc:Nat→List Nat} {a n:Nat} {met:List Bool} {Q:List Nat} {k q:Nat} (h:MI sc a n met Q k) (hq:Q[k]?=some q) (hne:q≠a) (hs:∀j∈sc q,j<n):MI sc a n (met.set q true) (Q++sc q) (k+1):=by
 have hk:=(List.getElem?_eq_some_iff.1 hq).1
 have hm:=List.mem_of_getElem? hq
 have hl:q<met.length:=by rw [h.ln];exact h.lt q hm
 refine ⟨by rw [List.length_set];exact h.ln,by simp;omega,fun x hx=>?_,fun x hx=>?_,fun j hj=>List.mem_append_left _ (h.st j hj),fun i hi j hj=>?_,fun i r hi hr=>?_⟩
 ·rcases List.mem_append.1 hx with hx|hx
  ·exact h.lt x hx
  ·exact hs x hx
 ·rcases List.mem_append.1 hx with hx|hx
  ·exact h.rc x hx
  ·exact .more (h.rc q hm) hx
 ·by_cases e:i=q
  ·subst e;exact List.mem_append_right _ hj
  ·rw [List.getElem?_set_ne (by omega)] at hi
   exact List.mem_append_left _ (h.mt i hi j hj)
 ·have hset:∀r,met[r]?=some true→(met.set q true)[r]?=some true:=fun r hr=>by
   by_cases e:q=r
   ·subst e;exact List.getElem?_set_self hl
   ·rw [List.getElem?_set_ne e];exact hr
  rw [List.getElem?_append_left (by omega)] at hr
  by_cases e:i=k
  ·subst e
   rw [hq] at hr
   cases hr
   exact ⟨hne,List.getElem?_set_self hl⟩
  ·obtain ⟨h1,h2⟩:=h.dn i r (by omega) hr
   exact ⟨h1,hset r h2⟩
def unm (sc:Nat→List Nat):Nat→List Bool→Nat
 |_,[]=>0
 |i,b::r=>(if b=true then 0 else (sc i).length)+unm sc (i+1) r
theorem qTZ {sc:Nat→List Nat}:∀(met:List Bool) (i q:Nat),met[q]?=some false→unm sc i (met.set q true)+(sc (i+q)).length=unm sc i met
 | [],i,q,h=>by simp at h
 |b::r,i,0,h=>by
  simp only [List.getElem?_cons_zero,Option.some.injEq] at h
  subst h
  simp [unm]
  omega
 |b::r,i,q+1,h=>by
  have:=qTZ (sc:=sc) r (i+1) q (by simpa using h)
  simp only [List.set_cons_succ,unm]
  rw [show i+1+q=i+(q+1) by omega] at this
  omega
theorem MI.start {sc:Nat→List Nat} {a n:Nat} (hs:∀j∈sc a,j<n):MI sc a n (List.replicate n false) (sc a) 0:=⟨by simp,Nat.zero_le _,hs,fun x hx=> .one hx,fun j hj=>hj,fun i hi=>by
 obtain ⟨h1,h2⟩:=List.getElem?_eq_some_iff.1 hi
 simp at h2,fun i q hi=>absurd hi (Nat.not_lt_zero i)⟩
def qGY (k:Nat):List PV:=qAz (k:Int)
def qUz (ar:List Ar) (l:List Cl) (k:Nat):Bool:=match l[k]? with
 |some c=>ar.any (iaB c.1 c.2.1)
 |none=>false
def qDk (ar:List Ar) (l:List Cl) (i:Nat):List Nat:=(List.range i).filter (qUz ar l)
theorem qQS {ar:List Ar} {l:List Cl} {i:Nat} {c:Cl} (h:l[i]?=some c):qDk ar l (i+1)=qDk ar l i++(if ar.any (iaB c.1 c.2.1)=true then [i] else []):=by
 unfold qDk
 rw [List.range_succ,List.filter_append]
 have e:qUz ar l i=ar.any (iaB c.1 c.2.1):=by unfold qUz;simp only [h]
 congr 1
 rw [List.filter_cons,e]
 rfl
theorem qKw (ar:List Ar) (l:List Cl) (i:Nat):(qDk ar l i).length≤i:=by
 unfold qDk
 have:=List.length_filter_le (qUz ar l) (List.range i)
 rwa [List.length_range] at this
theorem qKl {ar:List Ar} {l:List Cl} {i j:Nat} (h:j∈qDk ar l i):j<i:=by
 unfold qDk at h
 exact List.mem_range.1 (List.mem_filter.1 h).1
theorem qUT (ar:List Ar) (l:List Cl) (i:Nat):(qDk ar l i).Nodup:=List.Pairwise.filter _ List.nodup_range
def qA5 (l:List Cl) (k:Nat):Int×Int:=((l[k]?).map clR).getD (0,0)
def qSj (l:List Cl) (k:Nat):ByteArray:=((l[k]?).map fun c=>c.2.2).getD ⟨#[]⟩
def scL (l:List Cl) (k:Nat):List Nat:=qDk (arL (qSj l k)) l l.length
theorem qTa (ar:List Ar) (l:List Cl):∀i,i≤l.length→qFs ar (l.take i)=(qDk ar l i).map (qA5 l)
 |0,_=>rfl
 |i+1,h=>by
  have hg:=List.getElem?_eq_getElem (l:=l) (i:=i) (by omega)
  rw [qQQ hg,qQS hg,List.map_append,qTa ar l i (by omega)]
  congr 1
  split
  ·show [clR l[i]]= [qA5 l i]
   unfold qA5
   rw [hg]
   rfl
  ·rfl
theorem qR2 {m:Nat} {acc:List (List PV)} {e:List PV} {z:Nat} (hz:0<z∧z≤24) (hm:m=acc.length) (hb:m≤1000) (he:e.length=1):decide (m=acc.length∧0<1∧0<z∧(m+ [e].length)*z≤140737488355328∧ [e].all (fun e=>e.length==1)=true)=true:=
 decide_eq_true ⟨hm,by decide,hz.1,by
  have:(m+ [e].length)*z≤1001*24:=Nat.mul_le_mul (by simp;omega) hz.2
  omega,by simp [he]⟩
theorem qUU (ar:List Ar) (ha:ar.length≤1000) (l:List Cl) (hl:l.length≤120):∃n0,∀m,n0≤m→∀(f F L:List (List PV)) (i:Int) (a b:Nat),zD (qBU m) m (l.map qR,f,ar.map qCg,0,l.map qR,(l.length:Int),i,l.map qR,(l.length:Int),0,l.map qR,a,b,[],F,L)=
  some (l.map qR,f,(qDk ar l l.length).length,l.map qR,(l.length:Int),i,l.map qR,a,b,(qDk ar l l.length).map qGY,F,L):=by
 obtain ⟨n1,h1⟩:=qBL (F:=fun (c:Cl) n=>qHh n (ar.map qCg) c.1 c.2.1) (f:=fun c=>ar.any (iaB c.1 c.2.1)) l fun c _=>qR0 ar ha c.1 c.2.1
 refine ⟨n1+l.length+3,fun m hm f F L i0 a b=>?_⟩
 have h:=qQN (B:=qBU m) (fun k=>(l.map qR,f,ar.map qCg,(qDk ar l k).length,l.map qR,(l.length:Int),i0,l.map qR,(l.length:Int),(k:Int),l.map qR,a,b,(qDk ar l k).map qGY,F,L)) l (fun _ _=>none)
  (l.map qR,f,(qDk ar l l.length).length,l.map qR,(l.length:Int),i0,l.map qR,a,b,(qDk ar l l.length).map qGY,F,L)
  (fun i c he=>by
   have hi:=(List.getElem?_eq_some_iff.1 he).1
   have hg:(l.map qR)[i]?=some (qR c):=by rw [List.getElem?_map,he];rfl
   obtain ⟨a1,a2⟩:=qHQ rfl hg
   have h1:=h1 m (by omega) c (List.mem_of_getElem? he)
   have hle:(qDk ar l i).length≤1000:=Nat.le_trans (qKw _ _ _) (by omega)
   have ea:(qDk ar l i).length=((qDk ar l i).map qGY).length:=by simp
   have w:IntKind.i64.wrap ((i:Int)+1)=((i+1:Nat):Int):=by rw [qV (by omega)];omega
   refine qD (decide_eq_true (by dsimp only;omega)) (qD a1 (qA a2 (qD rfl (qA rfl (qA rfl (qA rfl (qA h1 ?_)))))))
   dsimp only
   rw [qQS he,w]
   cases ar.any (iaB c.1 c.2.1) with
   |true=>
    refine qD rfl (qD rfl (qD (qR2 (by decide) ea hle rfl) ?_))
    simp [Tr.run,qGY,qAz]
   |false=>
    refine qO rfl ?_
    simp [Tr.run])
  (qO (decide_eq_false (by simp)) rfl) m (by omega)
 rw [qEh] at h
 exact h
def qSk (c:Cl):List PV:= [.ls ((fnL c.2.2).1.map qW)]
def qKm (l:List Cl) (k:Nat):List PV:= [.ls ((scL l k).map qGY)]
theorem qSl (l:List Cl) (hl:l.length≤120) (hs:∀c∈l,c.2.2.size≤140737488351232):Ev (qF7 · (l.map qR)) (l.map qR,l.map qSk,(List.range l.length).map (qKm l)):=by
 obtain ⟨n1,h1⟩:=qBL (F:=fun (c:Cl) n=>qD1 n c.2.2) (f:=fun c=>((fnL c.2.2).1.map qW,(fnL c.2.2).2)) l fun c hc=>qM1 c.2.2 (hs c hc)
 obtain ⟨n2,h2⟩:=qBL (F:=fun (c:Cl) n=>qE4 n ((fnL c.2.2).1.map qW)) (f:=fun c=>(arL c.2.2).map qCg) l fun c hc=>by
  have:=qPA (fnL c.2.2).1 (by have:=(qRz c.2.2).1;omega)
  rwa [qSg] at this
 have hG:∃n0,∀m,n0≤m→∀c∈l,∀(f F L:List (List PV)) (i:Int) (a b:Nat),zD (qBU m) m (l.map qR,f,(arL c.2.2).map qCg,0,l.map qR,(l.length:Int),i,l.map qR,(l.length:Int),0,l.map qR,a,b,[],F,L)=
   some (l.map qR,f,(qDk (arL c.2.2) l l.length).length,l.map qR,(l.length:Int),i,l.map qR,a,b,(qDk (arL c.2.2) l l.length).map qGY,F,L):=by
  have key:∀r:List Cl,∃n0,∀m,n0≤m→∀c∈r,∀(f F L:List (List PV)) (i:Int) (a b:Nat),zD (qBU m) m (l.map qR,f,(arL c.2.2).map qCg,0,l.map qR,(l.length:Int),i,l.map qR,(l.length:Int),0,l.map qR,a,b,[],F,L)=
    some (l.map qR,f,(qDk (arL c.2.2) l l.length).length,l.map qR,(l.length:Int),i,l.map qR,a,b,(qDk (arL c.2.2) l l.length).map qGY,F,L):=fun r=>by
   induction r with
   |nil=>exact ⟨0,fun m _ c hc=>by cases hc⟩
   |cons c r ih=>
    obtain ⟨n3,h3⟩:=ih
    obtain ⟨n4,h4⟩:=qUU (arL c.2.2) (by have:=qTV c.2.2;omega) l hl
    refine ⟨n3+n4,fun m hm d hd=>?_⟩
    rcases List.mem_cons.1 hd with rfl|hd
    ·exact h4 m (by omega)
    ·exact h3 m (by omega) d hd
  exact key l
 obtain ⟨n3,h3⟩:=hG
 refine ⟨n1+n2+n3+l.length+4,fun n hn=>?_⟩
 obtain ⟨m,rfl,hm⟩:=up1 hn
 have eL:((l.map qR).length:Int)=(l.length:Int):=by rw [List.length_map]
 have h:=qQN (B:=qEZ m) (fun i=>(l.map qR,l.map qR,(l.length:Int),(i:Int),l.map qR,i,i,(l.take i).map qSk,(List.range i).map (qKm l))) l (fun _ _=>none) (l.map qR,l.length,l.length,l.map qSk,(List.range l.length).map (qKm l))
  (fun i c he=>by
   have hi:=(List.getElem?_eq_some_iff.1 he).1
   have hg:(l.map qR)[i]?=some (qR c):=by rw [List.getElem?_map,he];rfl
   obtain ⟨a1,a2⟩:=qHQ rfl hg
   have hmem:=List.mem_of_getElem? he
   have h1:=h1 m (by omega) c hmem
   have h2:=h2 m (by omega) c hmem
   have h3:=h3 m (by omega) c hmem ((fnL c.2.2).1.map qW) ((l.take i).map qSk) ((List.range i).map (qKm l)) (i:Int) i i
   have w:IntKind.i64.wrap ((i:Int)+1)=((i+1:Nat):Int):=by rw [qV (by omega)];omega
   have e1:(l.take (i+1)).map qSk=(l.take i).map qSk++ [qSk c]:=by rw [List.take_add_one,he,List.map_append];rfl
   have e2:(List.range (i+1)).map (qKm l)=(List.range i).map (qKm l)++ [qKm l i]:=by rw [List.range_succ,List.map_append];rfl
   have e3:qDk (arL c.2.2) l l.length=scL l i:=by unfold scL qSj;rw [he];rfl
   rw [e3] at h3
   refine qD (decide_eq_true (by dsimp only;omega)) (qD a1 (qA a2 (qD rfl (qA rfl (qA rfl (qA rfl (qA h1 (qA h2 ?_))))))))
   dsimp only
   rw [eL]
   refine qA h3 ?_
   dsimp only
   refine qD rfl (qD (qR2 (by decide) (by simp;omega) (by omega) rfl) (qD (decide_eq_true (by simp)) (qD rfl (qD (qR2 (by decide) (by simp) (by omega) rfl) ?_))))
   rw [qC,w,e1,e2]
   rfl)
  (qO (decide_eq_false (by simp)) (by rw [List.take_length];rfl)) m (by omega)
 rw [qEh] at h
 rw [←eL] at h
 exact qA h (qD (decide_eq_true (by simp)) (qD (decide_eq_true (by simp)) rfl))
theorem qNz {a b c d:Int}:qHG a b c d=true↔b<d∨(b=d∧a<c):=by
 unfold qHG
 simp [Bool.or_eq_true,Bool.and_eq_true]
theorem qTb {l:List Cl}:∀(r:List Cl) (i:Nat),qII l i r=true→l.drop i=r→∀j,i≤j→∀c,l[j]?=some c→qIH l j c=true
 | [],i,h,hd,j,hj,c,hc=>by
  have h1:=(List.getElem?_eq_some_iff.1 hc).1
  have h2:=congrArg List.length hd
  simp at h2
  omega
 |a::r,i,h,hd,j,hj,c,hc=>by
  unfold qII at h
  simp only [Bool.and_eq_true] at h
  have hg:l[i]?=some a:=by rw [←List.head?_drop,hd];rfl
  have hd':l.drop (i+1)=r:=by rw [←List.tail_drop,hd];rfl
  by_cases e:j=i
  ·subst e
   rw [hg] at hc
   cases hc
   exact h.1.2.2
  ·exact qTb r (i+1) h.2 hd' j (by omega) c hc
theorem qSm {l:List Cl} (h:qDX l=true):∀(d i:Nat) (p c:Cl),l[i]?=some p→l[i+d+1]?=some c→qHG p.1 p.2.1 c.1 c.2.1=true:=by
 unfold qDX at h
 rw [Bool.and_eq_true] at h
 have hp:=qTb l 0 h.1 rfl
 intro d
 induction d with
 |zero=>
  intro i p c h1 h2
  have h3:=hp (i+1) (Nat.zero_le _) c h2
  unfold qIH at h3
  simp only [h1] at h3
  exact h3
 |succ d ih=>
  intro i p c h1 h2
  have hl:=(List.getElem?_eq_some_iff.1 h2).1
  have hg:=List.getElem?_eq_getElem (l:=l) (i:=i+d+1) (by omega)
  have h3:=ih i p _ h1 hg
  have h4:=hp (i+d+1+1) (Nat.zero_le _) c (by rw [show i+d+1+1=i+(d+1)+1 by omega];exact h2)
  unfold qIH at h4
  simp only [hg] at h4
  rw [qNz] at h3 h4⊢
  omega
theorem qTc {l:List Cl} (h:qDX l=true) {i j:Nat} {p c:Cl} (hi:l[i]?=some p) (hj:l[j]?=some c) (he:clR p=clR c):i=j:=by
 have e1:(clR p).1=(clR c).1:=congrArg Prod.fst he
 have e2:(clR p).2=(clR c).2:=congrArg Prod.snd he
 have e1:p.1=c.1:=e1
 have e2:p.2.1=c.2.1:=e2
 rcases Nat.lt_trichotomy i j with hlt|rfl|hlt
 ·have:=qSm h (j-i-1) i p c hi (by rw [show i+(j-i-1)+1=j by omega];exact hj)
  rw [qNz] at this
  omega
 ·rfl
 ·have:=qSm h (i-j-1) j c p hj (by rw [show j+(i-j-1)+1=i by omega];exact hi)
  rw [qNz] at this
  omega
theorem qFV {l:List Cl} {k:Nat} {c:Cl} (h:l[k]?=some c):qA5 l k=clR c:=by unfold qA5;rw [h];rfl
theorem qKx {l:List Cl} (h:qDX l=true) {i j:Nat} (hi:i<l.length) (hj:j<l.length) (he:qA5 l i=qA5 l j):i=j:=by
 have h1:=List.getElem?_eq_getElem hi
 have h2:=List.getElem?_eq_getElem hj
 rw [qFV h1,qFV h2] at he
 exact qTc h h1 h2 he
theorem qU0 {l:List Cl} (h:qDX l=true) {k:Nat} {c:Cl} (hk:l[k]?=some c):qQO l c.1 c.2.1=c.2.2:=by
 unfold qQO
 cases hf:l.find? fun e=>e.1==c.1&&e.2.1==c.2.1 with
 |none=>
  have:=List.find?_eq_none.1 hf c (List.mem_of_getElem? hk)
  simp at this
 |some e=>
  have h1:=List.find?_some hf
  simp only [Bool.and_eq_true,beq_iff_eq] at h1
  obtain ⟨i,hi,e1⟩:=List.mem_iff_getElem.1 (List.mem_of_find?_eq_some hf)
  have hg:l[i]?=some e:=by rw [List.getElem?_eq_getElem hi,e1]
  have:=qTc h hg hk (Prod.ext h1.1 h1.2)
  subst this
  rw [hg] at hk
  cases hk
  rfl
theorem qUV {l:List Cl} (h:qDX l=true) {k:Nat} (hk:k<l.length):qNy l (qA5 l k).1 (qA5 l k).2=(scL l k).map (qA5 l):=by
 have hg:=List.getElem?_eq_getElem hk
 have e:=qTa (arL (qSj l k)) l l.length (Nat.le_refl _)
 rw [List.take_length] at e
 unfold qNy
 rw [qFV hg,show qQO l (clR l[k]).1 (clR l[k]).2=qSj l k from (qU0 h hg).trans (by unfold qSj;rw [hg];rfl)]
 exact e
def qSn (b:Bool):List PV:= [.b b]
theorem qUW {Q:List Nat} {k q:Nat} (h:Q[k]?=some q):(Q.map qGY)[k]?=some (qGY q):=by rw [List.getElem?_map,h];rfl
theorem qRN (n:Nat) (l:List Cl) (hl:l.length≤120) (a:Nat) (G:List (List PV)):∀(d k:Nat) (met:List Bool) (Q:List Nat) (M:Nat),MI (scL l) a l.length met Q k→Q.length+unm (scL l) 0 met≤20000→Q.length+unm (scL l) 0 met=k+d→d+1≤M→
  ∃b:Bool,(b=true↔Rch (scL l) a a)∧zD (qDT n) M ((a:Int),l.length,Q.length,(k:Int),l.map qR,G,(List.range l.length).map (qKm l),met.map qSn,Q.map qGY)=some (if b=true then .inl true else .inr ()):=by
 intro d
 induction d with
 |zero=>
  intro k met Q M hI hB hD hM
  obtain ⟨M,rfl⟩:∃q,M=q+1:=⟨M-1,by omega⟩
  have hk:k=Q.length:=by have:=hI.kl;omega
  subst hk
  exact ⟨false,⟨fun h=>(by cases h),fun h=>absurd h hI.all⟩,qP (qO (decide_eq_false (by simp)) rfl)⟩
 |succ d ih=>
  intro k met Q M hI hB hD hM
  obtain ⟨M,rfl⟩:∃q,M=q+1:=⟨M-1,by omega⟩
  by_cases hk:k=Q.length
  ·subst hk
   exact ⟨false,⟨fun h=>(by cases h),fun h=>absurd h hI.all⟩,qP (qO (decide_eq_false (by simp)) rfl)⟩
  have hkl:k<Q.length:=by have:=hI.kl;omega
  have hg:=List.getElem?_eq_getElem hkl
  generalize Q[k]=q at hg
  have hq:=hI.lt q (List.mem_of_getElem? hg)
  have hr:=hI.rc q (List.mem_of_getElem? hg)
  have w:IntKind.i64.wrap ((k:Int)+1)=((k+1:Nat):Int):=by rw [qV (by omega)];omega
  have c1:decide ((k:Int)<((Q.length:Nat):Int))=true:=decide_eq_true (by omega)
  have c2:decide (Q.length=(Q.map qGY).length∧0≤(k:Int)∧(k:Int)<((Q.length:Nat):Int))=true:=decide_eq_true ⟨by simp,by omega,by omega⟩
  have c3:(Q.map qGY)[((k:Int)).toNat]?=some (qGY q):=by rw [Int.toNat_natCast];exact qUW hg
  by_cases hqa:q=a
  ·subst hqa
   exact ⟨true,⟨fun _=>hr,fun _=>rfl⟩,qP (qD c1 (qD c2 (qA c3 (qA rfl (qD (beq_self_eq_true _) rfl)))))⟩
  have hml:q<met.length:=by rw [hI.ln];exact hq
  have hmg:=List.getElem?_eq_getElem hml
  generalize met[q]=b at hmg
  have c4:((q:Int)==(a:Int))=false:=beq_eq_false_iff_ne.2 (by omega)
  have c5:decide (l.length=(met.map qSn).length∧0≤(q:Int)∧(q:Int)<((l.length:Nat):Int))=true:=decide_eq_true ⟨by rw [List.length_map,hI.ln],by omega,by omega⟩
  have c6:(met.map qSn)[((q:Int)).toNat]?=some (qSn b):=by rw [Int.toNat_natCast,List.getElem?_map,hmg];rfl
  cases b with
  |true=>
   obtain ⟨b,h1,h2⟩:=ih (k+1) met Q M (hI.old hg hqa hmg) hB (by omega) (by omega)
   refine ⟨b,h1,?_⟩
   rw [qU (v':=((a:Int),l.length,Q.length,((k+1:Nat):Int),l.map qR,G,(List.range l.length).map (qKm l),met.map qSn,Q.map qGY)) (by
    refine qD c1 (qD c2 (qA c3 (qA rfl (qO c4 (qD c5 (qA c6 (qA rfl (qO rfl ?_))))))))
    rw [qC,←w])]
   exact h2
  |false=>
   have hu:=qTZ (sc:=scL l) met 0 q hmg
   rw [Nat.zero_add] at hu
   have hsl:(scL l q).length≤120:=Nat.le_trans (qKw _ _ _) hl
   have hrow:((List.range l.length).map (qKm l))[((q:Int)).toNat]?=some (qKm l q):=by
    rw [Int.toNat_natCast,List.getElem?_map,List.getElem?_range hq]
    rfl
   have c7:decide (0≤(q:Int)∧(q:Int)<(((List.range l.length).map (qKm l)).length:Int))=true:=decide_eq_true ⟨by omega,by simp;omega⟩
   have c8:decide (Q.length=(Q.map qGY).length∧0<1∧0<8∧(Q.length+((scL l q).map qGY).length)*8≤140737488355328∧((scL l q).map qGY).all (fun e=>e.length==1)=true)=true:=decide_eq_true ⟨by simp,by decide,by decide,by rw [List.length_map];omega,by simp [qGY,qAz]⟩
   have s1:(Q++scL l q).length=Q.length+(scL l q).length:=List.length_append
   obtain ⟨b,h1,h2⟩:=ih (k+1) (met.set q true) (Q++scL l q) M (hI.new hg hqa fun j hj=>qKl hj) (by omega) (by omega) (by omega)
   refine ⟨b,h1,?_⟩
   rw [qU (v':=((a:Int),l.length,(Q++scL l q).length,((k+1:Nat):Int),l.map qR,G,(List.range l.length).map (qKm l),(met.set q true).map qSn,(Q++scL l q).map qGY)) (by
    refine qD c1 (qD c2 (qA c3 (qA rfl (qO c4 (qD c5 (qA c6 (qA rfl (qD rfl (qD c5 (qA c6 (qD rfl (qD c7 (qA hrow (qD rfl (qA rfl (qD c8 ?_))))))))))))))))
    rw [qC,←w,s1,List.map_set,List.map_append,List.length_map,Int.toNat_natCast]
    rfl)]
   exact h2
theorem qUX {sc:Nat→List Nat} (h:∀i,(sc i).length≤120):∀(met:List Bool) (i:Nat),unm sc i met≤120*met.length
 | [],i=>Nat.zero_le _
 |b::r,i=>by
  have h1:=qUX h r (i+1)
  have h2:=h i
  simp only [unm,List.length_cons]
  split<;>omega
theorem qS8 (Q:List Nat) (hb:Q.length≤1000000):Ev (qDS · (Q.map qGY)) (Q.length,Q.map qGY):=by
 refine qDw (qCY (R:=fun n=>qDR n (Q.map qGY)) (qFG (decide_eq_true ⟨rfl,by decide,by decide,by simp;omega,by simp [qGY,qAz]⟩) (qFG ?_ (qAi (by simp)))) fun n=>rfl)
 cases Q with
 |nil=>rfl
 |cons a r=>rfl
theorem qTw (l:List Cl) (hl:l.length≤120) (a:Nat) (ha:a<l.length) (G:List (List PV)):∃b:Bool,(b=true↔Rch (scL l) a a)∧Ev (qEG · (l.map qR) G ((List.range l.length).map (qKm l)) (a:Int)) b:=by
 have hsl:∀i,(scL l i).length≤120:=fun i=>Nat.le_trans (qKw _ _ _) hl
 have hI:MI (scL l) a l.length (List.replicate l.length false) (scL l a) 0:=MI.start fun j hj=>qKl hj
 have hu:=qUX hsl (List.replicate l.length false) 0
 rw [List.length_replicate] at hu
 have hs:=hsl a
 obtain ⟨b,h1,_⟩:=qRN 0 l hl a G ((scL l a).length+unm (scL l) 0 (List.replicate l.length false)) 0 _ _ ((scL l a).length+unm (scL l) 0 (List.replicate l.length false)+1) hI (by omega) (by omega) (Nat.le_refl _)
 refine ⟨b,h1,qDw (qCY (R:=fun n=>qEF n (l.map qR) G ((List.range l.length).map (qKm l)) (a:Int)) ?_ fun n=>rfl)⟩
 have hrow:((List.range l.length).map (qKm l))[((a:Int)).toNat]?=some (qKm l a):=by
  rw [Int.toNat_natCast,List.getElem?_map,List.getElem?_range ha]
  rfl
 refine qFG (decide_eq_true (by rw [List.length_map];omega)) (qFG (decide_eq_true ⟨by omega,by simp;omega⟩) (qM0 hrow (qFG rfl (qM0 rfl (qBO (qS8 (scL l a) (by omega)) ?_)))))
 refine qBO (r:=if b=true then Sum.inl true else Sum.inr ()) ⟨(scL l a).length+unm (scL l) 0 (List.replicate l.length false)+1,fun m hm=>?_⟩ ?_
 ·obtain ⟨b',h1',h2'⟩:=qRN m l hl a G ((scL l a).length+unm (scL l) 0 (List.replicate l.length false)) 0 _ _ m hI (by omega) (by omega) hm
  have e:b'=b:=Bool.eq_iff_iff.2 (h1'.trans h1.symm)
  subst e
  have e1:(((l.map qR).length:Int)).toNat=l.length:=by simp
  have e2:zAI [(.b false)] l.length=(List.replicate l.length false).map qSn:=by simp [zAI,qSn]
  dsimp only
  rw [e1,e2]
  exact h2'
 ·cases b with
  |true=>exact qRy (qAi rfl)
  |false=>exact qQP (qAi rfl)
def atP (x y:Int) (c:Cl):Bool:=(c.1==x)&&((c.2.1==y)&&true)
theorem qSo (l:List Cl) (hl:l.length≤140737488351232) (x y:Int):Ev (qy · (l.map qR) x y) (qTY (atP x y) l):=by
 refine qDw (qCY (R:=fun n=>qx n (l.map qR) x y) (qUy (atP x y) (l:=l) ⟨l.length+2,fun m hm=>?_⟩ (fun _ _=>rfl) fun _ _=>rfl) fun n=>rfl)
 obtain ⟨q,rfl⟩:∃q,m=q+1:=⟨m-1,by omega⟩
 have h:=qQN (B:=qt (q+1)) (fun i=>(l.map qR,x,y,((l.map qR).length:Int),(i:Int))) l (fun i c=>if atP x y c=true then some (Sum.inl (β:=Unit) (i:Int)) else none) (.inr ())
  (fun i c he=>by
   have hi:=(List.getElem?_eq_some_iff.1 he).1
   obtain ⟨a1,a2⟩:=qHQ rfl (qTX (enc:=qR) he)
   have w:IntKind.i64.wrap ((i:Int)+1)=((i+1:Nat):Int):=by rw [qV (by omega)];omega
   refine qD (decide_eq_true (by simpa using hi)) (qD a1 (qA a2 (qD rfl (qA rfl (qA rfl (qA rfl (qA (rfl:_=some (atP x y c)) ?_)))))))
   by_cases hc:atP x y c=true
   ·rw [if_pos hc];exact qD hc rfl
   ·rw [if_neg hc]
    refine qO (Bool.eq_false_iff.2 hc) ?_
    dsimp only
    rw [w]
    rfl)
  (qO (decide_eq_false (by simp)) rfl) (q+1) (by omega)
 exact h
def InC (l:List Cl) (x y:Int):Prop:=qDX l=true∧∃a,a<l.length∧qA5 l a=(x,y)∧Rch (scL l) a a
theorem qKy {l:List Cl} (h:qDX l=true):l.length≤120:=by
 unfold qDX at h
 simp only [Bool.and_eq_true,decide_eq_true_eq] at h
 omega
theorem qN0 (l:List Cl) (x y:Int) (hb:l.length≤140737488351232) (hs:∀c∈l,c.2.2.size≤140737488351232):∃b:Bool,(b=true↔InC l x y)∧Ev (qF9 · (l.map qR) x y) b:=by
 have hS:=qO6 l hb hs
 cases h:qDX l with
 |false=>
  rw [h] at hS
  exact ⟨false,⟨fun e=>(by cases e),fun e=>(by rw [e.1] at h;cases h)⟩,qDw (qCY (R:=fun n=>qDa n (l.map qR) x y) (qBO hS (qFG rfl (qAi rfl))) fun n=>rfl)⟩
 |true=>
  rw [h] at hS
  have hl:=qKy h
  have hX:=qSo l hb x y
  unfold qTY at hX
  rcases qSi (atP x y) l 0 with ⟨e1,e2⟩|⟨k,c,e1,e2,e3⟩
  ·rw [e1] at hX
   refine ⟨false,⟨fun e=>(by cases e),fun ⟨_,a,ha,hr,_⟩=>?_⟩,qDw (qCY (R:=fun n=>qDa n (l.map qR) x y) (qBO hS (qNw rfl (qBO hX (qNw rfl (qAi rfl))))) fun n=>rfl)⟩
   have hg:=List.getElem?_eq_getElem ha
   rw [qFV hg] at hr
   have:=List.find?_eq_none.1 e2 _ (List.getElem_mem ha)
   have r1:l[a].1=x:=congrArg Prod.fst hr
   have r2:l[a].2.1=y:=congrArg Prod.snd hr
   simp [atP,r1,r2] at this
  ·rw [e1,Nat.zero_add] at hX
   have hk:=(List.getElem?_eq_some_iff.1 e3).1
   have hp:=List.find?_some e2
   simp only [atP,Bool.and_eq_true,beq_iff_eq,and_true] at hp
   have hr:qA5 l k=(x,y):=(qFV e3).trans (Prod.ext hp.1 hp.2)
   obtain ⟨b,h1,h2⟩:=qTw l hl k hk (l.map qSk)
   refine ⟨b,h1.trans ⟨fun e=>⟨h,k,hk,hr,e⟩,fun ⟨_,a,ha,hra,e⟩=>?_⟩,qDw (qCY (R:=fun n=>qDa n (l.map qR) x y) (qBO hS (qNw rfl (qBO hX (qFG (decide_eq_true (show (k:Int)≥0 by omega)) (qBO (qSl l hl hs) (qBO h2 (qAi rfl))))))) fun n=>rfl)⟩
   have:a=k:=qKx h ha hk (hra.trans hr.symm)
   subst this
   exact e
def qIK (l:List Cl) (k:Nat):List PV:=qS7 (qA5 l k)
theorem qUY (l:List Cl) (Q:List Nat) (hQ:Q.length≤100000) (r:Int×Int):∀n,Q.length+3≤n→qIo n (Q.map (qIK l)) r.1 r.2=some (Q.any fun q=>qA5 l q==r):=by
 intro n hn
 obtain ⟨m,rfl,hm⟩:=up1 hn
 have h:=qQN (B:=qFy m) (fun i=>(Q.map (qIK l),(i:Int),r.1,r.2)) Q (fun _ q=>if (qA5 l q==r)=true then some (.inl true) else none) (.inr ())
  (fun i q he=>by
   have hi:=(List.getElem?_eq_some_iff.1 he).1
   obtain ⟨a1,a2⟩:=qHQ rfl (qTX (enc:=qIK l) he)
   have w:IntKind.i64.wrap ((i:Int)+1)=((i+1:Nat):Int):=by rw [qV (by omega)];omega
   have e:(qA5 l q==r)=((qA5 l q).1==r.1&&((qA5 l q).2==r.2&&true)):=by rw [Bool.and_true];rfl
   refine qD (decide_eq_true (by simpa using hi)) (qD a1 (qA a2 (qD rfl (qA rfl (qA rfl ?_)))))
   by_cases hc:(qA5 l q==r)=true
   ·rw [if_pos hc];exact qD (e▸hc) rfl
   ·rw [if_neg hc]
    refine qO (e▸Bool.eq_false_iff.2 hc) ?_
    dsimp only
    rw [w]
    rfl)
  (qO (decide_eq_false (by simp)) rfl) m (by omega)
 refine qA h ?_
 have key:∀(R:List Nat) (i:Nat),(qD5 (fun _ q=>if (qA5 l q==r)=true then some (Sum.inl (β:=Unit) true) else none) i R).getD (.inr ())=if (R.any fun q=>qA5 l q==r)=true then .inl true else .inr ():=fun R=>by
  induction R with
  |nil=>exact fun i=>rfl
  |cons a R ih=>
   intro i
   unfold qD5
   rw [List.any_cons]
   cases qA5 l a==r with
   |true=>rfl
   |false=>exact ih (i+1)
 rw [key]
 cases Q.any fun q=>qA5 l q==r<;>rfl
theorem qOC:∀(M Q:List Nat) (x:Nat),qBk Q (M++ [x])=if (qBk Q M).contains x=true then qBk Q M else qBk Q M++ [x]
 | [],Q,x=>rfl
 |y::M,Q,x=>qOC M _ x
theorem qVR {l:List Cl} (h:qDX l=true) {Q:List Nat} (hQ:∀q∈Q,q<l.length) {j:Nat} (hj:j<l.length):(Q.any fun q=>qA5 l q==qA5 l j)=Q.contains j:=by
 rw [Bool.eq_iff_iff,List.any_eq_true,List.contains_iff_mem]
 constructor
 ·rintro ⟨q,h1,h2⟩
  rw [←qKx h (hQ q h1) hj (beq_iff_eq.1 h2)]
  exact h1
 ·exact fun hm=>⟨j,hm,beq_self_eq_true _⟩
theorem qU1 {m:Nat} {acc:List (List PV)} {e:List PV} (hm:m=acc.length) (hb:m≤100000) (he:e.length=2):decide (m=acc.length∧0<2∧0<16∧(m+ [e].length)*16≤140737488355328∧ [e].all (fun e=>e.length==2)=true)=true:=decide_eq_true ⟨hm,by decide,by decide,by simp;omega,by simp [he]⟩
theorem qVo (n:Nat) (l:List Cl) (h:qDX l=true) (x y k:Int) (Q M:List Nat) (hQ:Q.Nodup∧∀q∈Q,q<l.length) (hM:∀q∈M,q<l.length) (hM2:M.length≤120) (hn:130≤n):
  zD (qC3 n) n (l.map qR,Q.length,k,M.length,0,x,y,Q.map (qIK l),M.map (qIK l))=some (l.map qR,(qBk Q M).length,k,x,y,(qBk Q M).map (qIK l)):=by
 have hl:=qKy h
 have hlt:∀i,∀q∈qBk Q (M.take i),q<l.length:=fun i q hq=>by
  rcases (qEc _ _).1 hq with hq|hq
  ·exact hQ.2 q hq
  ·exact hM q (List.mem_of_mem_take hq)
 have h:=qQN (B:=qC3 n) (fun i=>(l.map qR,(qBk Q (M.take i)).length,k,M.length,(i:Int),x,y,(qBk Q (M.take i)).map (qIK l),M.map (qIK l))) M (fun _ _=>none) (l.map qR,(qBk Q M).length,k,x,y,(qBk Q M).map (qIK l))
  (fun i j he=>by
   have hi:=(List.getElem?_eq_some_iff.1 he).1
   have hj:=hM j (List.mem_of_getElem? he)
   have hg:(M.map (qIK l))[((i:Int)).toNat]?=some (qIK l j):=by rw [Int.toNat_natCast];exact qTX he
   have a1:decide (M.length=(M.map (qIK l)).length∧0≤(i:Int)∧(i:Int)<((M.length:Nat):Int))=true:=decide_eq_true ⟨by simp,by omega,by omega⟩
   have w:IntKind.i64.wrap ((i:Int)+1)=((i+1:Nat):Int):=by rw [qV (by omega)];omega
   have hlen:(qBk Q (M.take i)).length≤120:=Nat.le_trans (qR1 l.length _ (qJF _ _ hQ.1) (hlt i)) hl
   have hh:=qUY l (qBk Q (M.take i)) (by omega) (qA5 l j) n (by omega)
   rw [qVR h (hlt i) hj] at hh
   have et:M.take (i+1)=M.take i++ [j]:=by rw [List.take_add_one,he];rfl
   refine qD (decide_eq_true (by dsimp only;omega)) (qD a1 (qA hg (qA rfl (qA rfl (qD (decide_eq_true (by simp)) (qA hh (qD (qF _) ?_)))))))
   dsimp only
   rw [et,qOC,w]
   cases (qBk Q (M.take i)).contains j with
   |true=>
    refine qO rfl ?_
    rw [qC,if_pos rfl]
   |false=>
    refine qD rfl (qD a1 (qA hg (qA rfl (qA rfl (qD rfl (qD (qU1 (by simp) (by omega) rfl) ?_))))))
    rw [qC,if_neg (by simp),List.length_append,List.map_append]
    rfl)
  (qO (decide_eq_false (by simp)) (by rw [List.take_length];rfl)) n (by omega)
 rw [qEh] at h
 exact h
theorem qRO (l:List Cl) (h:qDX l=true) (a:Nat) (ha:a<l.length) (n:Nat) (hn:130≤n) (hL:∀q,q<l.length→qCU n (l.map qR) (qA5 l q).1 (qA5 l q).2=some ((scL l q).length,(scL l q).map (qIK l))):∀(d k:Nat) (Q:List Nat) (M:Nat),QI (scL l) a l.length Q k→k≤Q.length→l.length=k+d→d+1≤M→
  ∃b:Bool,(b=true↔Rch (scL l) a a)∧zD (qET n) M (l.map qR,Q.length,(k:Int),(qA5 l a).1,(qA5 l a).2,Q.map (qIK l))=some (if b=true then .inl true else .inr ()):=by
 have hl:=qKy h
 intro d
 induction d with
 |zero=>
  intro k Q M hI hkl hD hM
  obtain ⟨M,rfl⟩:∃q,M=q+1:=⟨M-1,by omega⟩
  have:=hI.len
  have hk:k=Q.length:=by omega
  subst hk
  exact ⟨false,⟨fun h=>(by cases h),fun h=>absurd h hI.all⟩,qP (qO (decide_eq_false (by simp)) rfl)⟩
 |succ d ih=>
  intro k Q M hI hkl hD hM
  obtain ⟨M,rfl⟩:∃q,M=q+1:=⟨M-1,by omega⟩
  by_cases hk:k=Q.length
  ·subst hk
   exact ⟨false,⟨fun h=>(by cases h),fun h=>absurd h hI.all⟩,qP (qO (decide_eq_false (by simp)) rfl)⟩
  have hkl:k<Q.length:=by omega
  have hg:=List.getElem?_eq_getElem hkl
  generalize Q[k]=q at hg
  have hq:=hI.lt q (List.mem_of_getElem? hg)
  have hr:=hI.rc q (List.mem_of_getElem? hg)
  have w:IntKind.i64.wrap ((k:Int)+1)=((k+1:Nat):Int):=by rw [qV (by omega)];omega
  have c1:decide ((k:Int)<((Q.length:Nat):Int))=true:=decide_eq_true (by omega)
  have c2:decide (Q.length=(Q.map (qIK l)).length∧0≤(k:Int)∧(k:Int)<((Q.length:Nat):Int))=true:=decide_eq_true ⟨by simp,by omega,by omega⟩
  have c3:(Q.map (qIK l))[((k:Int)).toNat]?=some (qIK l q):=by rw [Int.toNat_natCast];exact qTX hg
  by_cases hqa:q=a
  ·subst hqa
   exact ⟨true,⟨fun _=>hr,fun _=>rfl⟩,qP (qD c1 (qD c2 (qA c3 (qA rfl (qA rfl (qD (by simp) rfl))))))⟩
  have c4:(((qA5 l q).1==(qA5 l a).1)&&(((qA5 l q).2==(qA5 l a).2)&&true))=false:=by
   rw [Bool.eq_false_iff]
   intro e
   simp only [Bool.and_eq_true,beq_iff_eq,and_true] at e
   exact hqa (qKx h hq ha (Prod.ext e.1 e.2))
  have hA:=qVo n l h (qA5 l a).1 (qA5 l a).2 (k:Int) Q (scL l q) ⟨hI.nd,hI.lt⟩ (fun j hj=>qKl hj) (Nat.le_trans (qKw _ _ _) hl) hn
  have hN:=hI.next hg hqa fun j hj=>qKl hj
  obtain ⟨b,h1,h2⟩:=ih (k+1) (qBk Q (scL l q)) M hN (by have:=qQR (scL l q) Q;omega) (by omega) (by omega)
  refine ⟨b,h1,?_⟩
  rw [qU (v':=(l.map qR,(qBk Q (scL l q)).length,((k+1:Nat):Int),(qA5 l a).1,(qA5 l a).2,(qBk Q (scL l q)).map (qIK l))) (by
   refine qD c1 (qD c2 (qA c3 (qA rfl (qA rfl (qO c4 (qD c2 (qA c3 (qA rfl (qA rfl (qA (hL q hq) (qA hA ?_)))))))))))
   rw [qC,←w])]
  exact h2
theorem qVS:arL ⟨#[]⟩= []:=by
 unfold arL fnL
 rw [qAG,if_neg (by simp)]
 rfl
theorem qQT (l:List Cl) (h:qDX l=true) (x y:Int) (hs:∀c∈l,c.2.2.size≤140737488351232):∃b:Bool,(b=true↔InC l x y)∧Ev (qFz · (l.map qR) x y) b:=by
 have hl:=qKy h
 by_cases hx:∃a,a<l.length∧qA5 l a=(x,y)
 ·obtain ⟨a,ha,hr⟩:=hx
  obtain ⟨n1,h1⟩:=qBL (F:=fun (q:Nat) n=>qCU n (l.map qR) (qA5 l q).1 (qA5 l q).2) (f:=fun q=>((scL l q).length,(scL l q).map (qIK l))) (List.range l.length) fun q hq=>by
   have hq:=List.mem_range.1 hq
   have:=qJd l (qA5 l q).1 (qA5 l q).2 hl hs
   rw [qUV h hq,List.length_map,List.map_map] at this
   exact this
  have hI:QI (scL l) a l.length (scL l a) 0:=QI.start (qUT _ _ _) fun j hj=>qKl hj
  have hL:∀n,n1≤n→∀q,q<l.length→qCU n (l.map qR) (qA5 l q).1 (qA5 l q).2=some ((scL l q).length,(scL l q).map (qIK l)):=fun n hn q hq=>h1 n hn q (List.mem_range.2 hq)
  obtain ⟨b,e1,_⟩:=qRO l h a ha (n1+130) (by omega) (hL _ (by omega)) l.length 0 _ (l.length+1) hI (Nat.zero_le _) (by omega) (Nat.le_refl _)
  have ex:(qA5 l a).1=x:=congrArg Prod.fst hr
  have ey:(qA5 l a).2=y:=congrArg Prod.snd hr
  refine ⟨b,e1.trans ⟨fun e=>⟨h,a,ha,hr,e⟩,fun ⟨_,a',ha',hr',e⟩=>?_⟩,qDw (qCY (R:=fun n=>qEP n (l.map qR) x y) (qBO (r:=((scL l a).length,(scL l a).map (qIK l))) ⟨n1,fun n hn=>by rw [←ex,←ey];exact hL n hn a ha⟩ (qBO (r:=if b=true then Sum.inl true else Sum.inr ()) ⟨n1+131,fun m hm=>?_⟩ ?_)) fun n=>rfl)⟩
  ·have:a'=a:=qKx h ha' ha (hr'.trans hr.symm)
   subst this
   exact e
  ·obtain ⟨b',e1',e2'⟩:=qRO l h a ha m (by omega) (hL _ (by omega)) l.length 0 _ m hI (Nat.zero_le _) (by omega) (by omega)
   have:b'=b:=Bool.eq_iff_iff.2 (e1'.trans e1.symm)
   subst this
   rw [ex,ey] at e2'
   exact e2'
  ·cases b with
   |true=>exact qRy (qAi rfl)
   |false=>exact qQP (qAi rfl)
 ·have hL:=qJd l x y hl hs
  have e0:qNy l x y= []:=by
   unfold qNy
   have e1:qQO l x y=⟨#[]⟩:=by
    unfold qQO
    cases hf:l.find? fun e=>e.1==x&&e.2.1==y with
    |none=>rfl
    |some e=>
     have h1:=List.find?_some hf
     simp only [Bool.and_eq_true,beq_iff_eq] at h1
     obtain ⟨i,hi,e1⟩:=List.mem_iff_getElem.1 (List.mem_of_find?_eq_some hf)
     exact absurd ⟨i,hi,(qFV (List.getElem?_eq_getElem hi)).trans (by rw [e1];exact Prod.ext h1.1 h1.2)⟩ hx
   rw [e1,qVS]
   unfold qFs
   simp
  rw [e0] at hL
  refine ⟨false,⟨fun e=>(by cases e),fun ⟨_,a,ha,hr,_⟩=>absurd ⟨a,ha,hr⟩ hx⟩,qDw (qCY (R:=fun n=>qEP n (l.map qR) x y) (qBO hL (qBO (r:= .inr ()) ⟨1,fun m hm=>?_⟩ ?_)) fun n=>rfl)⟩
  ·obtain ⟨M,rfl⟩:∃q,m=q+1:=⟨m-1,by omega⟩
   exact qP (qO rfl rfl)
  ·exact qQP (qAi rfl)
theorem qN1 (l:List Cl) (x y:Int) (hb:l.length≤140737488351232) (hs:∀c∈l,c.2.2.size≤140737488351232):∃b:Bool,(b=true↔InC l x y)∧Ev (qF1 · (l.map qR) x y) b:=by
 have hS:=qO5 l hb hs
 cases h:qDX l with
 |false=>
  rw [h] at hS
  exact ⟨false,⟨fun e=>(by cases e),fun e=>(by rw [e.1] at h;cases h)⟩,qDw (qCY (R:=fun n=>qEQ n (l.map qR) x y) (qBO hS (qNw rfl (qAi rfl))) fun n=>rfl)⟩
 |true=>
  rw [h] at hS
  obtain ⟨b,h1,h2⟩:=qQT l h x y hs
  exact ⟨b,h1,qDw (qCY (R:=fun n=>qEQ n (l.map qR) x y) (qBO hS (qFG rfl (qBO h2 (qAi rfl)))) fun n=>rfl)⟩
theorem law (rows:List (List PV)) (c r:Int) (w:rows.length*32≤140737488351232∧∀r∈rows,okR [.i .i64,.i .i64,.s] r) (w1:(Lit.int .i64 c).wf=true) (w2:(Lit.int .i64 r).wf=true):Ev (qE6 · rows c r) true:=by
 obtain ⟨l,rfl,hs⟩:=qUv w.2
 have hl:l.length*32≤140737488351232:=by simpa using w.1
 have t1:=qO8 l hl
 have t2:=qQs c r
 refine qDw (qCY (R:=fun n=>qDU n (l.map qR) c r) (qVi ⟨_,qO7 l (by omega) 1048576⟩ ?_) fun n=>rfl)
 have eL:decide ((l.length:Nat)=(l.map qR).length)=true:=decide_eq_true (by simp)
 obtain ⟨b,e1,h1⟩:=qN1 l c r (by omega) hs
 obtain ⟨b',e2,h2⟩:=qN0 l c r (by omega) hs
 have:b'=b:=Bool.eq_iff_iff.2 (e2.trans e1.symm)
 subst this
 exact qBO t1 (qBO t2 (qFG eL (qBO h1 (qFG (qF _) (qBO t1 (qBO t2 (qFG eL (qBO h2 (qFG (qF _) (qNw (qAv (beq_self_eq_true _)) (qBO t1 (qFG eL (qFG eL (qBO (qO9 l (by omega)) (qFG (qF _) (qNw rfl (qAi rfl)))))))))))))))))
inductive Tch (bs:Nat→Prop) (sc:Nat→List Nat):Nat→Prop
 |zero {i:Nat}:bs i→Tch bs sc i
 |lean {i k:Nat}:k∈sc i→Tch bs sc k→Tch bs sc i
structure TI (bs:Nat→Prop) (sc:Nat→List Nat) (n:Nat) (o:List Bool):Prop where
 ln:o.length=n
 ok:∀i,o[i]?=some true→Tch bs sc i
 st:∀i,i<n→bs i→o[i]?=some true
theorem TI.set {bs:Nat→Prop} {sc:Nat→List Nat} {n:Nat} {o:List Bool} (h:TI bs sc n o) {i k:Nat} (hk:k∈sc i) (ho:o[k]?=some true):TI bs sc n (o.set i true):=by
 refine ⟨by rw [List.length_set];exact h.ln,fun j hj=>?_,fun j hj hb=>?_⟩
 ·by_cases e:i=j
  ·subst e;exact .lean hk (h.ok k ho)
  ·rw [List.getElem?_set_ne e] at hj;exact h.ok j hj
 ·by_cases e:i=j
  ·subst e;exact List.getElem?_set_self (by rw [h.ln];exact hj)
  ·rw [List.getElem?_set_ne e];exact h.st j hj hb
theorem TI.all {bs:Nat→Prop} {sc:Nat→List Nat} {n:Nat} {o:List Bool} (h:TI bs sc n o) (hn:∀i,∀k∈sc i,k<n) (hc:∀i,i<n→∀k∈sc i,o[k]?=some true→o[i]?=some true) {i:Nat} (hi:i<n):o[i]?=some true↔Tch bs sc i:=by
 refine ⟨h.ok i,fun ht=>?_⟩
 induction ht with
 |zero hb=>exact h.st _ hi hb
 |lean hk _ ih=>exact hc _ hi _ hk (ih (hn _ _ hk))
structure SI (hr b2:Nat→Bool) (sc:Nat→List Nat) (n:Nat) (A:List Nat):Prop where
 nd:A.Nodup
 lt:∀a∈A,a<n
 ok:∀a∈A,Tch (fun i=>hr i=true∨b2 i=true) sc a
theorem SI.add {hr b2:Nat→Bool} {sc:Nat→List Nat} {n:Nat} {A:List Nat} {i:Nat} (h:SI hr b2 sc n A) (hi:i<n) (h1:¬(hr i||A.contains i)=true) (h2:(b2 i||A.any fun k=>(sc i).contains k)=true):SI hr b2 sc n (A++ [i]):=by
 have hn:i∉A:=fun hi=>h1 (by rw [Bool.or_eq_true];exact .inr (by simpa using hi))
 refine ⟨?_,fun a ha=>?_,fun a ha=>?_⟩
 ·rw [List.nodup_append]
  refine ⟨h.nd,by simp,fun a ha b hb=>?_⟩
  rw [List.mem_singleton] at hb
  subst hb
  rintro rfl
  exact hn ha
 ·rcases List.mem_append.1 ha with ha|ha
  ·exact h.lt a ha
  ·rw [List.mem_singleton] at ha;omega
 ·rcases List.mem_append.1 ha with ha|ha
  ·exact h.ok a ha
  ·rw [List.mem_singleton] at ha
   subst ha
   rcases Bool.or_eq_true_iff.1 h2 with hb|hb
   ·exact .zero (.inr hb)
   ·obtain ⟨k,hk,hc⟩:=List.any_eq_true.1 hb
    exact .lean (by simpa using hc) (h.ok k hk)
theorem SI.all {hr b2:Nat→Bool} {sc:Nat→List Nat} {n:Nat} {A:List Nat} (h:SI hr b2 sc n A) (hn:∀i,∀k∈sc i,k<n) (hb:∀i,∀k∈sc i,hr k=true→b2 i=true)
  (hc:∀i,i<n→(b2 i||A.any fun k=>(sc i).contains k)=true→(hr i||A.contains i)=true) {i:Nat} (hi:i<n):(hr i||A.contains i)=true↔Tch (fun i=>hr i=true∨b2 i=true) sc i:=by
 constructor
 ·intro h1
  rcases Bool.or_eq_true_iff.1 h1 with h1|h1
  ·exact .zero (.inl h1)
  ·exact h.ok i (by simpa using h1)
 ·intro ht
  induction ht with
  |zero hq=>
   rcases hq with hq|hq
   ·rw [hq];rfl
   ·exact hc _ hi (by rw [hq];rfl)
  | @lean i k hk _ ih=>
   refine hc i hi ?_
   rw [Bool.or_eq_true]
   rcases Bool.or_eq_true_iff.1 (ih (hn _ _ hk)) with h1|h1
   ·exact .inl (hb i k hk h1)
   ·exact .inr (List.any_eq_true.2 ⟨k,by simpa using h1,by simpa using hk⟩)
end Go.Proofs.YtkkkfjgagjdcoaaGreatDoor.KFnExactInCircle

