import Derived.Test.YtkkkfjgagjdcoaaGreatDoorTFnExactHeadOf
import Derived.Test.YtkkkfjgagjdcoaaGreatDoorE32
import Derived.Lib.Strings
import Derived.Test.YtkkkfjgagjdcoaaGreatDoorSFnExactHeadOfp1
namespace Go.Proofs.YtkkkfjgagjdcoaaGreatDoor.KFnExactHeadOf
open Go.Eng
set_option linter.unusedVariables false
set_option linter.unusedSimpArgs false
theorem qVX (H:RdOK) (N:Nat) (hB:qUy N) (hC:∀M,M<N→qVV M):qVV N:=by
 intro p q deep op kids f g hl hN hd hdN hf hg
 cases f with
 |zero=>omega
 |succ f=>
 cases g with
 |zero=>omega
 |succ g=>
 cases g with
 |zero=>omega
 |succ g=>
 have hpq:=hl.2.2.2
 have hpb:¬p.2.1=true:=by rw [hl.1];simp
 have hqb:¬q.2.1=true:=by rw [hl.2.1];simp
 have harg:Sim (qEk (qBK p) (fun p=>pP f (.bin 1 (deep+1)) p)) (sP (g+1) .arg q)∧(tb (qEk (qBK p) (fun p=>pP f (.bin 1 (deep+1)) p)).2.1).length≤N:=by
  refine ⟨?_,?_⟩
  ·have hw:Lk (wr (tb p.1),p.2) (wr (tb q.1),q.2):=⟨hl.1,hl.2.1,hl.2.2.1,by rw [hpq]⟩
   obtain ⟨e1,e2⟩:=qLB (c:=58) (by decide) hw
   simp only [sP]
   unfold qEk qBK
   simp only
   rw [hpq] at e1 e2⊢
   by_cases hc:(qA6 (BR (wd (tb q.1)))).2.2.2.2=true∧(qX [58] (wr (tb q.1),p.2)).1=true
   ·rw [if_pos hc,if_pos ⟨hc.1,e1▸hc.2⟩]
    simp only
    rw [e2.2.2.2]
    by_cases h2:(qA6 (BR (wd (tb (sIs [58] (wr (tb q.1),q.2)).2.1)))).2.2.2.2=true
    ·rw [if_pos h2,h2]
     simp only [Bool.not_true,Bool.or_false]
     exact qJU ⟨e2.1,e2.2.1,e2.2.2.1,rfl⟩
    ·rw [if_neg h2]
     refine .inr ⟨rfl,qCt (.inl ?_)⟩
     simp only
     have h2:(qA6 (BR (wd (tb (sIs [58] (wr (tb q.1),q.2)).2.1)))).2.2.2.2=false:=by simpa using h2
     rw [h2];simp
   ·rw [if_neg hc,if_neg (fun e=>hc ⟨e.1,e1.symm▸e.2⟩)]
    simp only
    have:=hB p (tb q.1,q.2) (deep+1) 4 f g (by omega) ⟨hl.1,hl.2.1,hl.2.2.1,by simp only;rw [qCe];exact hpq⟩ hN (by omega) (by omega) (by omega) (by omega)
    exact this.sim
  ·unfold qEk
   split
   ·rw [qA5];have:=qIt p;omega
   ·have h1:=qDr f (.bin 1 (deep+1)) (qBK p).2
    have h2:=qIt p
    exact Nat.le_trans h1 (by omega)
 obtain ⟨harg,hal⟩:=harg
 simp only [pP]
 rw [if_neg hpb]
 have hs:sP (g+1+1) (.call op kids) q=(if (sIs [41] (sP (g+1) .arg q).2).1=true then qEJ (ndK 6 op (kids++ [(sP (g+1) .arg q).1])) (sIs [41] (sP (g+1) .arg q).2).2
  else sP (g+1) (.call op (kids++ [(sP (g+1) .arg q).1])) (if (sIs [44] (sIs [41] (sP (g+1) .arg q).2).2).1=true then (sIs [44] (sIs [41] (sP (g+1) .arg q).2).2).2 else qMg (sIs [44] (sIs [41] (sP (g+1) .arg q).2).2).2)):=by
  rw [sP]
  rw [if_neg hqb]
 rw [hs]
 generalize qEk (qBK p) (fun p=>pP f (.bin 1 (deep+1)) p)=Q at harg hal⊢
 generalize sP (g+1) .arg q=A at harg⊢
 rcases harg with ⟨h1,h2⟩|⟨h1,h2⟩
 ·have hb2:=h2.2.1
  obtain ⟨c1,c2⟩:=qLB (c:=44) (by decide) h2
  have i41:=qNa (c:=41) hb2
  have i44:=qNa (c:=44) hb2
  by_cases hc:(qX [44] Q.2).1=true
  ·rw [if_pos hc]
   have hh:=i44.1 (c1▸hc)
   have n41:¬(sIs [41] A.2).1=true:=fun e=>by rw [i41.1 e] at hh;cases hh
   rw [if_neg n41]
   have e41:(sIs [41] A.2).2=(tb A.2.1,A.2.2):=by
    unfold sIs at n41⊢
    rw [if_neg (by rw [hb2];simp)] at n41⊢
    split
    ·rename_i hx;rw [if_pos hx] at n41;exact absurd rfl n41
    ·rfl
   rw [e41]
   have e44:sIs [44] (tb A.2.1,A.2.2)=sIs [44] A.2:=by unfold sIs;simp only [qCe]
   rw [e44,if_pos (c1▸hc),h1]
   have hlt:=qDq (w:= [44]) (by simp) hc
   have htb:=qAD (qX [44] Q.2).2.1
   exact hC _ (by omega) (qX [44] Q.2).2 (sIs [44] A.2).2 deep op _ f (g+1) c2 rfl hd (by omega) (by omega) (by omega)
  ·rw [if_neg hc]
   have et:(qX [44] Q.2).2=(tb Q.2.1,Q.2.2):=by
    unfold qX at hc⊢
    split
    ·rename_i hx;rw [if_pos hx] at hc;exact absurd rfl hc
    ·rfl
   rw [et]
   have hl2:Lk (tb Q.2.1,Q.2.2) A.2:=⟨h2.1,h2.2.1,h2.2.2.1,by simp only;rw [qCe];exact h2.2.2.2⟩
   have hm:=qTM (c:=41) (by decide) (a:=(A.1,(tb Q.2.1,Q.2.2))) (b:=(A.1,A.2)) (.inl ⟨rfl,hl2⟩)
   by_cases h41:(sIs [41] A.2).1=true
   ·rw [if_pos h41]
    simp only [h41,if_true] at hm
    have:=qTL (fun _=>ndK 6 op (kids++ [A.1])) hm
    rw [h1]
    exact this
   ·rw [if_neg h41]
    have e41:(sIs [41] A.2).2=(tb A.2.1,A.2.2):=by
     unfold sIs at h41⊢
     rw [if_neg (by rw [hb2];simp)] at h41⊢
     split
     ·rename_i hx;rw [if_pos hx] at h41;exact absurd rfl h41
     ·rfl
    have e44:sIs [44] (tb A.2.1,A.2.2)=sIs [44] A.2:=by unfold sIs;simp only [qCe]
    rw [e41,e44,if_neg (c1▸hc)]
    refine .inr ⟨qOh _ _ _ rfl,qCt ?_⟩
    simp only [if_neg h41] at hm
    rcases hm with ⟨_,_,hb,_⟩|⟨_,hdm⟩
    ·simp [qMg] at hb
    ·exact hdm
 ·have e41:sIs [41] A.2=(false,tb A.2.1,A.2.2):=qJT h1
  have e44:sIs [44] (tb A.2.1,A.2.2)=(false,tb (tb A.2.1),A.2.2):=qJT h1
  rw [e41]
  simp only [Bool.false_eq_true,if_false]
  rw [e44]
  simp only [Bool.false_eq_true,if_false]
  refine .inr ⟨qOh _ _ _ rfl,?_⟩
  split
  ·exact qC5 f _ _ (qEl h2)
  ·exact qCt (qIs (qEl h2))
theorem qTP {c d:UInt8} (h:c≠d) {r:List UInt8} (hr:r.head?=some c):¬r.head?=some d:=by rw [hr];simpa using h
theorem qVY (H:RdOK) (N:Nat) (hA:∀M,M<N→qVT M) (hB:∀M,M<N→qUy M) (hC:∀M,M<N→qVV M):qVT N:=by
 intro p q deep f g hl hN hd hdN hf hg
 cases f with
 |zero=>omega
 |succ f=>
 cases f with
 |zero=>omega
 |succ f=>
 cases g with
 |zero=>omega
 |succ g=>
 cases g with
 |zero=>omega
 |succ g=>
 have hpq:=hl.2.2.2
 have hpb:¬p.2.1=true:=by rw [hl.1];simp
 have hqb:¬q.2.1=true:=by rw [hl.2.1];simp
 have hq0:=hl.2.1
 have hs:sP (g+1+1) (.row 5) q=sP (g+1) .one q:=by
  rw [sP,if_neg hqb,if_pos rfl]
 rw [hs]
 obtain ⟨e1,e2⟩:=qLB (c:=45) (by decide) hl
 rw [pP]
 rw [if_neg (by intro e;rcases e with e|e;omega;exact hpb e)]
 by_cases hc:(qX [45] p).1=true
 ·rw [if_pos hc]
  simp only [sP]
  rw [if_pos (e1▸hc)]
  have hlt:=qDq (w:= [45]) (by simp) hc
  have htb:=qAD (qX [45] p).2.1
  exact qTL (fun k=>ndK 4 0 [k]) (hA _ (by omega) _ _ (deep+1) (f+1) g e2 rfl (by omega) (by omega) (by omega) (by omega))
 ·rw [if_neg hc]
  have hp':(qX [45] p).2=(tb p.1,p.2):=by
   unfold qX at hc⊢
   split
   ·rename_i hx;rw [if_pos hx] at hc;exact absurd rfl hc
   ·rfl
  have hq':(sIs [45] q).2=(tb q.1,q.2):=by
   have hc:¬(sIs [45] q).1=true:=e1▸hc
   unfold sIs at hc⊢
   rw [if_neg hqb] at hc⊢
   split
   ·rename_i hx;rw [if_pos hx] at hc;exact absurd rfl hc
   ·rfl
  rw [hp']
  simp only [sP]
  rw [if_neg (e1▸hc),hq']
  simp only [pP,qCe]
  have hl2:Lk (tb p.1,p.2) (tb q.1,q.2):=⟨hl.1,hl.2.1,hl.2.2.1,by simp only [qCe];exact hpq⟩
  obtain ⟨f1,f2⟩:=qLB (c:=40) (by decide) hl2
  have i40:=qNa (c:=40) (q:=(tb q.1,q.2)) hq0
  have i34:=qNa (c:=34) (q:=(tb q.1,q.2)) hq0
  have i35:=qNa (c:=35) (q:=(tb q.1,q.2)) hq0
  simp only [qCe] at i40 i34 i35
  rw [hpq] at hN f1 f2⊢
  by_cases h34:(tb q.1).head?=some 34
  ·rw [if_pos h34,if_neg (fun e=>qTP (by decide) h34 (i40.1 e)),if_pos (i34.2 h34)]
   have es:(sIs [34] (tb q.1,q.2)).2.1=(tb q.1).tail:=by
    have:=i34.2 h34
    unfold sIs at this⊢
    rw [if_neg hqb] at this⊢
    simp only [qCe] at this⊢
    split
    ·simp
    ·rename_i hx;rw [if_neg hx] at this;cases this
   rw [es]
   cases hqr:qCJ [] (tb q.1).tail with
   |none=>exact .inr ⟨rfl,.inl rfl⟩
   |some st=>
    obtain ⟨s,t⟩:=st
    exact qJU ⟨hl.1,hl.2.1,hl.2.2.1,rfl⟩
  ·rw [if_neg h34]
   by_cases h35:(tb q.1).head?=some 35
   ·rw [if_pos h35,if_neg (fun e=>qTP (by decide) h35 (i40.1 e)),if_neg (fun e=>h34 (i34.1 e)),if_pos (i35.2 h35)]
    have es:(sIs [35] (tb q.1,q.2)).2.1=(tb q.1).tail:=by
     have:=i35.2 h35
     unfold sIs at this⊢
     rw [if_neg hqb] at this⊢
     simp only [qCe] at this⊢
     split
     ·simp
     ·rename_i hx;rw [if_neg hx] at this;cases this
    rw [es,qUx H h35 5 1 (by omega) (by omega)]
    cases he:qJw (tb q.1) 1 5 with
    |some n=>
     simp only
     obtain ⟨t,ht⟩:=H.n n (by have:=qTO 5 1 he;omega)
     have hsz:(qe n).size=t.length+1:=by rw [←qAZ,ht];rfl
     refine qJU ⟨hl.1,hl.2.1,hl.2.2.1,?_⟩
     simp only
     rw [hsz]
     cases hr:tb q.1 with
     |nil=>rw [hr] at h35;cases h35
     |cons c r=>rfl
    |none=>
     simp only
     rw [if_neg (fun e=>e.1 h35)]
     have hw:wd (tb q.1)= []:=by
      cases hr:tb q.1 with
      |nil=>rw [hr] at h35;cases h35
      |cons c r=>
       rw [hr] at h35
       simp only [List.head?_cons,Option.some.injEq] at h35
       subst h35
       rfl
     rw [hw,if_neg (fun e=>H.v0 e.2),if_neg (by rw [H.p0];simp),H.f0]
     exact .inr ⟨rfl,qF2 _⟩
   ·rw [if_neg h35]
    simp only
    by_cases h40:(qX [40] (tb q.1,p.2)).1=true
    ·rw [if_pos ⟨h35,h40⟩,if_pos (f1▸h40)]
     have hlt:=qDq (w:= [40]) (by simp) h40
     simp only [qCe] at hlt
     have htb:=qAD (qX [40] (tb q.1,p.2)).2.1
     have hb:=(hB _ (by omega) _ _ (deep+1) 4 f g (by omega) f2 rfl (by omega) (by omega) (by omega) (by omega)).sim
     have e5:(5-((4:Nat):Int))=1:=by omega
     rw [e5] at hb
     exact qTM (by decide) hb
    ·have n40:¬(sIs [40] (tb q.1,q.2)).1=true:=f1▸h40
     have n34:¬(sIs [34] (tb q.1,q.2)).1=true:=fun e=>h34 (i34.1 e)
     have n35:¬(sIs [35] (tb q.1,q.2)).1=true:=fun e=>h35 (i35.1 e)
     rw [if_neg (fun e=>h40 e.2),if_neg n40,if_neg n34,if_neg n35]
     have hl3:Lk (wr (tb q.1),p.2) (wr (tb q.1),q.2):=⟨hl.1,hl.2.1,hl.2.2.1,rfl⟩
     cases hfn:qGi (wd (tb q.1)) 1 10 with
     |some op=>
      simp only
      obtain ⟨z1,z2⟩:=H.f _ _ hfn
      rw [if_neg (by rw [z1];simp),if_neg (by rw [z2];simp)]
      have hne:1≤(wd (tb q.1)).length:=by
       cases hw:wd (tb q.1) with
       |nil=>rw [hw,H.f0] at hfn;cases hfn
       |cons c t=>simp
      have hlen:(wr (tb q.1)).length+1≤N:=by
       have:=congrArg List.length (wdr (tb q.1))
       simp only [List.length_append] at this
       omega
      obtain ⟨k1,k2⟩:=qLB (c:=40) (by decide) hl3
      cases f with
      |zero=>omega
      |succ f=>
       simp only [pP]
       by_cases ht:(sIs [40] (wr (tb q.1),q.2)).1=true
       ·rw [if_pos ht]
        have em:qCY [40] (wr (tb q.1),p.2)=(qX [40] (wr (tb q.1),p.2)).2:=by
         unfold qCY
         rw [if_neg hpb,if_pos (k1▸ht)]
        rw [em]
        have hlt:=qDq (w:= [40]) (by simp) (k1.symm▸ht)
        have h2:=qAD (wr (tb q.1))
        have h3:=qAD (qX [40] (wr (tb q.1),p.2)).2.1
        simp only at hlt
        exact hC _ (by omega) _ _ deep op [] f g k2 rfl hd (by omega) (by omega) (by omega)
       ·rw [if_neg ht]
        have em:qCY [40] (wr (tb q.1),p.2)=qTp (qX [40] (wr (tb q.1),p.2)).2:=by
         unfold qCY
         rw [if_neg hpb,if_neg (k1▸ht)]
        rw [em]
        exact .inr ⟨rfl,qC5 f _ _ (qF2 _)⟩
     |none=>
      simp only
      by_cases hw0:wd (tb q.1)= []
      ·rw [hw0,if_neg (fun e=>H.v0 e.2),if_neg (by rw [H.p0];simp),if_neg (fun e=>e.2 rfl),if_neg (by rw [H.p0];simp)]
       exact .inr ⟨rfl,qF2 _⟩
      ·by_cases hv:(qh (BR (wd (tb q.1)))).2.2.2=true
       ·rw [if_pos ⟨hv,H.v _ (qTr _) hw0 hv⟩,if_pos ⟨hv,hw0⟩]
        exact qJU hl3
       ·have nv1:¬((qh (BR (wd (tb q.1)))).2.2.2=true∧((qh (BR (wd (tb q.1)))).1=1∨(qh (BR (wd (tb q.1)))).1=3)):=fun e=>hv e.1
        have nv2:¬((qh (BR (wd (tb q.1)))).2.2.2=true∧wd (tb q.1)≠ []):=fun e=>hv e.1
        rw [if_neg nv1,if_neg nv2]
        by_cases hp:(qA6 (BR (wd (tb q.1)))).2.2.2.2=true
        ·rw [if_pos hp,if_pos hp]
         exact qJU hl3
        ·rw [if_neg hp,if_neg hp]
         exact .inr ⟨rfl,qF2 _⟩
theorem qVZ (H:RdOK) (N:Nat):qVT N∧qVU N∧qUy N∧qVV N:=by
 induction N using Nat.strongRecOn with
 |ind N ih=>
  have hA:=qVY H N (fun M h=>(ih M h).1) (fun M h=>(ih M h).2.2.1) (fun M h=>(ih M h).2.2.2)
  have hT:=qWS N (fun M h=>(ih M h).2.2.1) (fun M h=>(ih M h).2.1)
  have hB:=qVW N hA (fun M h=>(Nat.lt_or_eq_of_le h).elim (fun h=>(ih M h).2.1) (fun h=>h▸hT))
  exact ⟨hA,hT,hB,qVX H N hB (fun M h=>(ih M h).2.2.2)⟩
theorem qAQ (r:List UInt8):(BR r).toList=r:=qCA r
theorem qb (r:List UInt8):(BR r).size=r.length:=by rw [←qAZ,qAQ]
theorem qJx (s:ByteArray):BR s.toList=s:=qFG (qAQ _)
theorem qGL (r:List UInt8) (a b:Nat):(BR r).extract a b=BR ((r.take b).drop a):=by
 refine qFG ?_
 rw [qAQ,Go.Lib.toList_data,ByteArray.data_extract,Array.toList_extract]
 simp [BR,List.extract_eq_take_drop,List.drop_take]
theorem qOj (a b:List UInt8):BR a++BR b=BR (a++b):=by
 refine qFG ?_
 rw [qAQ,Go.Lib.toList_data]
 simp [BR]
theorem qVr:∀i:Fin 256,((⟨#[32]⟩:ByteArray).data.toList.contains (UInt8.ofNat i.val))=(UInt8.ofNat i.val==32):=by decide+kernel
def wcS:ByteArray:=⟨#[65,66,67,68,69,70,71,72,73,74,75,76,77,78,79,80,81,82,83,84,85,86,87,88,89,90,48,49,50,51,52,53,54,55,56,57,36]⟩
theorem qVs:∀i:Fin 256,(wcS.data.toList.contains (UInt8.ofNat i.val))=wch (UInt8.ofNat i.val):=by decide+kernel
theorem qSo {f g:UInt8→Bool} (h:∀i:Fin 256,f (UInt8.ofNat i.val)=g (UInt8.ofNat i.val)) (c:UInt8):f c=g c:=by
 have h:=h ⟨c.toNat,UInt8.toNat_lt c⟩
 have e:UInt8.ofNat c.toNat=c:=by simp
 simp only [e] at h
 exact h
theorem qUZ (r:List UInt8):Ev (qBQ · (BR r) ⟨#[32]⟩) (BR (tb r)):=by
 refine ⟨1,fun n hn=>?_⟩
 obtain ⟨m,rfl,hm⟩:=up1 hn
 show zN (BR r) ⟨#[32]⟩=_
 unfold zN
 rw [if_pos ⟨by decide,by decide+kernel⟩]
 unfold Lib.trimLeftS tb
 have:(fun c=>(⟨#[32]⟩:ByteArray).data.toList.contains c)=(fun c=>c==32):=funext (qSo qVr)
 rw [this]
 rfl
theorem qUa (r:List UInt8):Ev (qBQ · (BR r) ⟨#[65,66,67,68,69,70,71,72,73,74,75,76,77,78,79,80,81,82,83,84,85,86,87,88,89,90,48,49,50,51,52,53,54,55,56,57,36]⟩) (BR (wr r)):=by
 refine ⟨1,fun n hn=>?_⟩
 obtain ⟨m,rfl,hm⟩:=up1 hn
 show zN (BR r) wcS=_
 unfold zN
 rw [if_pos ⟨by decide,by decide+kernel⟩]
 unfold Lib.trimLeftS wr
 have:(fun c=>wcS.data.toList.contains c)=wch:=funext (qSo qVs)
 rw [this]
 rfl
theorem qHu (r:List UInt8) (m:Nat) (b:Bool) (rows:List (List PV)):Ev (qA2 · (BR r) m b rows) (BR (tb r),m,b,rows):=by
 obtain ⟨n1,h1⟩:=qUZ r
 refine ⟨n1+1,fun n hn=>?_⟩
 obtain ⟨m,rfl,hm⟩:=up1 hn
 have h1:=h1 m (by omega)
 dsimp only at h1
 simp only [qA2,qDh,qC,qE,qG,qH,qJ,qK,Option.bind_some,qF,qM,qN,h1]
theorem qBi (m:Nat) (s w:List UInt8):qn (m+2) (BR s) (BR w)=some (w.isPrefixOf s):=by
 simp only [qn,qCF,qAE,qA0,qC,qE,qG,qH,qJ,qK,Option.bind_some,qF,qM,qN,qb,qGL,qAQ]
 by_cases h:w.length≤s.length
 ·have h1:((s.length:Nat):Int)≥((w.length:Nat):Int):=by omega
  simp [h1,h,List.isPrefixOf_iff_prefix,List.prefix_iff_eq_take]
  by_cases e:w=s.take w.length
  ·simp [←e,List.isPrefixOf_iff_prefix.2 (List.prefix_iff_eq_take.2 e)]
  ·have e2:¬s.take w.length=w:=fun h=>e h.symm
   have e3:w.isPrefixOf s=false:=by
    rw [Bool.eq_false_iff]
    intro hp
    exact e (List.prefix_iff_eq_take.1 (List.isPrefixOf_iff_prefix.1 hp))
   simp [e2,e3]
 ·have h1:¬((s.length:Nat):Int)≥((w.length:Nat):Int):=by omega
  have e3:w.isPrefixOf s=false:=by
   rw [Bool.eq_false_iff]
   intro hp
   exact h (List.isPrefixOf_iff_prefix.1 hp).length_le
  simp [h1,e3]
theorem qTs (s w:List UInt8):Ev (qn · (BR s) (BR w)) (w.isPrefixOf s):=by
 refine ⟨2,fun n hn=>?_⟩
 obtain ⟨m,rfl,hm⟩:=up1 hn
 obtain ⟨m,rfl,hm⟩:=up1 hm
 exact qBi m s w
def qTQ:List (List PV):=qEi.map fun w=> [PV.s (BR w)]
theorem qR9 {n:Nat} {r:List UInt8} (m:Nat) (b:Bool) (rows:List (List PV)) (h:∀w∈qEi,qn n (BR r) (BR w)=some (w.isPrefixOf r)):
  ∀(k i M:Nat),i+k=15→k+1≤M→zD (qCa n) M (15,15,(i:Int),qTQ,BR r,m,b,rows)=some (match (qEi.drop i).find? (fun w=>w.isPrefixOf r) with|some w=> .inl (BR w,BR r,m,b,rows)|none=> .inr (BR r,m,b,rows))
 |k,i,0,h1,h2=>by omega
 |0,i,M+1,h1,h2=>by
  have hi:i=15:=by omega
  subst hi
  rw [qP (r:= .inr (BR r,m,b,rows)) (by simp [qCa,qC,qE,qG,qH,qJ,qK,Option.bind_some,qF,qM,qN])]
  rfl
 |k+1,i,M+1,h1,h2=>by
  have hi:i<qEi.length:=by simp [qEi];omega
  obtain ⟨w,hw⟩:∃w,qEi[i]?=some w:=⟨_,List.getElem?_eq_getElem hi⟩
  have hR:qTQ[i]?=some [PV.s (BR w)]:=by simp [qTQ,List.getElem?_map,hw]
  have hl:qTQ.length=15:=rfl
  have hc:zR [PV.s (BR w)] 0=some (BR w):=rfl
  have hp:=h w (List.mem_of_getElem? hw)
  have hd:qEi.drop i=w::qEi.drop (i+1):=qDV hw
  have w5:IntKind.i64.wrap ((i:Int)+1)=((i+1:Nat):Int):=by rw [qT (by omega)];omega
  rw [hd]
  simp only [List.find?_cons]
  cases hq:w.isPrefixOf r with
  |true=>
   rw [qP (r:= .inl (BR w,BR r,m,b,rows)) (by
    refine qD (by simp;omega) (qD (by simp [hl];omega) (qA hR (qA hc (qA (hp.trans (congrArg some hq)) (qD rfl rfl))))))]
  |false=>
   rw [qU (v':=(15,15,((i+1:Nat):Int),qTQ,BR r,m,b,rows)) (by
    refine qD (by simp;omega) (qD (by simp [hl];omega) (qA hR (qA hc (qA (hp.trans (congrArg some hq)) (qO rfl ?_)))))
    rw [w5];rfl)]
   exact qR9 m b rows h k (i+1) M (by omega) (by omega)
theorem qOk (r:List UInt8) (m:Nat) (b:Bool) (rows:List (List PV)):Ev (qBv · (BR r) m b rows) (BR (sgn (tb r)),BR (tb r),m,b,rows):=by
 obtain ⟨n1,h1⟩:=qHu r m b rows
 obtain ⟨n2,h2⟩:=qAs (F:=fun w n=>qn n (BR (tb r)) (BR w)) (f:=fun w=>w.isPrefixOf (tb r)) qEi (fun w _=>qTs (tb r) w)
 refine ⟨n1+n2+30,fun n hn=>?_⟩
 obtain ⟨k,rfl,hm⟩:=up1 hn
 have h1:=h1 k (by omega)
 have lp:=qR9 m b rows (h2 k (by omega)) 15 0 k rfl (by omega)
 refine qA h1 (qA lp ?_)
 simp only [List.drop_zero]
 unfold sgn
 cases hq:qEi.find? (fun w=>w.isPrefixOf (tb r)) with
 |some w=>rfl
 |none=>rfl
theorem qUH (r:List UInt8):sgn r<+:r:=by
 unfold sgn
 split
 ·rename_i w hw
  have:=List.find?_some hw
  exact List.isPrefixOf_iff_prefix.1 (by simpa using this)
 ·exact List.nil_prefix
theorem qSA (w r:List UInt8) (m:Nat) (b:Bool) (rows:List (List PV)):Ev (qr · (BR w) (BR r) m b rows) (decide (sgn (tb r)=w),BR (if sgn (tb r)=w then (tb r).drop w.length else tb r),m,b,rows):=by
 obtain ⟨n1,h1⟩:=qOk r m b rows
 refine ⟨n1+1,fun n hn=>?_⟩
 obtain ⟨k,rfl,hm⟩:=up1 hn
 refine qA (h1 k (by omega)) ?_
 by_cases h:sgn (tb r)=w
 ·have hp:=(qUH (tb r)).length_le
  rw [h] at hp
  refine qO (by simp [qAQ,h]) (qD (by simp [qb];omega) ?_)
  rw [qC,qb,qb,qGL]
  simp [h]
 ·refine qD (by simp [qAQ,h]) ?_
  rw [qC]
  simp [h]
theorem qUb (r:List UInt8) (m:Nat) (b:Bool) (rows:List (List PV)) (hr:r.length≤1000):Ev (qBR · (BR r) m b rows) (BR (wd (tb r)),BR (wr (tb r)),m,b,rows):=by
 obtain ⟨n1,h1⟩:=qHu r m b rows
 obtain ⟨n2,h2⟩:=qUa (tb r)
 refine ⟨n1+n2+1,fun n hn=>?_⟩
 obtain ⟨k,rfl,hm⟩:=up1 hn
 have hb:=qAD r
 have hw:=qHQ (tb r)
 have hsum:=congrArg List.length (wdr (tb r))
 simp only [List.length_append] at hsum
 have e:IntKind.i64.wrap (((tb r).length:Int)-((wr (tb r)).length:Int))=((wd (tb r)).length:Int):=by rw [qT (by omega)];omega
 refine qA (h1 k (by omega)) (qA (h2 k (by omega)) ?_)
 simp only [qb,e]
 refine qD (by simp;omega) (qD (by simp;omega) ?_)
 rw [qC]
 have t1:(wd (tb r)++wr (tb r)).take (wd (tb r)).length=wd (tb r):=List.take_left ..
 have t2:(wd (tb r)++wr (tb r)).drop (wd (tb r)).length=wr (tb r):=List.drop_left ..
 rw [wdr] at t1 t2
 simp [qGL,t1,t2]
def qF3 (p:PS):ByteArray×Nat×Bool×List (List PV):=(BR p.1,p.2.2.length,p.2.1,p.2.2.map qa)
def qHW (r:Int×PS):Int×ByteArray×Nat×Bool×List (List PV):=(r.1,BR r.2.1,r.2.2.2.length,r.2.2.1,r.2.2.2.map qa)
def qRi (c:Nd):Prop:=(kd c).length≤2000∧c.2.2.2.2.1.size≤2000
structure Gd (p:PS):Prop where
 r:p.1.length≤1000
 n:p.2.2.length≤60
 s:∀x∈p.2.2,qRi x
theorem qOl (x:Nd) (p:PS) (h:p.2.2.length≤60):Ev (qt · x.1 x.2.1 x.2.2.1 x.2.2.2.1 x.2.2.2.2.1 x.2.2.2.2.2.1 x.2.2.2.2.2.2.1 x.2.2.2.2.2.2.2.1 x.2.2.2.2.2.2.2.2.1 x.2.2.2.2.2.2.2.2.2.1 x.2.2.2.2.2.2.2.2.2.2.1 x.2.2.2.2.2.2.2.2.2.2.2.1 x.2.2.2.2.2.2.2.2.2.2.2.2.1 ((kd x).map qAC) (BR p.1) p.2.2.length p.2.1 (p.2.2.map qa)) (qHW (qDU x p)):=by
 obtain ⟨r,b,l⟩:=p
 refine ⟨1,fun n hn=>?_⟩
 obtain ⟨m,rfl,hm⟩:=up1 hn
 replace h:l.length≤60:=h
 show qt (m+1) _ _ _ _ _ _ _ _ _ _ _ _ _ _ (BR r) l.length b (l.map qa)=_
 unfold qDU
 have w1:IntKind.i64.wrap (((l.length:Nat):Int)-1)=(l.length:Int)-1:=qT (by omega)
 have w2:IntKind.i64.wrap ((((l.length+1):Nat):Int)-1)=(l.length:Int):=by rw [qT (by omega)];omega
 cases b with
 |true=>
  rw [if_pos (.inl rfl)]
  refine qD rfl (qO rfl ?_)
  rw [qC,w1]
  rfl
 |false=>
  by_cases h6:60≤l.length
  ·rw [if_pos (.inr h6)]
   have d:decide (((l.length:Nat):Int)≥60)=true:=decide_eq_true (by omega)
   refine qO rfl (qO (by rw [d];rfl) ?_)
   rw [qC,w1,d]
   rfl
  ·have hn:¬(((r,false,l):PS).2.1=true∨60≤((r,false,l):PS).2.2.length):=by
    intro hh
    rcases hh with hh|hh
    ·exact absurd hh (by simp)
    ·exact h6 hh
   rw [if_neg hn]
   have d:decide (((l.length:Nat):Int)≥60)=false:=decide_eq_false (by omega)
   refine qO rfl (qD (by rw [d];rfl) (qD rfl (qD (decide_eq_true ⟨by simp,by decide,by decide,by simp;omega,rfl⟩) ?_)))
   rw [qC,w2,d]
   simp only [qHW,List.map_append,List.length_append]
   rfl
theorem qK2 (v:V3) (p:PS) (h:p.2.2.length≤60):Ev (qi · v.1 v.2.1 v.2.2 (BR p.1) p.2.2.length p.2.1 (p.2.2.map qa)) (qHW (qDU (nd1 v) p)):=by
 obtain ⟨n1,h1⟩:=qOl (nd1 v) p h
 refine ⟨n1+1,fun n hn=>?_⟩
 obtain ⟨k,rfl,hm⟩:=up1 hn
 exact qA (h1 k (by omega)) rfl
theorem qHR {x:Nd} {p:PS} (h:Gd p) (hx:qRi x):Gd (qDU x p).2:=by
 unfold qDU
 split
 ·exact ⟨h.r,h.n,h.s⟩
 ·rename_i hh
  refine ⟨h.r,?_,fun y hy=>?_⟩
  ·have:¬60≤p.2.2.length:=fun e=>hh (.inr e)
   simp;omega
  ·simp at hy
   rcases hy with hy|rfl
   ·exact h.s _ hy
   ·exact hx
theorem qCu {w:List UInt8} {p:PS} (h:Gd p):Gd (qX w p).2:=by
 have:=qJS w p
 have h2:=qAD p.1
 have h3:=h.r
 refine ⟨by omega,?_,?_⟩
 ·unfold qX;split<;>exact h.n
 ·unfold qX;split<;>exact h.s
theorem qGj (w:List UInt8) (p:PS):Ev (qr · (BR w) (BR p.1) p.2.2.length p.2.1 (p.2.2.map qa)) ((qX w p).1,qF3 (qX w p).2):=by
 obtain ⟨n1,h1⟩:=qSA w p.1 p.2.2.length p.2.1 (p.2.2.map qa)
 refine ⟨n1,fun n hn=>?_⟩
 have h1:=h1 n hn
 unfold qX
 by_cases h:sgn (tb p.1)=w
 ·simp only [h,if_true,decide_true] at h1
  rw [if_pos h];exact h1
 ·simp only [h,if_false,decide_false] at h1
  rw [if_neg h];exact h1
theorem qSp (p:PS) (h:p.1.length≤1000):Ev (qBR · (BR p.1) p.2.2.length p.2.1 (p.2.2.map qa)) (BR (wd (tb p.1)),qF3 (wr (tb p.1),p.2)):=qUb p.1 _ _ _ h
theorem qSq (r:List UInt8):(wd r).length≤r.length:=by
 have:=congrArg List.length (wdr r)
 simp only [List.length_append] at this
 omega
theorem qUz (r:List UInt8) (h:r.length≤1000):Ev (qAm · (BR (wd (tb r)))) (qA6 (BR (wd (tb r)))):=qNT _ (by rw [qb];have:=qSq (tb r);have:=qAD r;omega)
theorem qWL (r:List UInt8) (h:r.length≤1000):Ev (qd · (BR (wd (tb r)))) (qh (BR (wd (tb r)))):=qHq _ (by rw [qb];have:=qSq (tb r);have:=qAD r;omega)
theorem qTR (c:UInt8) (t:List UInt8):Lib.cut (c::t) [34]=if c=34 then ([],t,true) else (c::(Lib.cut t [34]).1,(Lib.cut t [34]).2.1,(Lib.cut t [34]).2.2):=by
 by_cases h:c=34
 ·subst h
  rw [if_pos rfl]
  simp [Lib.cut,Lib.index,List.isPrefixOf]
 ·rw [if_neg h]
  have h':¬34=c:=fun e=>h e.symm
  have g:=Lib.index_ge t [34]
  unfold Lib.cut
  by_cases e:Lib.index t [34]= -1
  ·have:Lib.index (c::t) [34]= -1:=by simp [Lib.index,List.isPrefixOf,h',e]
   simp [this,e]
  ·have:Lib.index (c::t) [34]=Lib.index t [34]+1:=by simp [Lib.index,List.isPrefixOf,h',e]
   have p:0≤Lib.index t [34]:=by omega
   have p1:0≤Lib.index t [34]+1:=by omega
   have q:(Lib.index t [34]+1).toNat=(Lib.index t [34]).toNat+1:=by omega
   simp [this,p,p1,q]
theorem qVt (acc t:List UInt8):qCJ acc (34::34::t)=qCJ (acc++ [34]) t:=(qCJ.eq_def acc _).trans (by simp)
theorem qVu (acc t:List UInt8) (h:t.head?≠some 34):qCJ acc (34::t)=some (acc,t):=by
 refine (qCJ.eq_def acc _).trans ?_
 cases t with
 |nil=>simp
 |cons d t=>
  have:¬d=34:=fun e=>h (by rw [e];rfl)
  simp [this]
theorem qVv (acc t:List UInt8) {c:UInt8} (h:¬c=34):qCJ acc (c::t)=qCJ (acc++ [c]) t:=(qCJ.eq_def acc _).trans (by simp only [if_neg h])
theorem up3 {n n0:Nat} (h:n0+3≤n):∃m,n=m+3∧n0≤m:=⟨n-3,by omega,by omega⟩
theorem qSB:∀(r acc:List UInt8),qCJ acc r=if (Lib.cut r [34]).2.2=true then (if (Lib.cut r [34]).2.1.head?=some 34 then qCJ (acc++(Lib.cut r [34]).1++ [34]) (Lib.cut r [34]).2.1.tail else some (acc++(Lib.cut r [34]).1,(Lib.cut r [34]).2.1)) else none
 | [],acc=>by simp [qCJ,Lib.cut,Lib.index]
 |c::t,acc=>by
  rw [qTR]
  by_cases h:c=34
  ·subst h
   rw [if_pos rfl]
   by_cases e:t.head?=some 34
   ·obtain ⟨u,rfl⟩:∃u,t=34::u:=by
     cases t with
     |nil=>cases e
     |cons d u=>simp at e;subst e;exact ⟨u,rfl⟩
    rw [qVt];simp
   ·rw [qVu acc t e];simp [e]
  ·simp only [if_neg h]
   rw [qVv acc t h,qSB t (acc++ [c])]
   simp
theorem qUI:∀r:List UInt8,(Lib.cut r [34]).1.length+(Lib.cut r [34]).2.1.length≤r.length∧((Lib.cut r [34]).2.2=true→(Lib.cut r [34]).2.1.length<r.length)
 | []=>by simp [Lib.cut,Lib.index]
 |c::t=>by
  rw [qTR]
  have ih:=qUI t
  split
  ·simp
  ·simp only [List.length_cons]
   exact ⟨by omega,fun h=>by have:=ih.2 h;omega⟩
theorem qHS:∀(k:Nat) (acc r:List UInt8) {s t:List UInt8},r.length≤k→qCJ acc r=some (s,t)→s.length≤acc.length+r.length+1
 |k,acc,[],s,t,hk,h=>by simp [qCJ] at h
 |0,acc,c::r,s,t,hk,h=>by simp at hk
 |k+1,acc,c::r,s,t,hk,h=>by
  simp only [List.length_cons] at hk
  unfold qCJ at h
  split at h
  ·cases r with
   |nil=>
    simp at h
    rw [←h.1];simp;omega
   |cons d r'=>
    simp only at h
    split at h
    ·have:=qHS k _ r' (by simp at hk;omega) h
     simp at this⊢;omega
    ·simp at h
     rw [←h.1];simp;omega
  ·have:=qHS k _ r (by omega) h
   simp at this⊢;omega
theorem qVw (m:Nat) (r:List UInt8) (h:r.length≤1000):qID (m+1) (BR r) ⟨#[34]⟩=some (BR (Lib.cut r [34]).1,BR (Lib.cut r [34]).2.1,(Lib.cut r [34]).2.2):=by
 show zAS (BR r) ⟨#[34]⟩=_
 unfold zAS
 rw [if_pos (by rw [qb];omega),←Go.Lib.toList_data (BR r),qAQ]
 rfl
theorem qOx (n:Nat) (orig:ByteArray) (m:Nat) (b:Bool) (rows:List (List PV)):∀(k:Nat) (r acc:List UInt8) (M:Nat),r.length≤k→acc.length+r.length≤1000→k+1≤M→
  zD (qDF (n+2)) M (BR acc,BR r,orig,m,b,rows)=some (match qCJ acc r with
   |none=> .inl (-1,orig,m,true,rows)
   |some (s,t)=> .inr (BR s,BR t,orig,m,b,rows))
 |k,r,acc,0,h1,h2,h3=>by omega
 |k,r,acc,M+1,h1,h2,h3=>by
  have hc:=qVw (n+1) r (by omega)
  have hl:=qUI r
  have hp:=qBi n (Lib.cut r [34]).2.1 [34]
  rw [qSB]
  cases hf:(Lib.cut r [34]).2.2 with
  |false=>
   rw [if_neg (by simp)]
   refine (qP (r:= .inl (-1,orig,m,true,rows)) ?_).trans rfl
   refine qA hc (qD (by simp [hf]) rfl)
  |true=>
   rw [if_pos rfl]
   have hlt:=hl.2 hf
   by_cases hh:(Lib.cut r [34]).2.1.head?=some 34
   ·rw [if_pos hh]
    have hb:List.isPrefixOf [34] (Lib.cut r [34]).2.1=true:=(qFJ 34 _).2 hh
    obtain ⟨u,hu⟩:∃u,(Lib.cut r [34]).2.1=34::u:=by
     cases e:(Lib.cut r [34]).2.1 with
     |nil=>rw [e] at hh;cases hh
     |cons c u=>rw [e] at hh;simp at hh;subst hh;exact ⟨u,rfl⟩
    rw [hb] at hp
    rw [qU (v':=(BR (acc++(Lib.cut r [34]).1++ [34]),BR (Lib.cut r [34]).2.1.tail,orig,m,b,rows)) (by
     refine qA hc (qO (by simp [hf]) (qD (decide_eq_true (by rw [qb,qb];omega)) (qA hp (qO rfl (qD (decide_eq_true (by rw [qOj,qb,List.length_append];show _+1≤9223372036854775807;omega)) (qD (decide_eq_true ⟨by decide,by simp only [qb];rw [hu];simp;omega,by simp [qb]⟩) ?_))))))
     rw [qC]
     simp only [qOj,qb,qGL]
     rw [hu]
     simp
     exact (qOj (acc++(Lib.cut r [34]).1) [34]).trans (by rw [List.append_assoc]))]
    rw [hu] at hl hlt⊢
    simp only [List.length_cons] at hl hlt
    refine qOx n orig m b rows (k-1) _ _ M (by simp;omega) (by simp;omega) (by omega)
   ·rw [if_neg hh]
    have hb:List.isPrefixOf [34] (Lib.cut r [34]).2.1=false:=by
     rw [Bool.eq_false_iff];intro e;exact hh ((qFJ 34 _).1 e)
    rw [hb] at hp
    refine (qP (r:= .inr (BR (acc++(Lib.cut r [34]).1),BR (Lib.cut r [34]).2.1,orig,m,b,rows)) ?_).trans rfl
    refine qA hc (qO (by simp [hf]) (qD (decide_eq_true (by rw [qb,qb];omega)) (qA hp (qD rfl ?_))))
    rw [qC,qOj]
theorem qUc (t:List UInt8) (b:Bool) (l:List Nd) (h:t.length≤999) (hl:l.length≤60):Ev (qDi · (BR (34::t)) l.length b (l.map qa)) (qHW (match qCJ [] t with
   |none=>(-1,34::t,true,l)
   |some (s,t')=>qDU (nd1 (2,0,BR s)) (t',b,l))):=by
 have lp:=fun n M (hM:t.length+1≤M)=>qOx n (BR (34::t)) l.length b (l.map qa) t.length t [] M (Nat.le_refl _) (by simp;omega) hM
 cases hq:qCJ [] t with
 |none=>
  refine ⟨t.length+1+3,fun n hn=>?_⟩
  obtain ⟨m,rfl,hm⟩:=up3 hn
  have lp:=lp m (m+2) (by omega)
  rw [hq] at lp
  refine qD (decide_eq_true ⟨by decide,by rw [qb];simp;omega,Int.le_refl _⟩) ?_
  have e:(BR (34::t)).extract ((1:Int)).toNat ((((BR (34::t)).size:Nat):Int)).toNat=BR t:=by rw [qGL,qb];simp
  rw [e]
  exact qA lp rfl
 |some st=>
  obtain ⟨s,t'⟩:=st
  obtain ⟨n1,h1⟩:=qK2 (2,0,BR s) (t',b,l) hl
  refine ⟨n1+t.length+1+3,fun n hn=>?_⟩
  obtain ⟨m,rfl,hm⟩:=up3 hn
  have lp:=lp m (m+2) (by omega)
  rw [hq] at lp
  refine qD (decide_eq_true ⟨by decide,by rw [qb];simp;omega,Int.le_refl _⟩) ?_
  have e:(BR (34::t)).extract ((1:Int)).toNat ((((BR (34::t)).size:Nat):Int)).toNat=BR t:=by rw [qGL,qb];simp
  rw [e]
  exact qA lp (qA (h1 (m+2) (by omega)) rfl)
theorem qVa (m:Nat) (r:List UInt8) (w:ByteArray):qAK (m+1) (BR r) w=some (BR (if w.toList.isPrefixOf r=true then r.drop w.size else r),w.toList.isPrefixOf r):=by
 show zY (BR r) w=_
 unfold zY Lib.trimPrefix Lib.hasPrefix
 rw [←Go.Lib.toList_data (BR r),←Go.Lib.toList_data w,qAQ,qAZ]
 rfl
theorem qTS {n:Nat} (deep:Int) (r:List UInt8) (b:Bool) (l:List Nd)
  (h1:∀i,0≤i∧i≤5→qAl n i=some (qe i)) (h2:∀i,1≤i∧i≤5→qB2 n i=some (4,i,em))
  (h3:∀w,qAK n (BR r) w=some (BR (if w.toList.isPrefixOf r=true then r.drop w.size else r),w.toList.isPrefixOf r))
  (h4:∀i,1≤i∧i≤5→qi n 4 i em (BR (r.drop (qe i).size)) l.length b (l.map qa)=some (qHW (qDU (nd1 (4,i,em)) (r.drop (qe i).size,b,l)))):
  ∀(k:Nat) (i:Int) (M:Nat),1≤i→i+k=6→k+1≤M→zD (qCK n) M (deep,i,BR r,l.length,b,l.map qa)=some (match qJw r i k with
   |some e=> .inl (qHW (qDU (nd1 (4,e,em)) (r.drop (qe e).size,b,l)))
   |none=> .inr (deep,BR r,l.length,b,l.map qa))
 |k,i,0,_,_,h=>by omega
 |0,i,M+1,hi,hk,h=>by
  rw [qP (r:= .inr (deep,BR r,l.length,b,l.map qa)) (by exact qO (decide_eq_false (show ¬i≤5 by omega)) rfl)]
  rfl
 |k+1,i,M+1,hi,hk,h=>by
  have hi5:1≤i∧i≤5:=⟨hi,by omega⟩
  have c:=h3 (qe i)
  cases hq:(qe i).toList.isPrefixOf r with
  |true=>
   rw [hq,if_pos rfl] at c
   unfold qJw
   rw [if_pos hq]
   refine qP (qD (decide_eq_true (show i≤5 by omega)) (qA (h1 i ⟨by omega,by omega⟩) (qA c (qD rfl (qA (h2 i hi5) (qA (h4 i hi5) rfl))))))
  |false=>
   rw [hq,if_neg (by simp)] at c
   unfold qJw
   rw [if_neg (by rw [hq];simp)]
   have w1:IntKind.i64.wrap (i+1)=i+1:=qT (by omega)
   rw [qU (v':=(deep,i+1,BR r,l.length,b,l.map qa)) (by refine qD (decide_eq_true (show i≤5 by omega)) (qA (h1 i ⟨by omega,by omega⟩) (qA c (qO rfl ?_)));rw [qC,w1])]
   exact qTS deep r b l h1 h2 h3 h4 k (i+1) M (by omega) (by omega) (by omega)
theorem qVx (deep:Int) (r:List UInt8) (b:Bool) (l:List Nd) (hl:l.length≤60):∃n0,∀n,n0≤n→∀M,n0≤M→zD (qCK n) M (deep,1,BR r,l.length,b,l.map qa)=some (match qJw r 1 5 with
   |some e=> .inl (qHW (qDU (nd1 (4,e,em)) (r.drop (qe e).size,b,l)))
   |none=> .inr (deep,BR r,l.length,b,l.map qa)):=by
 obtain ⟨n1,h1⟩:=qGg (F:=qAl) (f:=qe) (lo:=0) (by decide) qFH
 obtain ⟨n2,h2⟩:=qGg (F:=qB2) (f:=fun i=>(4,i,em)) (lo:=1) (by decide) (fun i _=>qLu i)
 obtain ⟨n4,h4⟩:=qGg (F:=fun n i=>qi n 4 i em (BR (r.drop (qe i).size)) l.length b (l.map qa)) (f:=fun i=>qHW (qDU (nd1 (4,i,em)) (r.drop (qe i).size,b,l))) (lo:=1) (by decide) (fun i _=>qK2 (4,i,em) (r.drop (qe i).size,b,l) hl)
 refine ⟨n1+n2+n4+7,fun n hn M hM=>?_⟩
 exact qTS deep r b l (h1 n (by omega)) (h2 n (by omega)) (fun w=>by
  obtain ⟨m,rfl,_⟩:=up1 (show n1+1≤n by omega)
  exact qVa m r w) (h4 n (by omega)) 5 1 M (by omega) (by omega) (by omega)
theorem qUJ {g:G_impl_reader_binary} {n:Nat} (deep:Int) (w:List UInt8) (p:PS) (res:Int→Int×PS) (h1:∀i,1≤i∧i≤10→qCN n i=some (fnS i)):
  ∀(k:Nat) (i:Int) (M:Nat),1≤i→i+k=11→k+1≤M→(∀op,qGi w i k=some op→g.impl_reader_call op deep (BR p.1) p.2.2.length p.2.1 (p.2.2.map qa)=some (qHW (res op)))→
   zD (qAq g n) M (deep,BR w,i,BR p.1,p.2.2.length,p.2.1,p.2.2.map qa)=some (match qGi w i k with
   |some op=> .inl (qHW (res op))
   |none=> .inr (qF3 p))
 |k,i,0,_,_,h,_=>by omega
 |0,i,M+1,hi,hk,h,_=>by
  rw [qP (r:= .inr (qF3 p)) (by exact qO (decide_eq_false (show ¬i≤10 by omega)) rfl)]
  rfl
 |k+1,i,M+1,hi,hk,h,hc=>by
  unfold qGi at hc⊢
  by_cases hq:(fnS i).toList=w
  ·rw [if_pos hq] at hc⊢
   refine qP (qD (decide_eq_true (show i≤10 by omega)) (qA (h1 i ⟨hi,by omega⟩) (qD (by simp [qAQ,hq]) (qA (hc i rfl) rfl))))
  ·rw [if_neg hq] at hc⊢
   have w1:IntKind.i64.wrap (i+1)=i+1:=qT (by omega)
   have hq':¬w=(fnS i).toList:=fun e=>hq e.symm
   rw [qU (v':=(deep,BR w,i+1,BR p.1,p.2.2.length,p.2.1,p.2.2.map qa)) (by refine qD (decide_eq_true (show i≤10 by omega)) (qA (h1 i ⟨hi,by omega⟩) (qO (by simp [qAQ,hq']) ?_));rw [qC,w1])]
   exact qUJ deep w p res h1 k (i+1) M (by omega) (by omega) (by omega) hc
theorem qVy:∃n0,∀n,n0≤n→∀i,1≤i∧i≤10→qCN n i=some (fnS i):=by
 obtain ⟨n1,h1⟩:=qAs (F:=fun (i:Nat) n=>qCN n ((i:Int)+1)) (f:=fun i=>fnS ((i:Int)+1)) (List.range 10) (fun i hi=>qKz _ (by have:=List.mem_range.1 hi;omega))
 refine ⟨n1,fun n hn i hi=>?_⟩
 have:=h1 n hn (i-1).toNat (List.mem_range.2 (by omega))
 rwa [show (((i-1).toNat:Nat):Int)+1=i by omega] at this
theorem qVz:∃n0,∀n,n0≤n→∀i,1≤i∧i≤11→qBa n i=some (qAT i):=by
 obtain ⟨n1,h1⟩:=qAs (F:=fun (i:Nat) n=>qBa n ((i:Int)+1)) (f:=fun i=>qAT ((i:Int)+1)) (List.range 11) (fun i hi=>qHP _ (by have:=List.mem_range.1 hi;omega))
 refine ⟨n1,fun n hn i hi=>?_⟩
 have:=h1 n hn (i-1).toNat (List.mem_range.2 (by omega))
 rwa [show (((i-1).toNat:Nat):Int)+1=i by omega] at this
def opF (s:List UInt8):Int→Int→Nat→Int
 |op,_,0=>op
 |op,i,k+1=>opF s (if s=(qAT i).toList then i else op) (i+1) k
theorem qV0 (r:List UInt8):opF (sgn r) 0 1 11=qAy r:=by
 unfold qAy
 generalize sgn r=s
 by_cases h1:s= [43]; · subst h1;decide+kernel
 by_cases h2:s= [45]; · subst h2;decide+kernel
 by_cases h3:s= [42]; · subst h3;decide+kernel
 by_cases h4:s= [47]; · subst h4;decide+kernel
 by_cases h5:s= [38]; · subst h5;decide+kernel
 by_cases h6:s= [61]; · subst h6;decide+kernel
 by_cases h7:s= [60,62]; · subst h7;decide+kernel
 by_cases h8:s= [60]; · subst h8;decide+kernel
 by_cases h9:s= [60,61]; · subst h9;decide+kernel
 by_cases h10:s= [62]; · subst h10;decide+kernel
 by_cases h11:s= [62,61]; · subst h11;decide+kernel
 rw [if_neg h1,if_neg h2,if_neg h3,if_neg h4,if_neg h5,if_neg h6,if_neg h7,if_neg h8,if_neg h9,if_neg h10,if_neg h11]
 rw [←sg1] at h1;rw [←sg2] at h2;rw [←sg3] at h3;rw [←sg4] at h4;rw [←sg5] at h5;rw [←sg6] at h6;rw [←sg7] at h7;rw [←sg8] at h8;rw [←sg9] at h9;rw [←qUv] at h10;rw [←qUw] at h11
 simp only [opF,if_neg h1]
 simp only [show (1:Int)+1=2 from rfl,if_neg h2,show (2:Int)+1=3 from rfl,if_neg h3,show (3:Int)+1=4 from rfl,if_neg h4,show (4:Int)+1=5 from rfl,if_neg h5,show (5:Int)+1=6 from rfl,if_neg h6,show (6:Int)+1=7 from rfl,if_neg h7,show (7:Int)+1=8 from rfl,if_neg h8,show (8:Int)+1=9 from rfl,if_neg h9,show (9:Int)+1=10 from rfl,if_neg h10,show (10:Int)+1=11 from rfl,if_neg h11]
theorem qTT {n:Nat} (least deep a op i:Int) (r R:List UInt8) (m:Nat) (b:Bool) (rows:List (List PV)) (hi:1≤i∧i≤11)
  (h1:qBv n (BR r) m b rows=some (BR (sgn R),BR R,m,b,rows)) (h2:qBa n i=some (qAT i)):
  (qBI n (least,deep,a,op,i,BR r,m,b,rows)).run=some (.inl (least,deep,a,if sgn R=(qAT i).toList then i else op,i+1,BR R,m,b,rows)):=by
 have w1:IntKind.i64.wrap (i+1)=i+1:=qT (by omega)
 refine qD (decide_eq_true (show i≤11 by omega)) (qA h1 (qA h2 ?_))
 by_cases hq:sgn R=(qAT i).toList
 ·rw [if_pos hq]
  exact qD (by simp [qAQ,hq]) (by rw [qC,w1])
 ·rw [if_neg hq]
  exact qO (by simp [qAQ,hq]) (by rw [qC,w1])
theorem qTU {n:Nat} (least deep a:Int) (R:List UInt8) (m:Nat) (b:Bool) (rows:List (List PV))
  (h1:qBv n (BR R) m b rows=some (BR (sgn R),BR R,m,b,rows)) (h2:∀i,1≤i∧i≤11→qBa n i=some (qAT i)):
  ∀(k:Nat) (op i:Int) (M:Nat),1≤i→i+k=12→k+1≤M→zD (qBI n) M (least,deep,a,op,i,BR R,m,b,rows)=some (least,deep,a,opF (sgn R) op i k,BR R,m,b,rows)
 |k,op,i,0,_,_,h=>by omega
 |0,op,i,M+1,hi,hk,h=>by
  rw [qP (r:=(least,deep,a,op,BR R,m,b,rows)) (by exact qO (decide_eq_false (show ¬i≤11 by omega)) rfl)]
  rfl
 |k+1,op,i,M+1,hi,hk,h=>by
  rw [qU (qTT least deep a op i R R m b rows ⟨hi,by omega⟩ h1 (h2 i ⟨hi,by omega⟩))]
  exact qTU least deep a R m b rows h1 h2 k _ (i+1) M (by omega) (by omega) (by omega)
theorem qVb (least deep a:Int) (r:List UInt8) (m:Nat) (b:Bool) (rows:List (List PV)):∃n0,∀n,n0≤n→∀M,n0≤M→zD (qBI n) M (least,deep,a,0,1,BR r,m,b,rows)=some (least,deep,a,qAy (tb r),BR (tb r),m,b,rows):=by
 obtain ⟨n1,h1⟩:=qOk r m b rows
 obtain ⟨n2,h2⟩:=qOk (tb r) m b rows
 obtain ⟨n3,h3⟩:=qVz
 refine ⟨n1+n2+n3+20,fun n hn M hM=>?_⟩
 obtain ⟨M,rfl,hM⟩:=up1 hM
 have h2:=h2 n (by omega)
 rw [qCe] at h2
 rw [qU (qTT least deep a 0 1 r (tb r) m b rows (by omega) (h1 n (by omega)) (h3 n (by omega) 1 (by omega)))]
 rw [show (1:Int)+1=2 from rfl,qTU least deep a (tb r) m b rows h2 (h3 n (by omega)) 10 _ 2 M (by omega) (by omega) (by omega),←qV0]
 rfl
theorem qUK {p:PS} (h:Gd p):Gd (qBK p).2∧(qBK p).2.1.length≤p.1.length∧∀x,(qBK p).1=some x→qRi x:=by
 have h1:=qAD p.1
 have h2:=qHQ (tb p.1)
 have h0:=h.r
 unfold qBK
 simp only
 split
 ·have h3:=qJS [58] (wr (tb p.1),p.2)
  have h4:=qAD (qX [58] (wr (tb p.1),p.2)).2.1
  have h5:=qHQ (tb (qX [58] (wr (tb p.1),p.2)).2.1)
  have h6:=qAD (wr (tb p.1))
  have e:(qX [58] (wr (tb p.1),p.2)).2.2.2=p.2.2:=by unfold qX;split<;>rfl
  simp only at h3
  refine ⟨⟨by simp only;omega,by rw [e];exact h.n,by rw [e];exact h.s⟩,by simp only;omega,fun x hx=>?_⟩
  cases hx
  exact ⟨by simp [kd,ndA],by simp [ndA,em];decide⟩
 ·exact ⟨h,Nat.le_refl _,fun x hx=>by cases hx⟩
theorem qVc (p:PS) (h:p.1.length≤1000):∃x:Nd,(∀y,(qBK p).1=some y→x=y)∧Ev (qDM · (BR p.1) p.2.2.length p.2.1 (p.2.2.map qa)) (x.1,x.2.1,x.2.2.1,x.2.2.2.1,x.2.2.2.2.1,x.2.2.2.2.2.1,x.2.2.2.2.2.2.1,x.2.2.2.2.2.2.2.1,x.2.2.2.2.2.2.2.2.1,x.2.2.2.2.2.2.2.2.2.1,x.2.2.2.2.2.2.2.2.2.2.1,x.2.2.2.2.2.2.2.2.2.2.2.1,x.2.2.2.2.2.2.2.2.2.2.2.2.1,(kd x).map qAC,(qBK p).1.isSome,qF3 (qBK p).2):=by
 have l1:=qAD p.1
 have l2:=qHQ (tb p.1)
 have l3:=qJS [58] (wr (tb p.1),p.2)
 have l6:=qAD (wr (tb p.1))
 simp only at l3
 obtain ⟨n1,h1⟩:=qSp p h
 obtain ⟨n2,h2⟩:=qUz p.1 h
 obtain ⟨n3,h3⟩:=qGj [58] (wr (tb p.1),p.2)
 have hle:(qX [58] (wr (tb p.1),p.2)).2.1.length≤1000:=by omega
 obtain ⟨n4,h4⟩:=qSp (qX [58] (wr (tb p.1),p.2)).2 hle
 obtain ⟨n5,h5⟩:=qUz (qX [58] (wr (tb p.1),p.2)).2.1 hle
 have e:(qX [58] (wr (tb p.1),p.2)).2.2=p.2:=by unfold qX;split<;>rfl
 unfold qBK
 simp only
 by_cases hc:(qA6 (BR (wd (tb p.1)))).2.2.2.2=true∧(qX [58] (wr (tb p.1),p.2)).1=true
 ·rw [if_pos hc]
  refine ⟨_,fun y hy=>by cases hy;rfl,n1+n2+n3+n4+n5+1,fun n hn=>?_⟩
  obtain ⟨k,rfl,hm⟩:=up1 hn
  refine qA (h1 k (by omega)) (qA (h2 k (by omega)) (qD hc.1 (qA (h3 k (by omega)) (qO (by simp only;rw [hc.2];rfl) (qA (h4 k (by omega)) (qA (h5 k (by omega)) ?_))))))
  cases hb:(qX [58] (wr (tb p.1),p.2)).2.2.1 with
  |true=>
   refine qD hb ?_
   rw [qC];rfl
  |false=>
   refine qO hb ?_
   rw [qC];rfl
 ·rw [if_neg hc]
  refine ⟨(0,0,0,0,⟨#[]⟩,0,0,false,false,0,0,false,false,[]),fun y hy=>(by cases hy),n1+n2+n3+1,fun n hn=>?_⟩
  obtain ⟨k,rfl,hm⟩:=up1 hn
  cases hr:(qA6 (BR (wd (tb p.1)))).2.2.2.2 with
  |false=>exact qA (h1 k (by omega)) (qA (h2 k (by omega)) (qO hr rfl))
  |true=>
   have ht:(qX [58] (wr (tb p.1),p.2)).1=false:=by
    rw [Bool.eq_false_iff];exact fun e=>hc ⟨hr,e⟩
   refine qA (h1 k (by omega)) (qA (h2 k (by omega)) (qD hr (qA (h3 k (by omega)) (qD (by simp only;rw [ht];rfl) ?_))))
   rw [qC]
   simp only [qF3,e]
   rfl
theorem qK3 {s:ByteArray} (h:(qh s).2.2.2=true) (hk:(qh s).1=1∨(qh s).1=3):(qh s).2.2.1.size≤2000:=by
 unfold qh at h hk⊢
 split at h
 ·rename_i hc
  rw [if_pos hc] at hk⊢
  have h1:=hc.1
  unfold okV at h1
  have h2:¬(qBN s).1=2:=by
   simp only at hk
   omega
  rw [if_neg h2] at h1
  simp only [Bool.and_eq_true,beq_iff_eq] at h1
  have:=congrArg List.length h1.1
  rw [qAZ] at this
  have h0:(qBN s).2.2.size=0:=this
  show (qBN s).2.2.size≤2000
  omega
 ·cases h
def Kj:PJ→PS→Prop
 | .args _ _ kids,p=>kids.length+p.1.length≤1500
 |_,_=>True
theorem qLC {w:List UInt8} {p:PS} (h:Gd p):Gd (qCY w p)∧(qCY w p).1.length≤p.1.length:=by
 have h1:=qJS w p
 have h2:=qAD p.1
 unfold qCY
 split
 ·exact ⟨h,Nat.le_refl _⟩
 ·split
  ·exact ⟨qCu h,by omega⟩
  ·exact ⟨⟨(qCu h).r,(qCu h).n,(qCu h).s⟩,by show (qX w p).2.1.length≤_;omega⟩
theorem qNb {p:PS} {r:List UInt8} (h:Gd p) (hr:r.length≤p.1.length):Gd (r,p.2):=⟨by have:=h.r;simp only;omega,h.n,h.s⟩
theorem qFN:∀(f:Nat) (j:PJ) (p:PS),Gd p→Kj j p→Gd (pP f j p).2∧(pP f j p).2.1.length≤p.1.length
 |0,j,p,h,_=>⟨h,Nat.le_refl _⟩
 |f+1,.bin least deep,p,h,_=>by
  unfold pP
  have a:=qFN f (.un deep) p h trivial
  have b:=qFN f (.loop least deep (pP f (.un deep) p).1) (pP f (.un deep) p).2 a.1 trivial
  exact ⟨b.1,Nat.le_trans b.2 a.2⟩
 |f+1,.loop least deep a,p,h,_=>by
  have h1:=qAD p.1
  unfold pP
  split
  ·exact ⟨h,Nat.le_refl _⟩
  ·split
   ·exact ⟨qNb h h1,h1⟩
   ·have l1:((tb p.1).drop (sgn (tb p.1)).length).length≤p.1.length:=by simp;omega
    have b:=qFN f (.bin (lvl (qAy (tb p.1))+1) deep) ((tb p.1).drop (sgn (tb p.1)).length,p.2) (qNb h l1) trivial
    simp only
    have c:=qHR (x:=ndK 5 (qAy (tb p.1)) [a,(pP f (.bin (lvl (qAy (tb p.1))+1) deep) ((tb p.1).drop (sgn (tb p.1)).length,p.2)).1]) b.1 ⟨by simp [kd,ndK],by simp [ndK,em];decide⟩
    have d:=qFN f (.loop least deep (qDU (ndK 5 (qAy (tb p.1)) [a,(pP f (.bin (lvl (qAy (tb p.1))+1) deep) ((tb p.1).drop (sgn (tb p.1)).length,p.2)).1]) (pP f (.bin (lvl (qAy (tb p.1))+1) deep) ((tb p.1).drop (sgn (tb p.1)).length,p.2)).2).1) _ c trivial
    refine ⟨d.1,Nat.le_trans d.2 ?_⟩
    rw [qA5]
    exact Nat.le_trans b.2 l1
 |f+1,.un deep,p,h,_=>by
  have h1:=qAD p.1
  have h2:=qJS [45] p
  unfold pP
  split
  ·exact ⟨⟨h.r,h.n,h.s⟩,Nat.le_refl _⟩
  ·split
   ·simp only
    have b:=qFN f (.un (deep+1)) (qX [45] p).2 (qCu h) trivial
    refine ⟨qHR b.1 ⟨by simp [kd,ndK],by simp [ndK,em];decide⟩,?_⟩
    rw [qA5]
    exact Nat.le_trans b.2 (by omega)
   ·have b:=qFN f (.at deep) (qX [45] p).2 (qCu h) trivial
    exact ⟨b.1,Nat.le_trans b.2 (by omega)⟩
 |f+1,.at deep,p,h,_=>by
  have h1:=qAD p.1
  have h2:=qJS [40] p
  have h3:=qHQ (tb p.1)
  have h4:=h.r
  have g2:Gd (wr (tb p.1),p.2):=qNb h (by omega)
  unfold pP
  simp only
  split
  ·split
   ·exact ⟨⟨by simp only;omega,h.n,h.s⟩,h1⟩
   ·rename_i hh _ s t hq
    have a:=qLA _ _ hq
    have b:=qHS _ _ _ (Nat.le_refl _) hq
    simp only [List.length_tail,List.length_nil] at a b
    refine ⟨qHR (qNb h (by omega)) ⟨by simp [kd,nd1],by simp only [nd1,qb];omega⟩,?_⟩
    rw [qA5];simp only;omega
  ·split
   ·refine ⟨qHR (qNb h (by simp;omega)) ⟨by simp [kd,nd1],by simp [nd1,em];decide⟩,?_⟩
    rw [qA5];simp;omega
   ·split
    ·have b:=qFN f (.bin 1 (deep+1)) (qX [40] p).2 (qCu h) trivial
     have c:=qLC (w:= [41]) b.1
     exact ⟨c.1,Nat.le_trans c.2 (Nat.le_trans b.2 (by omega))⟩
    ·split
     ·rename_i hv
      refine ⟨qHR g2 ⟨by simp [kd,nd1],qK3 hv.1 hv.2⟩,?_⟩
      rw [qA5];simp only;omega
     ·split
      ·refine ⟨qHR g2 ⟨by simp [kd,ndC],by simp [ndC,em];decide⟩,?_⟩
       rw [qA5];simp only;omega
      ·split
       ·rename_i op _
        have b:=qFN f (.call op deep) (wr (tb p.1),p.2) g2 trivial
        exact ⟨b.1,Nat.le_trans b.2 (by simp only;omega)⟩
       ·exact ⟨⟨g2.r,g2.n,g2.s⟩,by show (wr (tb p.1)).length≤_;omega⟩
 |f+1,.call op deep,p,h,_=>by
  unfold pP
  have a:=qLC (w:= [40]) h
  have b:=qFN f (.args op deep []) (qCY [40] p) a.1 (by have:=a.1.r;show 0+_≤_;omega)
  exact ⟨b.1,Nat.le_trans b.2 a.2⟩
 |f+1,.args op deep kids,p,h,hk=>by
  replace hk:kids.length+p.1.length≤1500:=hk
  unfold pP
  split
  ·refine ⟨qHR h ⟨by simp [kd,ndK];omega,by simp [ndK,em];decide⟩,?_⟩
   rw [qA5];exact Nat.le_refl _
  ·simp only
   have a:=qUK h
   have qg:Gd (qEk (qBK p) (fun p=>pP f (.bin 1 (deep+1)) p)).2∧(qEk (qBK p) (fun p=>pP f (.bin 1 (deep+1)) p)).2.1.length≤p.1.length:=by
    unfold qEk
    split
    ·rename_i x hx
     refine ⟨qHR a.1 (a.2.2 x hx),?_⟩
     rw [qA5];exact a.2.1
    ·have b:=qFN f (.bin 1 (deep+1)) (qBK p).2 a.1 trivial
     exact ⟨b.1,Nat.le_trans b.2 a.2.1⟩
   generalize qEk (qBK p) (fun p=>pP f (.bin 1 (deep+1)) p)=q at qg⊢
   have t0:=qg.2
   have t1:=qAD q.2.1
   have t2:=qJS [44] q.2
   split
   ·rename_i ht
    have t3:=qDq (by simp) ht
    have b:=qFN f (.args op deep (kids++ [q.1])) (qX [44] q.2).2 (qCu qg.1) (by show (kids++ [q.1]).length+_≤_;simp;omega)
    exact ⟨b.1,Nat.le_trans b.2 (by omega)⟩
   ·have c:=qLC (w:= [41]) (qCu (w:= [44]) qg.1)
    refine ⟨qHR c.1 ⟨by simp [kd,ndK];omega,by simp [ndK,em];decide⟩,?_⟩
    rw [qA5]
    exact Nat.le_trans c.2 (by omega)
def Ad (f:Nat):PJ→PS→Prop
 | .bin _ _,p=>20*(tb p.1).length+6≤f
 | .loop _ _ _,p=>20*(tb p.1).length+5≤f
 | .un _,p=>20*(tb p.1).length+4≤f
 | .at _,p=>20*(tb p.1).length+3≤f∧p.2.1=false
 | .call _ _,p=>20*(tb p.1).length+9≤f
 | .args _ _ _,p=>20*(tb p.1).length+8≤f
def Jd:PJ→Prop
 | .bin _ d=>0≤d∧d≤401
 | .loop _ d _=>0≤d∧d≤401
 | .un d=>0≤d∧d≤401
 | .at d=>0≤d∧d≤400
 | .call _ d=>0≤d∧d≤400
 | .args _ d _=>0≤d∧d≤400
def Wk:PJ→PS→Int×PS→Prop
 | .bin least deep,p,r=>Ev (qCp · least deep (BR p.1) p.2.2.length p.2.1 (p.2.2.map qa)) (qHW r)
 | .loop least deep a,p,r=>∃n0,∀n,n0≤n→∀M,n0≤M→zD (qDG (qR n) n) M (least,deep,a,qF3 p)=some (qHW r)
 | .un deep,p,r=>Ev (qGU · deep (BR p.1) p.2.2.length p.2.1 (p.2.2.map qa)) (qHW r)
 | .at deep,p,r=>Ev (qHE · deep (BR p.1) p.2.2.length p.2.1 (p.2.2.map qa)) (qHW r)
 | .call op deep,p,r=>Ev (qCW · op deep (BR p.1) p.2.2.length p.2.1 (p.2.2.map qa)) (qHW r)
 | .args op deep kids,p,r=>∃(ks:List Int) (p':PS),r=qDU (ndK 6 op ks) p'∧Gd p'∧ks.length≤1501∧∃n0,∀n,n0≤n→∀M,n0≤M→
   zD (qCb (qR n) n) M (op,deep,kids.length,kids.map qAC,qF3 p)=some (op,ks.length,ks.map qAC,qF3 p')
theorem qNc (w:List UInt8) {p:PS} (h:p.2.1=false):(BR (qX w p).2.1,(qX w p).2.2.2.length,!(qX w p).1,(qX w p).2.2.2.map qa)=qF3 (qCY w p):=by
 have e:(qX w p).2.2=p.2:=by unfold qX;split<;>rfl
 unfold qCY
 rw [if_neg (by rw [h];simp)]
 cases hc:(qX w p).1 with
 |true=>rw [if_pos rfl];simp only [qF3,e,h];rfl
 |false=>rw [if_neg (by simp)];rfl
theorem qSr {r w:List UInt8} (hw:w≠ []) (h:w<+:r):(tb (r.drop w.length)).length<r.length:=by
 have h1:=qAD (r.drop w.length)
 have h2:=h.length_le
 have h3:0<w.length:=List.length_pos_iff.2 hw
 simp only [List.length_drop] at h1
 omega
theorem qWM {r:List UInt8} (h:qAy r≠0):1≤qAy r∧qAy r≤11∧sgn r=(qAT (qAy r)).toList∧sgn r≠ []:=by
 rcases qUG r with e|⟨a,b,c⟩
 ·exact absurd e h
 ·refine ⟨a,b,c,fun e=>h ?_⟩
  unfold qAy;rw [e];decide
def qU0 (f:Nat) (deep:Int) (w:List UInt8) (p2:PS):Int×PS:=
 if (qh (BR w)).2.2.2=true∧((qh (BR w)).1=1∨(qh (BR w)).1=3) then qDU (nd1 ((qh (BR w)).1,(qh (BR w)).2.1,(qh (BR w)).2.2.1)) p2
 else if (qA6 (BR w)).2.2.2.2=true then qDU (ndC (qA6 (BR w))) p2
 else match qGi w 1 10 with
 |some op=>pP f (.call op deep) p2
 |none=>(-1,qTp p2)
def qTt (g:G_impl_reader_binary) (n:Nat) (deep:Int) (w:ByteArray) (c:ByteArray×Nat×Bool×List (List PV)):Tr (Int×ByteArray×Nat×Bool×List (List PV)):=
 (.opt (qAm n w) fun r=>(.ask r.2.2.2.2
  (.opt (qt n 2 0 0 0 ⟨#[]⟩ r.1 r.2.1 r.2.2.1 r.2.2.2.1 0 0 false false [] c.1 c.2.1 c.2.2.1 c.2.2.2) fun s=> .done (s.1,s.2.1,s.2.2.1,s.2.2.2.1,s.2.2.2.2))
  (.opt (zD (qAq g n) n (deep,w,1,c.1,c.2.1,c.2.2.1,c.2.2.2)) fun s=>(.alt s (fun t=> .done (t.1,t.2.1,t.2.2.1,t.2.2.2.1,t.2.2.2.2)) (fun t=> .done (-1,t.1,t.2.1,true,t.2.2.2))))))
def qVn (g:G_impl_reader_binary) (n:Nat) (deep:Int) (w:ByteArray) (c:ByteArray×Nat×Bool×List (List PV)):Tr (Int×ByteArray×Nat×Bool×List (List PV)):=
 (.opt (qd n w) fun r=>(.ask r.2.2.2
  (.ask (r.1==1) (.opt (qi n r.1 r.2.1 r.2.2.1 c.1 c.2.1 c.2.2.1 c.2.2.2) fun s=> .done (s.1,s.2.1,s.2.2.1,s.2.2.2.1,s.2.2.2.2))
   (.ask (r.1==3) (.opt (qi n r.1 r.2.1 r.2.2.1 c.1 c.2.1 c.2.2.1 c.2.2.2) fun s=> .done (s.1,s.2.1,s.2.2.1,s.2.2.2.1,s.2.2.2.2))
    (qTt g n deep w c)))
  (qTt g n deep w c)))
theorem qUd (f:Nat) (deep:Int) (r:List UInt8) (p2:PS) (hr:r.length≤1000) (hp:p2.2.2.length≤60) (hc:∀op,qGi (wd (tb r)) 1 10=some op→Ev (qCW · op deep (BR p2.1) p2.2.2.length p2.2.1 (p2.2.2.map qa)) (qHW (pP f (.call op deep) p2))):
  ∃n0,∀n,n0≤n→(qTt (qR n) n deep (BR (wd (tb r))) (qF3 p2)).run=some (qHW (if (qA6 (BR (wd (tb r)))).2.2.2.2=true then qDU (ndC (qA6 (BR (wd (tb r))))) p2 else match qGi (wd (tb r)) 1 10 with
   |some op=>pP f (.call op deep) p2
   |none=>(-1,qTp p2))):=by
 obtain ⟨n1,h1⟩:=qUz r hr
 obtain ⟨n2,h2⟩:=qOl (ndC (qA6 (BR (wd (tb r))))) p2 hp
 obtain ⟨n3,h3⟩:=qVy
 obtain ⟨n4,h4⟩:∃n4,∀n,n4≤n→∀op,qGi (wd (tb r)) 1 10=some op→qCW n op deep (BR p2.1) p2.2.2.length p2.2.1 (p2.2.2.map qa)=some (qHW (pP f (.call op deep) p2)):=by
  cases hf:qGi (wd (tb r)) 1 10 with
  |none=>exact ⟨0,fun n _ op h=>by cases h⟩
  |some op=>obtain ⟨n4,h4⟩:=hc op hf;exact ⟨n4,fun n hn op' h=>by cases h;exact h4 n hn⟩
 refine ⟨n1+n2+n3+n4+12,fun n hn=>?_⟩
 have lp:=qUJ (g:=qR n) deep (wd (tb r)) p2 (fun op=>pP f (.call op deep) p2) (h3 n (by omega)) 10 1 n (by omega) (by omega) (by omega) (h4 n (by omega))
 cases hb:(qA6 (BR (wd (tb r)))).2.2.2.2 with
 |true=>
  rw [if_pos rfl]
  exact qA (h1 n (by omega)) (qD hb (qA (h2 n (by omega)) rfl))
 |false=>
  rw [if_neg (by simp)]
  refine qA (h1 n (by omega)) (qO hb (qA lp ?_))
  cases qGi (wd (tb r)) 1 10<;>rfl
theorem qU1 (f:Nat) (deep:Int) (r:List UInt8) (p2:PS) (hr:r.length≤1000) (hp:p2.2.2.length≤60) (hc:∀op,qGi (wd (tb r)) 1 10=some op→Ev (qCW · op deep (BR p2.1) p2.2.2.length p2.2.1 (p2.2.2.map qa)) (qHW (pP f (.call op deep) p2))):
  ∃n0,∀n,n0≤n→(qVn (qR n) n deep (BR (wd (tb r))) (qF3 p2)).run=some (qHW (qU0 f deep (wd (tb r)) p2)):=by
 obtain ⟨n1,h1⟩:=qWL r hr
 obtain ⟨n2,h2⟩:=qK2 ((qh (BR (wd (tb r)))).1,(qh (BR (wd (tb r)))).2.1,(qh (BR (wd (tb r)))).2.2.1) p2 hp
 obtain ⟨n3,h3⟩:=qUd f deep r p2 hr hp hc
 refine ⟨n1+n2+n3,fun n hn=>?_⟩
 have h2:=h2 n (by omega)
 have h3:=h3 n (by omega)
 unfold qU0
 refine qA (h1 n (by omega)) ?_
 by_cases ho:(qh (BR (wd (tb r)))).2.2.2=true
 ·refine qD ho ?_
  by_cases k1:(qh (BR (wd (tb r)))).1=1
  ·rw [if_pos ⟨ho,.inl k1⟩]
   exact qD (by rw [k1];rfl) (qA h2 rfl)
  ·refine qO (beq_eq_false_iff_ne.2 k1) ?_
   by_cases k3:(qh (BR (wd (tb r)))).1=3
   ·rw [if_pos ⟨ho,.inr k3⟩]
    exact qD (by rw [k3];rfl) (qA h2 rfl)
   ·rw [if_neg (fun h=>h.2.elim k1 k3)]
    exact qO (beq_eq_false_iff_ne.2 k3) h3
 ·rw [if_neg (fun h=>ho h.1)]
  exact qO (by rw [Bool.eq_false_iff];exact ho) h3
theorem qWN (w:List UInt8) (p:PS):qX w (tb p.1,p.2)=qX w p:=by unfold qX;simp only [qCe]
theorem qLD {c:UInt8} {r:List UInt8} (h:r.head?=some c):∃t,r=c::t:=by
 cases r with
 |nil=>cases h
 |cons d t=>simp at h;subst h;exact ⟨t,rfl⟩
theorem qFb:∀(f:Nat) (j:PJ) (p:PS),Ad f j p→Jd j→Gd p→Kj j p→Wk j p (pP f j p)
 |0,j,p,ha,_,_,_=>by cases j<;>simp [Ad] at ha
 |f+1,.bin least deep,p,ha,hj,hg,_=>by
  replace ha:20*(tb p.1).length+6≤f+1:=ha
  obtain ⟨n1,h1⟩:=qFb f (.un deep) p (by show 20*_+4≤f;omega) hj hg trivial
  have hl:=qDr f (.un deep) p
  obtain ⟨n2,h2⟩:=qFb f (.loop least deep (pP f (.un deep) p).1) (pP f (.un deep) p).2 (by show 20*_+5≤f;omega) hj (qFN f (.un deep) p hg trivial).1 trivial
  refine ⟨n1+n2+1,fun n hn=>?_⟩
  obtain ⟨k,rfl,hm⟩:=up1 hn
  exact qA (h1 k (by omega)) (qA (h2 k (by omega) k (by omega)) rfl)
 |f+1,.loop least deep a,(r,b,l),ha,hj,hg,_=>by
  replace ha:20*(tb r).length+5≤f+1:=ha
  have hn60:l.length≤60:=hg.n
  have hr1:r.length≤1000:=hg.r
  have ht:=qAD r
  unfold pP
  cases b with
  |true=>
   rw [if_pos rfl]
   refine ⟨1,fun n hn M hM=>?_⟩
   obtain ⟨M,rfl,hM⟩:=up1 hM
   exact qP (qO rfl rfl)
  |false=>
   rw [if_neg (by simp)]
   simp only
   obtain ⟨n1,h1⟩:=qVb least deep a r l.length false (l.map qa)
   by_cases h0:qAy (tb r)=0
   ·rw [if_pos (.inl h0)]
    refine ⟨n1+1,fun n hn M hM=>?_⟩
    obtain ⟨M,rfl,hM⟩:=up1 hM
    exact qP (qD rfl (qA (h1 n (by omega) n (by omega)) (qD (by simp only;rw [h0];rfl) rfl)))
   ·obtain ⟨o1,o2,o3,o4⟩:=qWM h0
    obtain ⟨n2,h2⟩:=qLy (qAy (tb r)) ⟨o1,o2⟩
    by_cases hl:lvl (qAy (tb r))<least
    ·rw [if_pos (.inr hl)]
     refine ⟨n1+n2+1,fun n hn M hM=>?_⟩
     obtain ⟨M,rfl,hM⟩:=up1 hM
     exact qP (qD rfl (qA (h1 n (by omega) n (by omega)) (qO (beq_eq_false_iff_ne.2 h0) (qA (h2 n (by omega)) (qD (decide_eq_true hl) rfl)))))
    ·rw [if_neg (fun h=>h.elim h0 hl)]
     have lv:=qTq (op:=qAy (tb r))
     have hlt:=qSr o4 (qUH (tb r))
     have hp1:Gd ((tb r).drop (sgn (tb r)).length,false,l):=⟨by simp;omega,hn60,hg.s⟩
     obtain ⟨n3,h3⟩:=qHP (qAy (tb r)) ⟨o1,o2⟩
     obtain ⟨n4,h4⟩:=qSA (qAT (qAy (tb r))).toList (tb r) l.length false (l.map qa)
     obtain ⟨n5,h5⟩:=qFb f (.bin (lvl (qAy (tb r))+1) deep) ((tb r).drop (sgn (tb r)).length,false,l) (by show 20*_+6≤f;simp only;omega) hj hp1 trivial
     have g5:=qFN f (.bin (lvl (qAy (tb r))+1) deep) ((tb r).drop (sgn (tb r)).length,false,l) hp1 trivial
     have l5:=qDr f (.bin (lvl (qAy (tb r))+1) deep) ((tb r).drop (sgn (tb r)).length,false,l)
     simp only at l5
     generalize pP f (.bin (lvl (qAy (tb r))+1) deep) ((tb r).drop (sgn (tb r)).length,false,l)=q at h5 g5 l5⊢
     obtain ⟨n6,h6⟩:=qOl (ndK 5 (qAy (tb r)) [a,q.1]) q.2 g5.1.n
     have g6:=qHR (x:=ndK 5 (qAy (tb r)) [a,q.1]) g5.1 ⟨by simp [kd,ndK],by simp [ndK,em];decide⟩
     have e6:=qA5 (ndK 5 (qAy (tb r)) [a,q.1]) q.2
     generalize qDU (ndK 5 (qAy (tb r)) [a,q.1]) q.2=c at h6 g6 e6⊢
     obtain ⟨n7,h7⟩:=qFb f (.loop least deep c.1) c.2 (by show 20*(tb c.2.1).length+5≤f;rw [e6];omega) hj g6 trivial
     refine ⟨n1+n2+n3+n4+n5+n6+n7+1,fun n hn M hM=>?_⟩
     obtain ⟨M,rfl,hM⟩:=up1 hM
     have w1:IntKind.i64.wrap (lvl (qAy (tb r))+1)=lvl (qAy (tb r))+1:=qT (by omega)
     have h3:=h3 n (by omega)
     have h4:=h4 n (by omega)
     have h5:=h5 n (by omega)
     rw [qJx,qCe,←o3,if_pos rfl] at h4
     rw [←w1] at h5
     rw [qU (v':=(least,deep,c.1,qF3 c.2)) (by
      exact qD rfl (qA (h1 n (by omega) n (by omega)) (qO (beq_eq_false_iff_ne.2 h0) (qA (h2 n (by omega)) (qO (decide_eq_false hl) (qA h3 (qA h4 (qA (h2 n (by omega)) (qA h5 (qD rfl (qA (h6 n (by omega)) rfl)))))))))))]
     exact h7 n (by omega) M (by omega)
 |f+1,.un deep,p,ha,hj,hg,_=>by
  replace ha:20*(tb p.1).length+4≤f+1:=ha
  replace hj:0≤deep∧deep≤401:=hj
  unfold pP
  by_cases hd:deep>400
  ·rw [if_pos (.inl hd)]
   refine ⟨1,fun n hn=>?_⟩
   obtain ⟨k,rfl,hm⟩:=up1 hn
   exact qD (decide_eq_true hd) (qD rfl rfl)
  ·cases hb:p.2.1 with
   |true=>
    rw [if_pos (.inr rfl)]
    refine ⟨1,fun n hn=>?_⟩
    obtain ⟨k,rfl,hm⟩:=up1 hn
    refine qO (decide_eq_false hd) (qD hb ?_)
    rw [qC,hb];rfl
   |false=>
    rw [if_neg (fun h=>h.elim hd (by simp))]
    obtain ⟨n1,h1⟩:=qGj [45] p
    have t1:=qD4 [45] p
    cases hc:(qX [45] p).1 with
    |true=>
     rw [if_pos rfl]
     simp only
     have t2:=qDq (by simp) hc
     have t3:=qAD (qX [45] p).2.1
     obtain ⟨n2,h2⟩:=qFb f (.un (deep+1)) (qX [45] p).2 (by show 20*_+4≤f;omega) (by show 0≤deep+1∧deep+1≤401;omega) (qCu hg) trivial
     have g2:=qFN f (.un (deep+1)) (qX [45] p).2 (qCu hg) trivial
     generalize pP f (.un (deep+1)) (qX [45] p).2=q at h2 g2⊢
     obtain ⟨n3,h3⟩:=qOl (ndK 4 0 [q.1]) q.2 g2.1.n
     refine ⟨n1+n2+n3+1,fun n hn=>?_⟩
     obtain ⟨k,rfl,hm⟩:=up1 hn
     have w1:IntKind.i64.wrap (deep+1)=deep+1:=qT (by omega)
     have h2:=h2 k (by omega)
     rw [←w1] at h2
     exact qO (decide_eq_false hd) (qO hb (qA (h1 k (by omega)) (qD hc (qA h2 (qD rfl (qA (h3 k (by omega)) rfl))))))
    |false=>
     rw [if_neg (by simp)]
     have e:(qX [45] p).2.2=p.2:=by unfold qX;split<;>rfl
     obtain ⟨n2,h2⟩:=qFb f (.at deep) (qX [45] p).2 ⟨by omega,by rw [e];exact hb⟩ (by show 0≤deep∧deep≤400;omega) (qCu hg) trivial
     refine ⟨n1+n2+1,fun n hn=>?_⟩
     obtain ⟨k,rfl,hm⟩:=up1 hn
     exact qO (decide_eq_false hd) (qO hb (qA (h1 k (by omega)) (qO hc (qA (h2 k (by omega)) rfl))))
 |f+1,.at deep,(r0,b,l),ha,hj,hg,_=>by
  obtain ⟨ha,hb⟩:=ha
  replace ha:20*(tb r0).length+3≤f+1:=ha
  replace hb:b=false:=hb
  subst hb
  replace hj:0≤deep∧deep≤400:=hj
  have hn60:l.length≤60:=hg.n
  have hr1:r0.length≤1000:=hg.r
  have ht:=qAD r0
  have ett:=qCe r0
  have eit:=qWN [40] (r0,false,l)
  obtain ⟨n1,h1⟩:=qHu r0 l.length false (l.map qa)
  have wdec:∀op,qGi (wd (tb r0)) 1 10=some op→(wr (tb r0)).length<(tb r0).length:=fun op h=>by
   have e:=congrArg List.length (wdr (tb r0))
   simp only [List.length_append] at e
   have:wd (tb r0)≠ []:=fun e=>by
    rw [e,show qGi [] 1 10=none by decide+kernel] at h
    cases h
   have:=List.length_pos_iff.2 this
   omega
  unfold pP
  simp only at eit⊢
  rw [←eit]
  generalize tb r0=r at*
  have hw:=qHQ r
  have wordEv:∃n0,∀n,n0≤n→(qVn (qR n) n deep (BR (wd r)) (qF3 (wr r,false,l))).run=some (qHW (qU0 f deep (wd r) (wr r,false,l))):=by
   have:=qU1 f deep r (wr r,false,l) (by omega) hn60 (by
    rw [ett]
    intro op h
    exact qFb f (.call op deep) (wr r,false,l) (by have:=wdec op h;have:=qAD (wr r);show 20*(tb (wr r)).length+9≤f;omega) hj ⟨by simp only;omega,hn60,hg.s⟩ trivial)
   rwa [ett] at this
  obtain ⟨n9,h9⟩:=wordEv
  obtain ⟨n8,h8⟩:=qSp (r,false,l) (by simp only;omega)
  simp only [ett] at h8
  by_cases hq:r.head?=some 34
  ·rw [if_pos hq]
   obtain ⟨t,rfl⟩:=qLD hq
   simp only [List.length_cons] at ht
   obtain ⟨n2,h2⟩:=qUc t false l (by omega) hn60
   refine ⟨n1+n2+3,fun n hn=>?_⟩
   obtain ⟨k,rfl,hm⟩:=up3 hn
   refine qA (h1 (k+2) (by omega)) (qA (qBi k (34::t) [34]) (qD rfl (qA (h2 (k+2) (by omega)) ?_)))
   rw [qC]
   simp only [List.tail_cons]
   all_goals (cases qCJ [] t<;>rfl)
  ·rw [if_neg hq]
   have p34:List.isPrefixOf [34] r=false:=by rw [Bool.eq_false_iff];exact fun e=>hq ((qFJ 34 r).1 e)
   by_cases hh:r.head?=some 35
   ·have p35:List.isPrefixOf [35] r=true:=(qFJ 35 r).2 hh
    simp only [if_pos hh]
    obtain ⟨n2,h2⟩:=qVx deep r false l hn60
    cases he:qJw r 1 5 with
    |some e=>
     simp only
     refine ⟨n1+n2+3,fun n hn=>?_⟩
     obtain ⟨k,rfl,hm⟩:=up3 hn
     have h2:=h2 (k+2) (by omega) (k+2) (by omega)
     rw [he] at h2
     exact qA (h1 (k+2) (by omega)) (qA (qBi k r [34]) (qO p34 (qA (qBi k r [35]) (qD p35 (qA h2 rfl)))))
    |none=>
     simp only
     rw [if_neg (fun h=>h.1 hh)]
     refine ⟨n1+n2+n8+n9+3,fun n hn=>?_⟩
     obtain ⟨k,rfl,hm⟩:=up3 hn
     have h2:=h2 (k+2) (by omega) (k+2) (by omega)
     rw [he] at h2
     exact qA (h1 (k+2) (by omega)) (qA (qBi k r [34]) (qO p34 (qA (qBi k r [35]) (qD p35 (qA h2 (qA (h8 (k+2) (by omega)) (h9 (k+2) (by omega))))))))
   ·have p35:List.isPrefixOf [35] r=false:=by rw [Bool.eq_false_iff];exact fun e=>hh ((qFJ 35 r).1 e)
    simp only [if_neg hh]
    obtain ⟨n2,h2⟩:=qGj [40] (r,false,l)
    cases hc:(qX [40] (r,false,l)).1 with
    |true=>
     rw [if_pos ⟨hh,rfl⟩]
     have t2:=qDq (by simp) hc
     have t3:=qAD (qX [40] (r,false,l)).2.1
     simp only [ett] at t2
     have g1:Gd (r,false,l):=⟨by simp only;omega,hn60,hg.s⟩
     obtain ⟨n3,h3⟩:=qFb f (.bin 1 (deep+1)) (qX [40] (r,false,l)).2 (by show 20*_+6≤f;omega) (by show 0≤deep+1∧deep+1≤401;omega) (qCu g1) trivial
     generalize pP f (.bin 1 (deep+1)) (qX [40] (r,false,l)).2=q at h3⊢
     obtain ⟨n4,h4⟩:=qGj [41] q.2
     refine ⟨n1+n2+n3+n4+3,fun n hn=>?_⟩
     obtain ⟨k,rfl,hm⟩:=up3 hn
     have w1:IntKind.i64.wrap (deep+1)=deep+1:=qT (by omega)
     have h3:=h3 (k+2) (by omega)
     rw [←w1] at h3
     cases hbb:q.2.2.1 with
     |true=>
      refine qA (h1 (k+2) (by omega)) (qA (qBi k r [34]) (qO p34 (qA (qBi k r [35]) (qO p35 (qA (h2 (k+2) (by omega)) (qD hc (qA h3 (qD hbb ?_))))))))
      rw [qC]
      unfold qCY
      rw [if_pos hbb]
      simp only [qHW,hbb]
     |false=>
      refine qA (h1 (k+2) (by omega)) (qA (qBi k r [34]) (qO p34 (qA (qBi k r [35]) (qO p35 (qA (h2 (k+2) (by omega)) (qD hc (qA h3 (qO hbb (qA (h4 (k+2) (by omega)) ?_)))))))))
      rw [qC]
      exact congrArg (fun x=>some (q.1,x)) (qNc [41] hbb)
    |false=>
     rw [if_neg (fun h=>by simp at h)]
     have e:(qX [40] (r,false,l)).2=(r,false,l):=by
      unfold qX at hc⊢
      split at hc
      ·cases hc
      ·rename_i hne
       rw [if_neg hne];simp only [ett]
     rw [hc,e] at h2
     refine ⟨n1+n2+n8+n9+3,fun n hn=>?_⟩
     obtain ⟨k,rfl,hm⟩:=up3 hn
     exact qA (h1 (k+2) (by omega)) (qA (qBi k r [34]) (qO p34 (qA (qBi k r [35]) (qO p35 (qA (h2 (k+2) (by omega)) (qO rfl (qA (h8 (k+2) (by omega)) (h9 (k+2) (by omega)))))))))
 |f+1,.call op deep,p,ha,hj,hg,_=>by
  replace ha:20*(tb p.1).length+9≤f+1:=ha
  unfold pP
  have gm:=qLC (w:= [40]) hg
  have rm:=qK9 [40] p
  obtain ⟨ks,p',e1,e2,e3,n2,h2⟩:=qFb f (.args op deep []) (qCY [40] p) (by show 20*_+8≤f;omega) hj gm.1 (by have:=gm.1.r;show 0+_≤_;omega)
  obtain ⟨n1,h1⟩:=qGj [40] p
  obtain ⟨n3,h3⟩:=qOl (ndK 6 op ks) p' e2.n
  rw [e1]
  refine ⟨n1+n2+n3+1,fun n hn=>?_⟩
  obtain ⟨k,rfl,hm⟩:=up1 hn
  have h2:=h2 k (by omega) k (by omega)
  by_cases hb:p.2.1=true
  ·have em:qF3 (qCY [40] p)=(BR p.1,p.2.2.length,true,p.2.2.map qa):=by
    unfold qCY;rw [if_pos hb];simp only [qF3,hb]
   rw [em] at h2
   exact qD hb (qA h2 (qD (decide_eq_true (by simp)) (qA (h3 k (by omega)) rfl)))
  ·have hb:p.2.1=false:=by rw [Bool.eq_false_iff];exact hb
   have em:=qNc [40] hb
   rw [←em] at h2
   exact qO hb (qA (h1 k (by omega)) (qA h2 (qD (decide_eq_true (by simp)) (qA (h3 k (by omega)) rfl))))
 |f+1,.args op deep kids,p,ha,hj,hg,hk=>by
  replace ha:20*(tb p.1).length+8≤f+1:=ha
  replace hk:kids.length+p.1.length≤1500:=hk
  replace hj:0≤deep∧deep≤400:=hj
  unfold pP
  cases hb:p.2.1 with
  |true=>
   rw [if_pos rfl]
   refine ⟨kids,p,rfl,hg,by omega,1,fun n hn M hM=>?_⟩
   obtain ⟨M,rfl,hM⟩:=up1 hM
   exact qP (qO (by show (!p.2.1)=false;rw [hb];rfl) rfl)
  |false=>
   rw [if_neg (by simp)]
   simp only
   obtain ⟨x,hx,n1,h1⟩:=qVc p hg.r
   have ga:=qUK hg
   have ra:=qIt p
   have tl0:=qAD p.1
   have nb:∀k:Nat,(!(qF3 p).2.2.1)=true:=fun _=>by show (!p.2.1)=true;rw [hb];rfl
   cases hi:(qBK p).1 with
   |some y=>
    have hxy:=hx y hi
    subst hxy
    obtain ⟨n3,h3⟩:=qOl x (qBK p).2 ga.1.n
    have eo:qEk (qBK p) (fun p=>pP f (.bin 1 (deep+1)) p)=qDU x (qBK p).2:=by unfold qEk;rw [hi]
    rw [eo]
    have gq:Gd (qDU x (qBK p).2).2∧(qDU x (qBK p).2).2.1.length≤p.1.length∧(tb (qDU x (qBK p).2).2.1).length≤(tb p.1).length:=⟨qHR ga.1 (ga.2.2 x hi),by rw [qA5];exact ga.2.1,by rw [qA5];exact ra⟩
    have n2:=0
    generalize qDU x (qBK p).2=Q at h3 gq⊢
    obtain ⟨n4,h4⟩:=qGj [44] Q.2
    cases hc:(qX [44] Q.2).1 with
    |true=>
     obtain ⟨ks,p',e1,e2,e3,n6,h6⟩:=qFb f (.args op deep (kids++ [Q.1])) (qX [44] Q.2).2 (by have:=qDq (by simp) hc;show 20*(tb (qX [44] Q.2).2.1).length+8≤f;have:=qAD (qX [44] Q.2).2.1;omega) ⟨hj.1,hj.2⟩ (qCu gq.1) (by have:=qDq (by simp) hc;have:=qAD Q.2.1;show (kids++ [Q.1]).length+_≤_;simp;omega)
     refine ⟨ks,p',by rw [if_pos rfl];exact e1,e2,e3,n1+n2+n3+n4+n6+1,fun k hn M hM=>?_⟩
     obtain ⟨M,rfl,hM⟩:=up1 hM
     rw [qU (v':=(op,deep,(kids++ [Q.1]).length,(kids++ [Q.1]).map qAC,qF3 (qX [44] Q.2).2)) (by
      have h1:=h1 k (by omega)
      rw [hi] at h1
      refine qD (nb 0) (qA h1 (qD rfl (qA (h3 k (by omega)) (qD rfl (qD (decide_eq_true ⟨by simp,by decide,by decide,by simp;omega,rfl⟩) (qA (h4 k (by omega)) ?_))))))
      refine qO (by simp only;rw [hc];rfl) ?_
      rw [qC]
      simp only [List.length_append,List.map_append]
      rfl)]
     exact h6 k (by omega) M (by omega)
    |false=>
     obtain ⟨n5,h5⟩:=qGj [41] (qX [44] Q.2).2
     refine ⟨kids++ [Q.1],qCY [41] (qX [44] Q.2).2,by rw [if_neg (by simp)],(qLC (qCu gq.1)).1,by simp;omega,n1+n2+n3+n4+n5+1,fun k hn M hM=>?_⟩
     obtain ⟨M,rfl,hM⟩:=up1 hM
     cases hbb:(qX [44] Q.2).2.2.1 with
     |true=>
      rw [qP (r:=(op,(kids++ [Q.1]).length,(kids++ [Q.1]).map qAC,qF3 (qCY [41] (qX [44] Q.2).2))) (by
       have h1:=h1 k (by omega)
       rw [hi] at h1
       refine qD (nb 0) (qA h1 (qD rfl (qA (h3 k (by omega)) (qD rfl (qD (decide_eq_true ⟨by simp,by decide,by decide,by simp;omega,rfl⟩) (qA (h4 k (by omega)) ?_))))))
       refine qD (by simp only;rw [hc];rfl) (qD hbb ?_)
       rw [qC]
       unfold qCY
       rw [if_pos hbb]
       simp only [List.length_append,List.map_append,qF3,hbb]
       rfl)]
     |false=>
      rw [qP (r:=(op,(kids++ [Q.1]).length,(kids++ [Q.1]).map qAC,qF3 (qCY [41] (qX [44] Q.2).2))) (by
       have h1:=h1 k (by omega)
       rw [hi] at h1
       refine qD (nb 0) (qA h1 (qD rfl (qA (h3 k (by omega)) (qD rfl (qD (decide_eq_true ⟨by simp,by decide,by decide,by simp;omega,rfl⟩) (qA (h4 k (by omega)) ?_))))))
       refine qD (by simp only;rw [hc];rfl) (qO hbb (qA (h5 k (by omega)) ?_))
       rw [qC]
       simp only [List.length_append,List.map_append]
       exact congrArg (fun x=>some (Sum.inr (op,kids.length+1,kids.map qAC++ [[PV.i IntKind.i64 Q.1]],x))) (qNc [41] hbb))]
   |none=>
    have eo:qEk (qBK p) (fun p=>pP f (.bin 1 (deep+1)) p)=pP f (.bin 1 (deep+1)) (qBK p).2:=by unfold qEk;rw [hi]
    rw [eo]
    obtain ⟨n3,h3⟩:=qFb f (.bin 1 (deep+1)) (qBK p).2 (by show 20*_+6≤f;omega) (by show 0≤deep+1∧deep+1≤401;omega) ga.1 trivial
    have g3:=qFN f (.bin 1 (deep+1)) (qBK p).2 ga.1 trivial
    have l3:=qDr f (.bin 1 (deep+1)) (qBK p).2
    have w1:IntKind.i64.wrap (deep+1)=deep+1:=qT (by omega)
    have gq:Gd (pP f (.bin 1 (deep+1)) (qBK p).2).2∧(pP f (.bin 1 (deep+1)) (qBK p).2).2.1.length≤p.1.length∧(tb (pP f (.bin 1 (deep+1)) (qBK p).2).2.1).length≤(tb p.1).length:=⟨g3.1,Nat.le_trans g3.2 ga.2.1,Nat.le_trans l3 ra⟩
    rw [←w1] at h3
    have n2:=0
    rw [w1] at h3
    generalize pP f (.bin 1 (deep+1)) (qBK p).2=Q at h3 gq⊢
    obtain ⟨n4,h4⟩:=qGj [44] Q.2
    cases hc:(qX [44] Q.2).1 with
    |true=>
     obtain ⟨ks,p',e1,e2,e3,n6,h6⟩:=qFb f (.args op deep (kids++ [Q.1])) (qX [44] Q.2).2 (by have:=qDq (by simp) hc;show 20*(tb (qX [44] Q.2).2.1).length+8≤f;have:=qAD (qX [44] Q.2).2.1;omega) ⟨hj.1,hj.2⟩ (qCu gq.1) (by have:=qDq (by simp) hc;have:=qAD Q.2.1;show (kids++ [Q.1]).length+_≤_;simp;omega)
     refine ⟨ks,p',by rw [if_pos rfl];exact e1,e2,e3,n1+n2+n3+n4+n6+1,fun k hn M hM=>?_⟩
     obtain ⟨M,rfl,hM⟩:=up1 hM
     rw [qU (v':=(op,deep,(kids++ [Q.1]).length,(kids++ [Q.1]).map qAC,qF3 (qX [44] Q.2).2)) (by
      have h1:=h1 k (by omega)
      rw [hi] at h1
      have h3:=h3 k (by omega)
      rw [←w1] at h3
      refine qD (nb 0) (qA h1 (qO rfl (qA h3 (qD rfl (qD (decide_eq_true ⟨by simp,by decide,by decide,by simp;omega,rfl⟩) (qA (h4 k (by omega)) ?_))))))
      refine qO (by simp only;rw [hc];rfl) ?_
      rw [qC]
      simp only [List.length_append,List.map_append]
      rfl)]
     exact h6 k (by omega) M (by omega)
    |false=>
     obtain ⟨n5,h5⟩:=qGj [41] (qX [44] Q.2).2
     refine ⟨kids++ [Q.1],qCY [41] (qX [44] Q.2).2,by rw [if_neg (by simp)],(qLC (qCu gq.1)).1,by simp;omega,n1+n2+n3+n4+n5+1,fun k hn M hM=>?_⟩
     obtain ⟨M,rfl,hM⟩:=up1 hM
     cases hbb:(qX [44] Q.2).2.2.1 with
     |true=>
      rw [qP (r:=(op,(kids++ [Q.1]).length,(kids++ [Q.1]).map qAC,qF3 (qCY [41] (qX [44] Q.2).2))) (by
       have h1:=h1 k (by omega)
       rw [hi] at h1
       have h3:=h3 k (by omega)
       rw [←w1] at h3
       refine qD (nb 0) (qA h1 (qO rfl (qA h3 (qD rfl (qD (decide_eq_true ⟨by simp,by decide,by decide,by simp;omega,rfl⟩) (qA (h4 k (by omega)) ?_))))))
       refine qD (by simp only;rw [hc];rfl) (qD hbb ?_)
       rw [qC]
       unfold qCY
       rw [if_pos hbb]
       simp only [List.length_append,List.map_append,qF3,hbb]
       rfl)]
     |false=>
      rw [qP (r:=(op,(kids++ [Q.1]).length,(kids++ [Q.1]).map qAC,qF3 (qCY [41] (qX [44] Q.2).2))) (by
       have h1:=h1 k (by omega)
       rw [hi] at h1
       have h3:=h3 k (by omega)
       rw [←w1] at h3
       refine qD (nb 0) (qA h1 (qO rfl (qA h3 (qD rfl (qD (decide_eq_true ⟨by simp,by decide,by decide,by simp;omega,rfl⟩) (qA (h4 k (by omega)) ?_))))))
       refine qD (by simp only;rw [hc];rfl) (qO hbb (qA (h5 k (by omega)) ?_))
       rw [qC]
       simp only [List.length_append,List.map_append]
       exact congrArg (fun x=>some (Sum.inr (op,kids.length+1,kids.map qAC++ [[PV.i IntKind.i64 Q.1]],x))) (qNc [41] hbb))]
def pos (s r:List UInt8):Int:=((s.length-r.length:Nat):Int)
def qC2 (s:List UInt8) (q:PS):ByteArray×Int×Bool×Nat×List (List PV):=(BR s,pos s q.1,q.2.1,q.2.2.length,q.2.2.map qa)
def qCf (s:List UInt8) (r:Int×PS):Int×ByteArray×Int×Bool×Nat×List (List PV):=(r.1,qC2 s r.2)
theorem qTV {s r:List UInt8} (h:r<:+s):s.drop (s.length-r.length)=r:=by
 obtain ⟨t,rfl⟩:=h
 simp
theorem qUL (s r:List UInt8):(pos s r).toNat=s.length-r.length:=by unfold pos;simp
theorem qL0 (s r:List UInt8):0≤pos s r:=by unfold pos;omega
theorem qDQ {s r:List UInt8} (h:r<:+s):r.length≤s.length:=h.length_le
theorem qLE {s r t:List UInt8} {k:Nat} (h:r<:+s) (e:t=r.drop k) (hk:k≤r.length):pos s r+(k:Int)=pos s t:=by
 subst e
 have:=qDQ h
 unfold pos
 simp only [List.length_drop]
 omega
theorem qNd {s r:List UInt8} (h:r<:+s):(BR s).toList[(pos s r).toNat]?=r.head?:=by
 rw [qAQ,qUL,←List.head?_drop,qTV h]
theorem qTu {s r:List UInt8} (h:r<:+s):tb r<:+s:=(List.dropWhile_suffix _).trans h
theorem qQt {s t:List UInt8} {c:UInt8} (h:(c::t)<:+s):t<:+s:=(List.suffix_cons c t).trans h
theorem qPt {s r:List UInt8} {k:Nat} (h:r<:+s):(BR s).extract (pos s r).toNat (pos s r+(k:Int)).toNat=BR (r.take k):=by
 rw [qGL,qUL,show (pos s r+(k:Int)).toNat=(s.length-r.length)+k by unfold pos;omega,←List.take_drop,qTV h]
theorem qA1 {b:Bool} (h:b=true):(!b)=false:=by rw [h];rfl
theorem qCv {b:Bool} (h:b=false):(!b)=true:=by rw [h];rfl
theorem qSC {s:List UInt8} (hs:s.length≤1000) (n:Nat) (b:Bool) (m:Nat) (rows:List (List PV)):∀(r:List UInt8) (M:Nat),r<:+s→r.length+1≤M→zD (qDe n) M (BR s,pos s r,b,m,rows)=some (BR s,pos s (tb r),b,m,rows)
 |r,0,_,h=>by omega
 | [],M+1,h,_=>by
  exact qP (qO (decide_eq_false (show ¬pos s []<((BR s).size:Int) by rw [qb];unfold pos;simp)) rfl)
 |c::t,M+1,h,hM=>by
  have hl:=qDQ h
  simp only [List.length_cons] at hl hM
  have g:=qNd h
  have p1:pos s (c::t)<((BR s).size:Int):=by rw [qb];unfold pos;simp only [List.length_cons];omega
  by_cases hc:c=32
  ·subst hc
   have w1:IntKind.i64.wrap (pos s (32::t)+1)=pos s t:=by
    have:=qLE (k:=1) h (t:=t) rfl (by simp)
    rw [qT (by unfold pos;omega)];exact this
   rw [qU (v':=(BR s,pos s t,b,m,rows)) (by
    refine qD (decide_eq_true p1) (qD (decide_eq_true (qL0 _ _)) (qA g (qD rfl ?_)))
    rw [qC,w1])]
   have e:tb (32::t)=tb t:=by simp [tb]
   rw [e]
   exact qSC hs n b m rows t M (qQt h) (by omega)
  ·have e:tb (c::t)=c::t:=by simp [tb,hc]
   rw [e]
   refine qP (qD (decide_eq_true p1) (qD (decide_eq_true (qL0 _ _)) (qA g (qO ?_ rfl))))
   rw [beq_eq_false_iff_ne]
   intro e
   exact hc (UInt8.toNat_inj.1 (show c.toNat=32 by omega))
theorem qSs {s:List UInt8} (hs:s.length≤1000) (q:PS) (h:q.1<:+s):Ev (qBo · (BR s) (pos s q.1) q.2.1 q.2.2.length (q.2.2.map qa)) (qC2 s (tb q.1,q.2)):=by
 have hl:=qDQ h
 refine ⟨q.1.length+2,fun n hn=>?_⟩
 obtain ⟨k,rfl,hm⟩:=up1 hn
 exact qA (qSC hs k q.2.1 q.2.2.length (q.2.2.map qa) q.1 k h (by omega)) rfl
theorem qHT {s:List UInt8} (hs:s.length≤1000) (w:List UInt8) (hw:w.length≤1000) (q:PS) (h:q.1<:+s):Ev (qAJ · (BR w) (BR s) (pos s q.1) q.2.1 q.2.2.length (q.2.2.map qa)) ((sIs w q).1,qC2 s (sIs w q).2):=by
 obtain ⟨n1,h1⟩:=qSs hs q h
 have ht:=qTu h
 have hl:=qDQ ht
 refine ⟨n1+1,fun n hn=>?_⟩
 obtain ⟨k,rfl,hm⟩:=up1 hn
 have w1:IntKind.i64.wrap (pos s (tb q.1)+((BR w).size:Int))=pos s (tb q.1)+(w.length:Int):=by rw [qb];exact qT (by unfold pos;omega)
 unfold sIs
 cases hb:q.2.1 with
 |true=>
  rw [if_pos rfl]
  have h1:=h1 k (by omega)
  rw [hb] at h1
  refine qA h1 (qD hb ?_)
  rw [qC]
 |false=>
  have h1:=h1 k (by omega)
  rw [hb] at h1
  rw [if_neg (by simp)]
  by_cases hf:pos s (tb q.1)+(w.length:Int)>(s.length:Int)
  ·have hn:¬w.isPrefixOf (tb q.1)=true:=by
    intro e
    have:=(List.isPrefixOf_iff_prefix.1 e).length_le
    unfold pos at hf
    omega
   rw [if_neg hn]
   refine qA h1 (qO hb (qD (decide_eq_true (show IntKind.i64.wrap (pos s (tb q.1)+((BR w).size:Int))>((BR s).size:Int) by rw [w1,qb];exact hf)) ?_))
   rw [qC]
  ·have hx:=qPt (k:=w.length) ht
   have hwl:w.length≤(tb q.1).length:=by unfold pos at hf;omega
   have cmp:((BR s).extract (pos s (tb q.1)).toNat (IntKind.i64.wrap (pos s (tb q.1)+((BR w).size:Int))).toNat).toList==(BR w).toList↔w.isPrefixOf (tb q.1)=true:=by
    rw [w1,hx,qAQ,qAQ,beq_iff_eq,List.isPrefixOf_iff_prefix,List.prefix_iff_eq_take]
    exact ⟨fun e=>e.symm,fun e=>e.symm⟩
   refine qA h1 (qO hb (qO (decide_eq_false (show ¬IntKind.i64.wrap (pos s (tb q.1)+((BR w).size:Int))>((BR s).size:Int) by rw [w1,qb];exact hf)) (qD (decide_eq_true (show 0≤pos s (tb q.1)∧pos s (tb q.1)≤IntKind.i64.wrap (pos s (tb q.1)+((BR w).size:Int))∧IntKind.i64.wrap (pos s (tb q.1)+((BR w).size:Int))≤((BR s).size:Int) by rw [w1,qb];exact ⟨qL0 _ _,by omega,by omega⟩)) ?_)))
   by_cases hp:w.isPrefixOf (tb q.1)=true
   ·rw [if_pos hp]
    refine qO (qA1 (cmp.2 hp)) ?_
    rw [qC]
    show some (true,BR s,IntKind.i64.wrap (pos s (tb q.1)+((BR w).size:Int)),q.2.1,q.2.2.length,q.2.2.map qa)=_
    rw [w1,qLE ht rfl hwl]
    rfl
   ·rw [if_neg hp]
    refine qD (qCv (by rw [Bool.eq_false_iff];exact fun e=>hp (cmp.1 e))) ?_
    rw [qC]
theorem qK4 {s:List UInt8} (x:Nd) (q:PS) (h:q.2.2.length≤5000) (hx:qRi x):Ev (qv · x.1 x.2.1 x.2.2.1 x.2.2.2.1 x.2.2.2.2.1 x.2.2.2.2.2.1 x.2.2.2.2.2.2.1 x.2.2.2.2.2.2.2.1 x.2.2.2.2.2.2.2.2.1 x.2.2.2.2.2.2.2.2.2.1 x.2.2.2.2.2.2.2.2.2.2.1 x.2.2.2.2.2.2.2.2.2.2.2.1 x.2.2.2.2.2.2.2.2.2.2.2.2.1 ((kd x).map qAC) (BR s) (pos s q.1) q.2.1 q.2.2.length (q.2.2.map qa)) (qCf s (qEJ x q)):=by
 obtain ⟨n1,h1⟩:=qIq x (by have:=hx.2;omega)
 refine ⟨n1+1,fun n hn=>?_⟩
 obtain ⟨k,rfl,hm⟩:=up1 hn
 have w2:IntKind.i64.wrap ((((q.2.2.length+1):Nat):Int)-1)=(q.2.2.length:Int):=by rw [qT (by omega)];omega
 refine qD rfl (qD (decide_eq_true ⟨by simp,by decide,by decide,by simp;omega,rfl⟩) ?_)
 unfold qEJ
 by_cases h6:60<q.2.2.length+1
 ·rw [if_pos (.inl h6)]
  refine qD (decide_eq_true (by omega)) ?_
  rw [qC,w2]
  simp only [qCf,qC2,List.map_append,List.length_append]
  rfl
 ·refine qO (decide_eq_false (by omega)) (qA (h1 k (by omega)) ?_)
  cases ho:qFM x with
  |true=>
   rw [if_neg (fun e=>e.elim h6 (by simp))]
   refine qO rfl ?_
   rw [qC,w2]
   simp only [qCf,qC2,List.map_append,List.length_append]
   rfl
  |false=>
   rw [if_pos (.inr rfl)]
   refine qD rfl ?_
   rw [qC,w2]
   simp only [qCf,qC2,List.map_append,List.length_append]
   rfl
theorem qOy {s:List UInt8} (hs:s.length≤1000) (n:Nat) (at0:Int) (b:Bool) (m:Nat) (rows:List (List PV)):∀(r:List UInt8) (M:Nat),r<:+s→r.length+1≤M→zD (qCD n) M (at0,BR s,pos s r,b,m,rows)=some (at0,BR s,pos s (wr r),b,m,rows)
 |r,0,_,h=>by omega
 | [],M+1,h,_=>by
  exact qP (qO (decide_eq_false (show ¬pos s []<((BR s).size:Int) by rw [qb];unfold pos;simp)) rfl)
 |c::t,M+1,h,hM=>by
  have hl:=qDQ h
  simp only [List.length_cons] at hl hM
  have g:=qNd h
  have p1:pos s (c::t)<((BR s).size:Int):=by rw [qb];unfold pos;simp only [List.length_cons];omega
  have p0:decide (0≤pos s (c::t))=true:=decide_eq_true (qL0 _ _)
  have w1:IntKind.i64.wrap (pos s (c::t)+1)=pos s t:=by
   have:=qLE (k:=1) h (t:=t) rfl (by simp)
   rw [qT (by unfold pos;omega)];exact this
  have yes:(wch c=true)→(qCD n (at0,BR s,pos s (c::t),b,m,rows)).run=some (.inl (at0,BR s,pos s t,b,m,rows)):=fun hc=>by
   have fin:some (Sum.inl (at0,BR s,IntKind.i64.wrap (pos s (c::t)+1),b,m,rows))=(some (Sum.inl (at0,BR s,pos s t,b,m,rows)):Option (_⊕(Int×ByteArray×Int×Bool×Nat×List (List PV)))):=by rw [w1]
   refine qD (decide_eq_true p1) (qD p0 (qA g ?_))
   by_cases a1:(c.toNat:Int)≥65
   ·refine qD (decide_eq_true a1) (qD p0 (qA g ?_))
    by_cases a2:(c.toNat:Int)≤90
    ·exact qD (decide_eq_true a2) fin
    ·refine qO (decide_eq_false a2) (qD p0 (qA g ?_))
     by_cases a3:(c.toNat:Int)≥48
     ·refine qD (decide_eq_true a3) (qD p0 (qA g ?_))
      by_cases a4:(c.toNat:Int)≤57
      ·exact qD (decide_eq_true a4) fin
      ·refine qO (decide_eq_false a4) (qD p0 (qA g ?_))
       have a5:c=36:=by
        unfold wch at hc
        simp only [Bool.or_eq_true,Bool.and_eq_true,decide_eq_true_eq,beq_iff_eq] at hc
        rcases hc with hc|hc|hc
        ·omega
        ·omega
        ·exact hc
       exact qD (by rw [a5];rfl) fin
     ·omega
   ·refine qO (decide_eq_false a1) (qD p0 (qA g ?_))
    by_cases a3:(c.toNat:Int)≥48
    ·refine qD (decide_eq_true a3) (qD p0 (qA g ?_))
     by_cases a4:(c.toNat:Int)≤57
     ·exact qD (decide_eq_true a4) fin
     ·refine qO (decide_eq_false a4) (qD p0 (qA g ?_))
      have a5:c=36:=by
       unfold wch at hc
       simp only [Bool.or_eq_true,Bool.and_eq_true,decide_eq_true_eq,beq_iff_eq] at hc
       rcases hc with hc|hc|hc
       ·omega
       ·omega
       ·exact hc
      exact qD (by rw [a5];rfl) fin
    ·refine qO (decide_eq_false a3) (qD p0 (qA g ?_))
     have a5:c=36:=by
      unfold wch at hc
      simp only [Bool.or_eq_true,Bool.and_eq_true,decide_eq_true_eq,beq_iff_eq] at hc
      rcases hc with hc|hc|hc
      ·omega
      ·omega
      ·exact hc
     exact qD (by rw [a5];rfl) fin
  have no:(wch c=false)→(qCD n (at0,BR s,pos s (c::t),b,m,rows)).run=some (.inr (at0,BR s,pos s (c::t),b,m,rows)):=fun hc=>by
   have hc':¬((65≤c.toNat∧c.toNat≤90)∨(48≤c.toNat∧c.toNat≤57)∨c=36):=fun e=>by
    have:wch c=true:=by
     unfold wch
     simp only [Bool.or_eq_true,Bool.and_eq_true,decide_eq_true_eq,beq_iff_eq]
     exact e
    rw [hc] at this;cases this
   have a5:((c.toNat:Int)==36)=false:=by
    rw [beq_eq_false_iff_ne];intro e
    exact hc' (.inr (.inr (UInt8.toNat_inj.1 (show c.toNat=36 by omega))))
   refine qD (decide_eq_true p1) (qD p0 (qA g ?_))
   by_cases a1:(c.toNat:Int)≥65
   ·have a2:¬(c.toNat:Int)≤90:=fun e=>hc' (.inl ⟨by omega,by omega⟩)
    refine qD (decide_eq_true a1) (qD p0 (qA g (qO (decide_eq_false a2) ?_)))
    refine qD p0 (qA g (qD (decide_eq_true (show (c.toNat:Int)≥48 by omega)) ?_))
    exact qD p0 (qA g (qO (decide_eq_false (show ¬(c.toNat:Int)≤57 by omega)) (qD p0 (qA g (qO a5 rfl)))))
   ·refine qO (decide_eq_false a1) (qD p0 (qA g ?_))
    by_cases a3:(c.toNat:Int)≥48
    ·have a4:¬(c.toNat:Int)≤57:=fun e=>hc' (.inr (.inl ⟨by omega,by omega⟩))
     exact qD (decide_eq_true a3) (qD p0 (qA g (qO (decide_eq_false a4) (qD p0 (qA g (qO a5 rfl))))))
    ·exact qO (decide_eq_false a3) (qD p0 (qA g (qO a5 rfl)))
  cases hc:wch c with
  |true=>
   rw [qU (yes hc),show wr (c::t)=wr t by simp [wr,hc]]
   exact qOy hs n at0 b m rows t M (qQt h) (by omega)
  |false=>
   rw [qP (no hc),show wr (c::t)=c::t by simp [wr,hc]]
theorem qQu {s:List UInt8} (hs:s.length≤1000) (q:PS) (h:q.1<:+s):Ev (qC8 · (BR s) (pos s q.1) q.2.1 q.2.2.length (q.2.2.map qa)) (BR (wd q.1),qC2 s (wr q.1,q.2)):=by
 have hl:=qDQ h
 have hw:=qHQ q.1
 have hd:=congrArg List.length (wdr q.1)
 simp only [List.length_append] at hd
 refine ⟨q.1.length+2,fun n hn=>?_⟩
 obtain ⟨k,rfl,hm⟩:=up1 hn
 refine qA (qOy hs k (pos s q.1) q.2.1 q.2.2.length (q.2.2.map qa) q.1 k h (by omega)) (qD (decide_eq_true ⟨qL0 _ _,by unfold pos;simp only;omega,by rw [qb];unfold pos;simp only;omega⟩) ?_)
 rw [qC]
 have e:(pos s (wr q.1))=pos s q.1+((wd q.1).length:Int):=by unfold pos;omega
 have x:=qPt (k:=(wd q.1).length) h
 rw [←e] at x
 have t:q.1.take (wd q.1).length=wd q.1:=by
  have:=List.take_left (l₁:=wd q.1) (l₂:=wr q.1)
  rwa [wdr] at this
 rw [t] at x
 show some ((BR s).extract (pos s q.1).toNat (pos s (wr q.1)).toNat,_)=_
 rw [x]
 rfl
theorem qHv {s:List UInt8} (hs:s.length≤1000) {n:Nat} (b:Bool) (l:List Nd) (res:Int×PS):∀(k:Nat) (r acc:List UInt8) (M:Nat),r.length≤k→r<:+s→acc.length+r.length≤1001→r.length+1≤M→
  (∀w t,qCJ acc r=some (w,t)→qv n 1 0 2 0 (BR w) 0 0 false false 0 0 false false [] (BR s) (pos s t) b l.length (l.map qa)=some (qCf s res))→
  zD (qD6 n) M (BR acc,BR s,pos s r,b,l.length,l.map qa)=some (match qCJ acc r with
   |none=> .inr (BR s,pos s [],b,l.length,l.map qa)
   |some _=> .inl (qCf s res))
 |k,r,acc,0,_,_,_,h,_=>by omega
 |k,[],acc,M+1,_,h,_,_,_=>by
  exact qP (qO (decide_eq_false (show ¬pos s []<((BR s).size:Int) by rw [qb];unfold pos;simp)) rfl)
 |0,c::t,acc,M+1,hk,_,_,_,_=>by simp at hk
 |k+1,c::t,acc,M+1,hk,h,ha,hM,hr=>by
  have hl:=qDQ h
  simp only [List.length_cons] at hl hM hk ha
  have g:=qNd h
  have p1:pos s (c::t)<((BR s).size:Int):=by rw [qb];unfold pos;simp only [List.length_cons];omega
  have p0:decide (0≤pos s (c::t))=true:=decide_eq_true (qL0 _ _)
  have pa:=qLE (k:=1) h (t:=t) rfl (by simp)
  have w1:IntKind.i64.wrap (pos s (c::t)+1)=pos s t:=by rw [qT (by unfold pos;omega)];exact pa
  by_cases hc:c=34
  ·subst hc
   have ht:=qQt h
   by_cases hq:t.head?=some 34
   ·obtain ⟨u,rfl⟩:=qLD hq
    simp only [List.length_cons] at hl hM hk ha
    rw [qVt] at hr⊢
    have g2:=qNd ht
    have pb:=qLE (k:=1) ht (t:=u) rfl (by simp)
    have w2:IntKind.i64.wrap (pos s (34::u)+1)=pos s u:=by rw [qT (by unfold pos;omega)];exact pb
    rw [qU (v':=(BR (acc++ [34]),BR s,pos s u,b,l.length,l.map qa)) (by
     refine qD (decide_eq_true p1) (qD p0 (qA g (qO rfl (qO (decide_eq_false (show ¬IntKind.i64.wrap (pos s (34::34::u)+1)≥((BR s).size:Int) by rw [w1,qb];unfold pos;simp only [List.length_cons];omega)) (qD (decide_eq_true (show 0≤IntKind.i64.wrap (pos s (34::34::u)+1) by rw [w1];exact qL0 _ _)) (qA (x:=34) (by show (BR s).toList[(IntKind.i64.wrap (pos s (34::34::u)+1)).toNat]?=_;rw [w1];exact g2) (qO rfl (qD (decide_eq_true (show (BR acc).size+1≤9223372036854775807 by rw [qb];omega)) ?_))))))))
     rw [qC]
     show some (Sum.inl (BR acc++BR [34],BR s,IntKind.i64.wrap (IntKind.i64.wrap (pos s (34::34::u)+1)+1),b,l.length,l.map qa))=_
     rw [w1,w2,qOj])]
    exact qHv hs b l res k u _ M (by omega) (qQt ht) (by simp;omega) (by omega) hr
   ·rw [qVu acc t hq] at hr⊢
    have hr:=hr acc t rfl
    refine qP (qD (decide_eq_true p1) (qD p0 (qA g (qO rfl ?_))))
    cases t with
    |nil=>
     refine qD (decide_eq_true (show IntKind.i64.wrap (pos s [34]+1)≥((BR s).size:Int) by rw [w1,qb];unfold pos;simp)) ?_
     rw [←w1] at hr
     exact qA hr rfl
    |cons d u=>
     have g2:=qNd ht
     have hd:¬d=34:=fun e=>hq (by rw [e];rfl)
     refine qO (decide_eq_false (show ¬IntKind.i64.wrap (pos s (34::d::u)+1)≥((BR s).size:Int) by rw [w1,qb];unfold pos;simp only [List.length_cons] at hl⊢;omega)) (qD (decide_eq_true (show 0≤IntKind.i64.wrap (pos s (34::d::u)+1) by rw [w1];exact qL0 _ _)) (qA (x:=d) (by show (BR s).toList[(IntKind.i64.wrap (pos s (34::d::u)+1)).toNat]?=_;rw [w1];exact g2) (qD ?_ ?_)))
     ·rw [bne_iff_ne]
      intro e
      exact hd (UInt8.toNat_inj.1 (show d.toNat=34 by omega))
     ·rw [←w1] at hr
      exact qA hr rfl
  ·rw [qVv acc t hc] at hr⊢
   have hx:=qPt (k:=1) h
   rw [show ((1:Nat):Int)=1 from rfl] at hx pa
   have hx:(BR s).extract (pos s (c::t)).toNat (IntKind.i64.wrap (pos s (c::t)+1)).toNat=BR [c]:=by
    rw [w1,←pa];exact hx
   rw [qU (v':=(BR (acc++ [c]),BR s,pos s t,b,l.length,l.map qa)) (by
    refine qD (decide_eq_true p1) (qD p0 (qA g (qD ?_ (qD (decide_eq_true (show 0≤pos s (c::t)∧pos s (c::t)≤IntKind.i64.wrap (pos s (c::t)+1)∧IntKind.i64.wrap (pos s (c::t)+1)≤((BR s).size:Int) by rw [w1,qb];exact ⟨qL0 _ _,by unfold pos;simp only [List.length_cons];omega,by unfold pos;omega⟩)) (qD (decide_eq_true (show (BR acc).size+((BR s).extract (pos s (c::t)).toNat (IntKind.i64.wrap (pos s (c::t)+1)).toNat).size≤9223372036854775807 by rw [hx,qb,qb];simp;omega)) ?_)))))
    ·rw [bne_iff_ne]
     intro e
     exact hc (UInt8.toNat_inj.1 (show c.toNat=34 by omega))
    ·rw [qC]
     show some (Sum.inl (BR acc++(BR s).extract (pos s (c::t)).toNat (IntKind.i64.wrap (pos s (c::t)+1)).toNat,BR s,IntKind.i64.wrap (pos s (c::t)+1),b,l.length,l.map qa))=_
     rw [hx,qOj,w1])]
   exact qHv hs b l res k t _ M (by omega) (qQt h) (by simp;omega) (by omega) hr
theorem qU2 {s:List UInt8} (hs:s.length≤1000) (q:PS) (h:q.1<:+s) (hn:q.2.2.length≤5000):Ev (qFU · (BR s) (pos s q.1) q.2.1 q.2.2.length (q.2.2.map qa)) (qCf s (match qCJ [] q.1 with
  |none=>(0,[],true,q.2.2)
  |some (w,t)=>qEJ (nd1 (2,0,BR w)) (t,q.2))):=by
 have hl:=qDQ h
 cases hq:qCJ [] q.1 with
 |none=>
  refine ⟨q.1.length+2,fun n hn=>?_⟩
  obtain ⟨k,rfl,hm⟩:=up1 hn
  have lp:=qHv hs (n:=k) q.2.1 q.2.2 (0,q) q.1.length q.1 [] k (Nat.le_refl _) h (by simp;omega) (by omega) (fun w t e=>by rw [hq] at e;cases e)
  rw [hq] at lp
  exact qA lp rfl
 |some wt=>
  obtain ⟨w,t⟩:=wt
  have hw:=qHS _ _ _ (Nat.le_refl _) hq
  simp only [List.length_nil] at hw
  obtain ⟨n1,h1⟩:=qK4 (s:=s) (nd1 (2,0,BR w)) (t,q.2) hn ⟨by simp [kd,nd1],by simp only [nd1,qb];omega⟩
  refine ⟨n1+q.1.length+2,fun n hn=>?_⟩
  obtain ⟨k,rfl,hm⟩:=up1 hn
  have lp:=qHv hs (n:=k) q.2.1 q.2.2 (qEJ (nd1 (2,0,BR w)) (t,q.2)) q.1.length q.1 [] k (Nat.le_refl _) h (by simp;omega) (by omega) (fun w' t' e=>by rw [hq] at e;cases e;exact h1 k (by omega))
  rw [hq] at lp
  exact qA lp rfl
theorem qSt:∀o∈qCM,(qAT o).toList≠ []∧(qAT o).size≤2:=by decide+kernel
theorem qU3:∀o∈qCM,1≤o∧o≤11:=by decide
def opR:List (List PV):=qCM.map qAC
def rsL (level:Int) (r:List UInt8):List Int→List UInt8
 | []=>r
 |o::l=>if lvl o=level then rsL level (tb r) l else rsL level r l
theorem qOm {s:List UInt8} (hs:s.length≤1000) {n:Nat} (level:Int) (R:List UInt8) (hR:tb R=R) (m:Nat) (rows:List (List PV))
  (h1:∀o∈qCM,qCT n o=some (lvl o)) (h2:∀o∈qCM,qCw n o=some (qAT o)):
  ∀(k i:Nat) (r:List UInt8) (M:Nat),i+k=11→k+1≤M→tb r=R→
  (∀r',tb r'=R→(r'=r∨r'=R)→∀o∈qCM,qAJ n (qAT o) (BR s) (pos s r') false m rows=some (if (qAT o).toList.isPrefixOf R=true then (true,BR s,pos s (R.drop (qAT o).size),false,m,rows) else (false,BR s,pos s R,false,m,rows)))→
  zD (qEv n) M (level,11,(i:Int),opR,BR s,pos s r,false,m,rows)=some (if qD3 level R (qCM.drop i)=0 then .inr (BR s,pos s (rsL level r (qCM.drop i)),false,m,rows) else .inl (qD3 level R (qCM.drop i),BR s,pos s (R.drop (qAT (qD3 level R (qCM.drop i))).size),false,m,rows))
 |k,i,r,0,_,h,_,_=>by omega
 |0,i,r,M+1,hk,_,_,_=>by
  have hi:i=11:=by omega
  subst hi
  exact qP (qO rfl rfl)
 |k+1,i,r,M+1,hk,hM,hr,h3=>by
  have hi:i<qCM.length:=by simp [qCM];omega
  obtain ⟨o,ho⟩:∃o,qCM[i]?=some o:=⟨_,List.getElem?_eq_getElem hi⟩
  have hin:=List.mem_of_getElem? ho
  have hR2:opR[i]?=some [PV.i .i64 o]:=by simp [opR,List.getElem?_map,ho,qAC]
  have hc:zC .i64 [PV.i .i64 o] 0=some o:=rfl
  have hd:qCM.drop i=o::qCM.drop (i+1):=qDV ho
  have w5:IntKind.i64.wrap ((i:Int)+1)=((i+1:Nat):Int):=by rw [qT (by omega)];omega
  have g1:decide ((i:Int)<((11:Nat):Int))=true:=decide_eq_true (by omega)
  have g2:decide (11=opR.length∧0≤(i:Int)∧(i:Int)<((11:Nat):Int))=true:=decide_eq_true ⟨rfl,by omega,by omega⟩
  have h0:o≠0:=by have:=qU3 o hin;omega
  rw [hd]
  by_cases hl:lvl o=level
  ·have is:=h3 r hr (.inl rfl) o hin
   by_cases hp:(qAT o).toList.isPrefixOf R=true
   ·have e:qD3 level R (o::qCM.drop (i+1))=o:=by unfold qD3;rw [if_pos ⟨hl,hp⟩]
    rw [e,if_neg h0]
    rw [if_pos hp] at is
    exact qP (qD g1 (qD g2 (qA hR2 (qA hc (qA (h1 o hin) (qD (beq_iff_eq.2 hl) (qD g2 (qA hR2 (qA hc (qA (h2 o hin) (qA is (qD rfl (qD g2 (qA hR2 (qA hc rfl)))))))))))))))
   ·have e:qD3 level R (o::qCM.drop (i+1))=qD3 level R (qCM.drop (i+1)):=by
     conv=>lhs;unfold qD3
     rw [if_neg (fun h=>hp h.2)]
    have e2:rsL level r (o::qCM.drop (i+1))=rsL level R (qCM.drop (i+1)):=by
     conv=>lhs;unfold rsL
     rw [if_pos hl,hr]
    rw [e,e2]
    rw [if_neg hp] at is
    rw [qU (v':=(level,11,((i+1:Nat):Int),opR,BR s,pos s R,false,m,rows)) (by
     refine qD g1 (qD g2 (qA hR2 (qA hc (qA (h1 o hin) (qD (beq_iff_eq.2 hl) (qD g2 (qA hR2 (qA hc (qA (h2 o hin) (qA is (qO rfl ?_)))))))))))
     rw [qC,w5])]
    exact qOm hs level R hR m rows h1 h2 k (i+1) R M (by omega) (by omega) hR (fun r' a b=>h3 r' a (.inr (b.elim id id)))
  ·have e:qD3 level R (o::qCM.drop (i+1))=qD3 level R (qCM.drop (i+1)):=by
    conv=>lhs;unfold qD3
    rw [if_neg (fun h=>hl h.1)]
   have e2:rsL level r (o::qCM.drop (i+1))=rsL level r (qCM.drop (i+1)):=by
    conv=>lhs;unfold rsL
    rw [if_neg hl]
   rw [e,e2]
   rw [qU (v':=(level,11,((i+1:Nat):Int),opR,BR s,pos s r,false,m,rows)) (by
    refine qD g1 (qD g2 (qA hR2 (qA hc (qA (h1 o hin) (qO (beq_eq_false_iff_ne.2 hl) ?_)))))
    rw [qC,w5])]
   exact qOm hs level R hR m rows h1 h2 k (i+1) r M (by omega) (by omega) hr h3
theorem qV1 {level:Int} (h:1≤level∧level≤4) (r:List UInt8):rsL level r qCM=tb r:=by
 have c:level=1∨level=2∨level=3∨level=4:=by omega
 rcases c with rfl|rfl|rfl|rfl<;>simp [rsL,qCM,lvl,qCe]
theorem qV2 {s:List UInt8} (hs:s.length≤1000) {level:Int} (hl:1≤level∧level≤4) (q:PS) (hb:q.2.1=false) (h:q.1<:+s):Ev (qEw · level (BR s) (pos s q.1) q.2.1 q.2.2.length (q.2.2.map qa)) (qCf s (sOp level q)):=by
 obtain ⟨n1,h1⟩:=qAs (F:=fun o n=>qCT n o) (f:=lvl) qCM (fun o _=>qJv o)
 obtain ⟨n2,h2⟩:=qAs (F:=fun o n=>qCw n o) (f:=qAT) qCM (fun o ho=>qKy o (qU3 o ho))
 obtain ⟨n3,h3⟩:=qAs (F:=fun o n=>qAJ n (qAT o) (BR s) (pos s q.1) q.2.1 q.2.2.length (q.2.2.map qa)) (f:=fun o=>((sIs (qAT o).toList q).1,qC2 s (sIs (qAT o).toList q).2)) qCM (fun o ho=>by
  have:=qHT hs (qAT o).toList (by rw [qAZ];have:=(qSt o ho).2;omega) q h
  rwa [qJx] at this)
 obtain ⟨n4,h4⟩:=qAs (F:=fun o n=>qAJ n (qAT o) (BR s) (pos s (tb q.1)) q.2.1 q.2.2.length (q.2.2.map qa)) (f:=fun o=>((sIs (qAT o).toList (tb q.1,q.2)).1,qC2 s (sIs (qAT o).toList (tb q.1,q.2)).2)) qCM (fun o ho=>by
  have:=qHT hs (qAT o).toList (by rw [qAZ];have:=(qSt o ho).2;omega) (tb q.1,q.2) (qTu h)
  rwa [qJx] at this)
 refine ⟨n1+n2+n3+n4+13,fun n hn=>?_⟩
 obtain ⟨k,rfl,hm⟩:=up1 hn
 have lp:=qOm hs (n:=k) level (tb q.1) (qCe q.1) q.2.2.length (q.2.2.map qa) (h1 k (by omega)) (h2 k (by omega)) 11 0 q.1 k (by omega) (by omega) rfl (fun r' _ hr' o ho=>by
  rcases hr' with rfl|rfl
  ·have:=h3 k (by omega) o ho
   rw [hb] at this
   refine this.trans ?_
   unfold sIs
   rw [if_neg (by rw [hb];simp)]
   by_cases hp:(qAT o).toList.isPrefixOf (tb q.1)=true
   ·rw [if_pos hp,if_pos hp,qAZ];simp only [qC2,hb]
   ·rw [if_neg hp,if_neg hp];simp only [qC2,hb]
  ·have:=h4 k (by omega) o ho
   rw [hb] at this
   refine this.trans ?_
   unfold sIs
   rw [if_neg (by rw [hb];simp)]
   simp only [qCe]
   by_cases hp:(qAT o).toList.isPrefixOf (tb q.1)=true
   ·rw [if_pos hp,if_pos hp,qAZ];simp only [qC2,hb]
   ·rw [if_neg hp,if_neg hp];simp only [qC2,hb])
 rw [List.drop_zero,qV1 hl] at lp
 unfold sOp
 rw [if_neg (by rw [hb];simp)]
 show qEw (k+1) level (BR s) (pos s q.1) q.2.1 q.2.2.length (q.2.2.map qa)=_
 rw [hb]
 by_cases h0:qD3 level (tb q.1) qCM=0
 ·rw [if_pos h0] at lp
  rw [if_pos h0]
  refine qA lp ?_
  simp only [qCf,qC2,hb,h0]
  rfl
 ·rw [if_neg h0] at lp
  rw [if_neg h0]
  refine qA lp ?_
  simp only [qCf,qC2,hb]
  rfl
theorem qQv {s:List UInt8} (hs:s.length≤1000) {n:Nat} (r:List UInt8) (hr:r<:+s) (b:Bool) (l:List Nd)
  (h1:∀i,1≤i∧i≤5→qBZ n i=some (qe i)) (h2:∀i,1≤i∧i≤5→qC7 n i=some (4,i,em))
  (h4:∀i,1≤i∧i≤5→qv n 1 0 4 i em 0 0 false false 0 0 false false [] (BR s) (pos s (r.drop ((qe i).size-1))) b l.length (l.map qa)=some (qCf s (qEJ (nd1 (4,i,em)) (r.drop ((qe i).size-1),b,l)))):
  ∀(k:Nat) (i:Int) (M:Nat),1≤i→i+k=6→k+1≤M→zD (qCk n) M (i,BR s,pos s r,b,l.length,l.map qa)=some (match qTK r i k with
   |some e=> .inl (qCf s (qEJ (nd1 (4,e,em)) (r.drop ((qe e).size-1),b,l)))
   |none=> .inr (BR s,pos s r,b,l.length,l.map qa))
 |k,i,0,_,_,h=>by omega
 |0,i,M+1,hi,hk,h=>by
  exact qP (qO (decide_eq_false (show ¬i≤5 by omega)) rfl)
 |k+1,i,M+1,hi,hk,h=>by
  have hi5:1≤i∧i≤5:=⟨hi,by omega⟩
  have hsz:1≤(qe i).size∧(qe i).size≤7:=by
   have c:i=1∨i=2∨i=3∨i=4∨i=5:=by omega
   rcases c with rfl|rfl|rfl|rfl|rfl<;>decide+kernel
  have hx:(qe i).extract ((1:Int)).toNat (((qe i).size:Nat):Int).toNat=BR (qe i).toList.tail:=by
   conv=>lhs;rw [←qJx (qe i)]
   rw [qGL,qb,qAZ]
   congr 1
   rw [Int.toNat_natCast,List.take_of_length_le (by rw [qAZ];omega)]
   exact List.drop_one
  have hxs:((qe i).extract ((1:Int)).toNat (((qe i).size:Nat):Int).toNat).size=(qe i).size-1:=by
   rw [hx,qb,List.length_tail,qAZ]
  have hl:=qDQ hr
  have w1:IntKind.i64.wrap (pos s r+(((qe i).extract ((1:Int)).toNat (((qe i).size:Nat):Int).toNat).size:Int))=pos s r+(((qe i).size-1:Nat):Int):=by
   rw [hxs];exact qT (by unfold pos;omega)
  have w2:IntKind.i64.wrap (i+1)=i+1:=qT (by omega)
  have ih:=qQv hs r hr b l h1 h2 h4 k (i+1) M (by omega) (by omega) (by omega)
  unfold qTK
  by_cases hf:pos s r+(((qe i).size-1:Nat):Int)≤(s.length:Int)
  ·have hk2:(qe i).size-1≤r.length:=by unfold pos at hf;omega
   have cmp:(((BR s).extract (pos s r).toNat (IntKind.i64.wrap (pos s r+(((qe i).extract ((1:Int)).toNat (((qe i).size:Nat):Int).toNat).size:Int))).toNat).toList==((qe i).extract ((1:Int)).toNat (((qe i).size:Nat):Int).toNat).toList)=true↔(qe i).toList.tail.isPrefixOf r=true:=by
    rw [w1,qPt hr,hx,qAQ,qAQ,beq_iff_eq,List.isPrefixOf_iff_prefix,List.prefix_iff_eq_take,List.length_tail,qAZ]
    exact ⟨fun e=>e.symm,fun e=>e.symm⟩
   have g1:decide (IntKind.i64.wrap (pos s r+(((qe i).extract ((1:Int)).toNat (((qe i).size:Nat):Int).toNat).size:Int))≤((BR s).size:Int))=true:=decide_eq_true (by rw [w1,qb];exact hf)
   have g2:decide (0≤pos s r∧pos s r≤IntKind.i64.wrap (pos s r+(((qe i).extract ((1:Int)).toNat (((qe i).size:Nat):Int).toNat).size:Int))∧IntKind.i64.wrap (pos s r+(((qe i).extract ((1:Int)).toNat (((qe i).size:Nat):Int).toNat).size:Int))≤((BR s).size:Int))=true:=decide_eq_true (by rw [w1,qb];exact ⟨qL0 _ _,by omega,hf⟩)
   by_cases hp:(qe i).toList.tail.isPrefixOf r=true
   ·rw [if_pos hp]
    have h4:=h4 i hi5
    rw [←qLE hr rfl hk2,←w1] at h4
    exact qP (qD (decide_eq_true (show i≤5 by omega)) (qA (h1 i hi5) (qD (decide_eq_true ⟨by decide,by omega,Int.le_refl _⟩) (qD g1 (qD g2 (qD (cmp.2 hp) (qA (h2 i hi5) (qA h4 rfl))))))))
   ·rw [if_neg hp]
    rw [qU (v':=(i+1,BR s,pos s r,b,l.length,l.map qa)) (by
     refine qD (decide_eq_true (show i≤5 by omega)) (qA (h1 i hi5) (qD (decide_eq_true ⟨by decide,by omega,Int.le_refl _⟩) (qD g1 (qD g2 (qO (by rw [Bool.eq_false_iff];exact fun e=>hp (cmp.1 e)) ?_)))))
     rw [qC,w2])]
    exact ih
  ·have hp:¬(qe i).toList.tail.isPrefixOf r=true:=by
    intro e
    have:=(List.isPrefixOf_iff_prefix.1 e).length_le
    rw [List.length_tail,qAZ] at this
    unfold pos at hf
    omega
   rw [if_neg hp]
   rw [qU (v':=(i+1,BR s,pos s r,b,l.length,l.map qa)) (by
    refine qD (decide_eq_true (show i≤5 by omega)) (qA (h1 i hi5) (qD (decide_eq_true ⟨by decide,by omega,Int.le_refl _⟩) (qO (decide_eq_false (by rw [w1,qb];exact hf)) ?_)))
    rw [qC,w2])]
   exact ih
theorem qVd {s:List UInt8} (hs:s.length≤1000) (r:List UInt8) (hr:r<:+s) (b:Bool) (l:List Nd) (hl:l.length≤5000):∃n0,∀n,n0≤n→∀M,n0≤M→zD (qCk n) M (1,BR s,pos s r,b,l.length,l.map qa)=some (match qTK r 1 5 with
   |some e=> .inl (qCf s (qEJ (nd1 (4,e,em)) (r.drop ((qe e).size-1),b,l)))
   |none=> .inr (BR s,pos s r,b,l.length,l.map qa)):=by
 obtain ⟨n1,h1⟩:=qGg (F:=qBZ) (f:=qe) (lo:=1) (by decide) (fun i hi=>qHM i ⟨by omega,hi.2⟩)
 obtain ⟨n2,h2⟩:=qGg (F:=qC7) (f:=fun i=>(4,i,em)) (lo:=1) (by decide) (fun i _=>qPh i)
 obtain ⟨n4,h4⟩:=qGg (F:=fun n i=>qv n 1 0 4 i em 0 0 false false 0 0 false false [] (BR s) (pos s (r.drop ((qe i).size-1))) b l.length (l.map qa)) (f:=fun i=>qCf s (qEJ (nd1 (4,i,em)) (r.drop ((qe i).size-1),b,l))) (lo:=1) (by decide) (fun i _=>qK4 (s:=s) (nd1 (4,i,em)) (r.drop ((qe i).size-1),b,l) hl ⟨by simp [kd,nd1],by simp [nd1,em];decide⟩)
 exact ⟨n1+n2+n4+7,fun n hn M hM=>qQv hs r hr b l (h1 n (by omega)) (h2 n (by omega)) (h4 n (by omega)) 5 1 M (by omega) (by omega) (by omega)⟩
theorem qVe:∃n0,∀n,n0≤n→∀i,1≤i∧i≤10→qCi n i=some (fnS i):=by
 obtain ⟨n1,h1⟩:=qAs (F:=fun (i:Nat) n=>qCi n ((i:Int)+1)) (f:=fun i=>fnS ((i:Int)+1)) (List.range 10) (fun i hi=>qNV _ (by have:=List.mem_range.1 hi;omega))
 refine ⟨n1,fun n hn i hi=>?_⟩
 have:=h1 n hn (i-1).toNat (List.mem_range.2 (by omega))
 rwa [show (((i-1).toNat:Nat):Int)+1=i by omega] at this
theorem qV3 {i j:Int} (hi:1≤i∧i≤10) (hj:1≤j∧j≤10) (h:(fnS i).toList=(fnS j).toList):i=j:=by
 have t:∀a:Fin 10,∀b:Fin 10,(fnS (((a.val:Nat):Int)+1)).toList=(fnS (((b.val:Nat):Int)+1)).toList→a=b:=by decide+kernel
 have:=t ⟨(i-1).toNat,by omega⟩ ⟨(j-1).toNat,by omega⟩ (by
  simp only
  rw [show (((i-1).toNat:Nat):Int)+1=i by omega,show (((j-1).toNat:Nat):Int)+1=j by omega]
  exact h)
 have:=congrArg Fin.val this
 simp only at this
 omega
theorem qSD {g:G_spec_l3Rd_row} {n:Nat} {s:List UInt8} (w:List UInt8) (q:PS) (h1:∀i,1≤i∧i≤10→qCi n i=some (fnS i)):
  ∀(k:Nat) (i:Int) (M:Nat),1≤i→i+k=11→k+1≤M→(∀j,i≤j∧j≤10→(fnS j).toList≠w)→zD (qDK g n) M (BR w,i,qC2 s q)=some (.inr (BR w,qC2 s q))
 |k,i,0,_,_,h,_=>by omega
 |0,i,M+1,hi,hk,h,_=>qP (qO (decide_eq_false (show ¬i≤10 by omega)) rfl)
 |k+1,i,M+1,hi,hk,h,hn=>by
  have w1:IntKind.i64.wrap (i+1)=i+1:=qT (by omega)
  rw [qU (v':=(BR w,i+1,qC2 s q)) (by
   refine qD (decide_eq_true (show i≤10 by omega)) (qA (h1 i ⟨hi,by omega⟩) (qO (by rw [beq_eq_false_iff_ne];show (fnS i).toList≠(BR w).toList;rw [qAQ];exact hn i ⟨Int.le_refl _,by omega⟩) ?_))
   rw [qC,w1])]
  exact qSD w q h1 k (i+1) M (by omega) (by omega) (by omega) (fun j hj=>hn j ⟨by omega,hj.2⟩)
theorem qLF {g:G_spec_l3Rd_row} {n:Nat} {s:List UInt8} (w:List UInt8) (q:PS) (res:Int→Int×PS) (h1:∀i,1≤i∧i≤10→qCi n i=some (fnS i))
  (h2:qAJ n ⟨#[40]⟩ (BR s) (pos s q.1) q.2.1 q.2.2.length (q.2.2.map qa)=some ((sIs [40] q).1,qC2 s (sIs [40] q).2)):
  ∀(k:Nat) (i:Int) (M:Nat),1≤i→i+k=11→k+1≤M→(∀op,qGi w i k=some op→(sIs [40] q).1=true→g.spec_l3Rd_call op (BR s) (pos s (sIs [40] q).2.1) (sIs [40] q).2.2.1 (sIs [40] q).2.2.2.length ((sIs [40] q).2.2.2.map qa)=some (qCf s (res op)))→
   zD (qDK g n) M (BR w,i,qC2 s q)=some (match qGi w i k with
   |some op=>if (sIs [40] q).1=true then .inl (qCf s (res op)) else .inr (BR w,qC2 s (sIs [40] q).2)
   |none=> .inr (BR w,qC2 s q))
 |k,i,0,_,_,h,_=>by omega
 |0,i,M+1,hi,hk,h,_=>qP (qO (decide_eq_false (show ¬i≤10 by omega)) rfl)
 |k+1,i,M+1,hi,hk,h,hc=>by
  have w1:IntKind.i64.wrap (i+1)=i+1:=qT (by omega)
  unfold qGi at hc⊢
  by_cases hq:(fnS i).toList=w
  ·rw [if_pos hq] at hc⊢
   have hqb:((fnS i).toList==(BR w).toList)=true:=by rw [beq_iff_eq,qAQ];exact hq
   simp only
   cases hi2:(sIs [40] q).1 with
   |true=>
    rw [if_pos rfl]
    exact qP (qD (decide_eq_true (show i≤10 by omega)) (qA (h1 i ⟨hi,by omega⟩) (qD hqb (qA h2 (qD hi2 (qA (hc i rfl hi2) rfl))))))
   |false=>
    rw [if_neg (by simp)]
    rw [qU (v':=(BR w,i+1,qC2 s (sIs [40] q).2)) (by
     refine qD (decide_eq_true (show i≤10 by omega)) (qA (h1 i ⟨hi,by omega⟩) (qD hqb (qA h2 (qO hi2 ?_))))
     rw [qC,w1])]
    exact qSD w _ h1 k (i+1) M (by omega) (by omega) (by omega) (fun j hj e=>by
     have:=qV3 (i:=i) (j:=j) ⟨hi,by omega⟩ ⟨by omega,hj.2⟩ (hq.trans e.symm)
     omega)
  ·rw [if_neg hq] at hc⊢
   rw [qU (v':=(BR w,i+1,qC2 s q)) (by
    refine qD (decide_eq_true (show i≤10 by omega)) (qA (h1 i ⟨hi,by omega⟩) (qO (by rw [beq_eq_false_iff_ne];show (fnS i).toList≠(BR w).toList;rw [qAQ];exact hq) ?_))
    rw [qC,w1])]
   exact qLF w q res h1 h2 k (i+1) M (by omega) (by omega) (by omega) hc
structure Go (k:Nat) (q q':PS):Prop where
 suf:q'.1<:+q.1
 sum:q'.2.2.length+q'.1.length+k≤q.2.2.length+q.1.length
 sm:(∀x∈q.2.2,qRi x)→∀x∈q'.2.2,qRi x
theorem Go.refl (q:PS):Go 0 q q:=⟨List.suffix_rfl,Nat.le_refl _,id⟩
theorem Go.trans {a b:Nat} {p q r:PS} (h:Go a p q) (h':Go b q r):Go (a+b) p r:=⟨h'.suf.trans h.suf,by have:=h.sum;have:=h'.sum;omega,fun e=>h'.sm (h.sm e)⟩
theorem Go.tr0 {p q r:PS} (h:Go 0 p q) (h':Go 0 q r):Go 0 p r:=h.trans h'
theorem Go.add {p q:PS} {x:Nd} (h:Go 1 p q) (hx:qRi x):Go 0 p (qEJ x q).2:=by
 refine ⟨h.suf,?_,fun e y hy=>?_⟩
 ·have:=h.sum
  simp only [qEJ,List.length_append,List.length_singleton]
  omega
 ·simp only [qEJ,List.mem_append,List.mem_singleton] at hy
  rcases hy with hy|rfl
  ·exact h.sm e y hy
  ·exact hx
theorem Go.weak {k:Nat} {p q:PS} (h:Go k p q):Go 0 p q:=⟨h.suf,by have:=h.sum;omega,h.sm⟩
theorem Go.of (q:PS) {r:List UInt8} (b:Bool) {k:Nat} (h:r<:+q.1) (hk:r.length+k≤q.1.length):Go k q (r,b,q.2.2):=⟨h,by simp only;omega,id⟩
theorem qNe (q:PS):Go 0 q (tb q.1,q.2):=⟨List.dropWhile_suffix _,by have:=qAD q.1;simp only;omega,id⟩
theorem qSE (q:PS):Go 0 q (wr (tb q.1),q.2):=⟨(List.dropWhile_suffix _).trans (List.dropWhile_suffix _),by have:=qAD q.1;have:=qHQ (tb q.1);simp only;omega,id⟩
theorem qU4 (q:PS) (h:wd (tb q.1)≠ []):Go 1 q (wr (tb q.1),q.2):=⟨(List.dropWhile_suffix _).trans (List.dropWhile_suffix _),by
 have:=qAD q.1
 have e:=congrArg List.length (wdr (tb q.1))
 have:=List.length_pos_iff.2 h
 simp only [List.length_append] at e
 simp only;omega,id⟩
theorem qL1 {w:List UInt8} {q:PS} (h:(sIs w q).1=true):w<+:tb q.1∧(sIs w q).2=((tb q.1).drop w.length,q.2)∧q.2.1=false:=by
 unfold sIs at h⊢
 split at h
 ·cases h
 ·rename_i hb
  rw [if_neg hb]
  split at h
  ·rename_i hp
   rw [if_pos hp]
   exact ⟨List.isPrefixOf_iff_prefix.1 hp,rfl,by rw [Bool.eq_false_iff];exact hb⟩
  ·cases h
theorem qSF {w:List UInt8} {q:PS} (h:(sIs w q).1=false):(sIs w q).2=(tb q.1,q.2):=by
 unfold sIs at h⊢
 split at h
 ·rename_i hb;rw [if_pos hb]
 ·rename_i hb
  rw [if_neg hb]
  split at h
  ·cases h
  ·rename_i hp;rw [if_neg hp]
theorem qK5 (w:List UInt8) (q:PS):Go 0 q (sIs w q).2:=by
 cases h:(sIs w q).1 with
 |true=>
  obtain ⟨_,h2,_⟩:=qL1 h
  rw [h2]
  exact Go.tr0 (qNe q) ⟨List.drop_suffix _ _,by simp,id⟩
 |false=>rw [qSF h];exact qNe q
theorem qFK {w:List UInt8} (hw:w≠ []) {q:PS} (h:(sIs w q).1=true):Go 1 q (sIs w q).2:=by
 obtain ⟨h1,h2,_⟩:=qL1 h
 rw [h2]
 have l1:=h1.length_le
 have l2:=List.length_pos_iff.2 hw
 have:=qAD q.1
 exact ⟨(List.drop_suffix _ _).trans (List.dropWhile_suffix _),by simp;omega,id⟩
theorem qQw {k:Nat} {p q:PS} (h:Go k p q):Go k p (qMg q):=⟨h.suf,h.sum,h.sm⟩
theorem qU5:∀(t r:List UInt8),(tb r).length≤(tb (t++r)).length
 | [],r=>Nat.le_refl _
 |c::t,r=>by
  have ih:=qU5 t r
  have:=qAD (t++r)
  by_cases hc:c=32
  ·rw [show tb (c::t++r)=tb (t++r) by simp [tb,hc]];exact ih
  ·rw [show tb (c::t++r)=c::(t++r) by simp [tb,hc]]
   simp only [List.length_cons];omega
theorem Go.tb {k:Nat} {p q:PS} (h:Go k p q):(tb q.1).length≤(tb p.1).length:=by
 obtain ⟨t,ht⟩:=h.suf
 rw [←ht];exact qU5 t q.1
theorem qUM {w:List UInt8} (hw:w≠ []) {q:PS} (h:(sIs w q).1=true):(tb (sIs w q).2.1).length<(tb q.1).length:=by
 obtain ⟨h1,h2,_⟩:=qL1 h
 rw [h2]
 exact qSr hw h1
theorem qUN (level:Int) (r:List UInt8):∀l:List Int,qD3 level r l≠0→qD3 level r l∈l∧(qAT (qD3 level r l)).toList<+:r
 | [],h=>absurd rfl h
 |o::l,h=>by
  unfold qD3 at h⊢
  split at h
  ·rename_i hc
   rw [if_pos hc]
   exact ⟨List.mem_cons_self ..,List.isPrefixOf_iff_prefix.1 hc.2⟩
  ·rename_i hc
   rw [if_neg hc]
   have:=qUN level r l h
   exact ⟨List.mem_cons_of_mem _ this.1,this.2⟩
theorem qVo (level:Int) (q:PS):Go 0 q (sOp level q).2∧((sOp level q).1≠0→Go 1 q (sOp level q).2∧(tb (sOp level q).2.1).length<(tb q.1).length):=by
 unfold sOp
 split
 ·exact ⟨qNe q,fun h=>absurd rfl h⟩
 ·simp only
  by_cases h:qD3 level (tb q.1) qCM=0
  ·rw [if_pos h]
   exact ⟨qNe q,fun e=>absurd h e⟩
  ·rw [if_neg h]
   obtain ⟨h1,h2⟩:=qUN level (tb q.1) qCM h
   have ne:=(qSt _ h1).1
   have l1:=h2.length_le
   have l2:=List.length_pos_iff.2 ne
   rw [qAZ] at l1 l2
   have l3:=qAD q.1
   have g:Go 1 q ((tb q.1).drop (qAT (qD3 level (tb q.1) qCM)).size,q.2):=⟨(List.drop_suffix _ _).trans (List.dropWhile_suffix _),by simp;omega,id⟩
   have t:=qSr ne h2
   rw [qAZ] at t
   exact ⟨g.weak,fun _=>⟨g,t⟩⟩
theorem qOn:∀(k:Nat) (acc r:List UInt8) {w t:List UInt8},r.length≤k→qCJ acc r=some (w,t)→t<:+r
 |k,acc,[],w,t,hk,h=>by simp [qCJ] at h
 |0,acc,c::r,w,t,hk,h=>by simp at hk
 |k+1,acc,c::r,w,t,hk,h=>by
  simp only [List.length_cons] at hk
  by_cases hc:c=34
  ·subst hc
   by_cases hq:r.head?=some 34
   ·obtain ⟨u,rfl⟩:=qLD hq
    rw [qVt] at h
    simp only [List.length_cons] at hk
    have:=qOn k _ u (by omega) h
    exact this.trans ((List.suffix_cons 34 u).trans (List.suffix_cons 34 _))
   ·rw [qVu acc r hq] at h
    cases h
    exact List.suffix_cons 34 _
  ·rw [qVv acc r hc] at h
   exact (qOn k _ r (by omega) h).trans (List.suffix_cons c _)
def Ks:SJ→PS→Prop
 | .call _ kids,q=>q.2.1=true∨kids.length+q.1.length≤1500
 |_,_=>True
theorem qJV {k op:Int} {kids:List Int} (h:kids.length≤2000):qRi (ndK k op kids):=⟨h,by simp [ndK,em];decide⟩
theorem qB4 {k:Nat} {p q:PS} (h:Go k p q):q.1.length≤p.1.length:=h.suf.length_le
theorem qFO (H:RdOK):∀(f:Nat) (j:SJ) (q:PS),q.1.length≤1000→Ks j q→Go 0 q (sP f j q).2
 |0,j,q,_,_=>Go.refl q
 |f+1,.row level,q,hr,_=>by
  unfold sP
  split
  ·exact Go.refl q
  ·split
   ·exact qFO H f .one q hr trivial
   ·have a:=qFO H f (.row (level+1)) q hr trivial
    exact a.tr0 (qFO H f (.rl level _) _ (Nat.le_trans (qB4 a) hr) trivial)
 |f+1,.rl level a,q,hr,_=>by
  unfold sP
  split
  ·exact Go.refl q
  ·simp only
   have o:=qVo level q
   split
   ·exact o.1
   ·rename_i h0
    have o1:=(o.2 h0).1
    have b:=qFO H f (.row (level+1)) (sOp level q).2 (Nat.le_trans (qB4 o1) hr) trivial
    have c:=Go.add (x:=ndK 5 (sOp level q).1 [a,(sP f (.row (level+1)) (sOp level q).2).1]) (o1.trans b) (qJV (by simp))
    exact c.tr0 (qFO H f (.rl level _) _ (Nat.le_trans (qB4 c) hr) trivial)
 |f+1,.one,q,hr,_=>by
  unfold sP
  split
  ·rename_i h
   have a:=qFK (by simp) h
   have b:=qFO H f (.row 5) (sIs [45] q).2 (Nat.le_trans (qB4 a) hr) trivial
   exact Go.add (a.trans b) (qJV (by simp))
  ·have a:=qK5 [45] q
   split
   ·rename_i h
    have c:=a.tr0 (qFK (by simp) h).weak
    have b:=qFO H f (.row 1) (sIs [40] (sIs [45] q).2).2 (Nat.le_trans (qB4 c) hr) trivial
    have d:=(c.tr0 b).tr0 (qK5 [41] _)
    simp only
    split
    ·exact d
    ·exact qQw d
   ·simp only
    have t:=qNe q
    split
    ·rename_i h
     have c:=qFK (by simp) h
     obtain ⟨_,e,_⟩:=qL1 h
     split
     ·exact ⟨List.nil_suffix,by simp,id⟩
     ·rename_i w u hq
      have d:=qOn _ _ _ (Nat.le_refl _) hq
      have d2:=d.length_le
      have dz:=qHS _ _ _ (Nat.le_refl _) hq
      have g:=t.trans c
      have l:=qB4 g
      have sg:=g.sum
      have eq:(sIs [34] (tb q.1,q.2)).2.2=q.2:=by rw [e]
      rw [eq] at sg
      simp only [List.length_nil] at dz
      exact Go.add (q:=(u,q.2)) ⟨d.trans g.suf,by simp only;omega,id⟩ ⟨by simp [kd,nd1],by simp only [nd1,qb];omega⟩
    ·split
     ·rename_i h
      have c:=qFK (by simp) h
      obtain ⟨_,e,_⟩:=qL1 h
      have g:=t.trans c
      have l:=qB4 g
      have sg:=g.sum
      have eq:(sIs [35] (tb q.1,q.2)).2.2=q.2:=by rw [e]
      rw [eq] at sg
      split
      ·exact Go.add (q:=(_,q.2)) ⟨(List.drop_suffix _ _).trans g.suf,by simp;omega,id⟩ ⟨by simp [kd,nd1],by simp [nd1,em];decide⟩
      ·exact ⟨g.suf,by simp only;omega,id⟩
     ·have w:=qSE q
      split
      ·split
       ·have c:=w.tr0 (qK5 [40] _)
        exact c.tr0 (qFO H f (.call _ []) _ (Nat.le_trans (qB4 c) hr) (.inr (by have:=qB4 c;simp only [List.length_nil];omega)))
       ·exact qQw (w.tr0 (qK5 [40] _))
      ·split
       ·rename_i hv
        exact Go.add (qU4 q hv.2) ⟨by simp [kd,nd1],qK3 hv.1 (H.v _ (qTr _) hv.2 hv.1)⟩
       ·split
        ·rename_i hp
         exact Go.add (qU4 q (fun e=>by rw [e,H.p0] at hp;cases hp)) ⟨by simp [kd,ndC],by simp [ndC,em];decide⟩
        ·exact qQw w
 |f+1,.call op kids,q,hr,hk=>by
  unfold sP
  split
  ·exact Go.refl q
  ·rename_i hb
   have hk:kids.length+q.1.length≤1500:=hk.elim (fun h=>absurd h hb) id
   have a:=qFO H f .arg q hr trivial
   simp only
   split
   ·rename_i h
    exact Go.add (a.trans (qFK (by simp) h)) (qJV (by simp;omega))
   ·have c:=a.tr0 (qK5 [41] _)
    split
    ·rename_i h
     have d:=c.trans (qFK (by simp) h)
     obtain ⟨e1,e2,_⟩:=qL1 h
     have l:=e1.length_le
     have l2:=qB4 c
     have l3:=qAD (sIs [41] (sP f .arg q).2).2.1
     simp only [List.length_cons,List.length_nil] at l
     exact d.weak.tr0 (qFO H f (.call op _) _ (Nat.le_trans (qB4 d) hr) (.inr (by rw [e2];simp;omega)))
    ·have d:=qQw (c.tr0 (qK5 [44] _))
     exact d.tr0 (qFO H f (.call op _) _ (Nat.le_trans (qB4 d) hr) (.inl rfl))
 |f+1,.arg,q,hr,_=>by
  unfold sP
  simp only
  have w:=qSE q
  split
  ·rename_i h
   have c:=w.trans (qFK (by simp) h.2)
   have d:=c.trans (qSE _)
   split
   ·exact Go.add d ⟨by simp [kd,ndA],by simp [ndA,em];decide⟩
   ·exact ⟨d.suf,by have:=d.sum;simp only at this⊢;omega,d.sm⟩
  ·have t:=qNe q
   exact t.tr0 (qFO H f (.row 1) _ (Nat.le_trans (qB4 t) hr) trivial)
def As (f:Nat):SJ→PS→Prop
 | .row level,q=>((20*(tb q.1).length+10:Nat):Int)-level≤f∧1≤level∧level≤5
 | .rl level _,q=>20*(tb q.1).length+5≤f∧1≤level∧level≤4
 | .one,q=>20*(tb q.1).length+4≤f∧q.2.1=false
 | .call _ _,q=>(q.2.1=true∧1≤f)∨20*(tb q.1).length+12≤f
 | .arg,q=>20*(tb q.1).length+10≤f
def Iv (s:List UInt8) (q:PS):Prop:=q.1<:+s∧q.2.2.length+q.1.length≤2000
theorem Iv.go {s:List UInt8} {k:Nat} {q q':PS} (h:Iv s q) (g:Go k q q'):Iv s q':=⟨g.suf.trans h.1,by have:=g.sum;have:=h.2;omega⟩
def Ws (s:List UInt8):SJ→PS→Int×PS→Prop
 | .row level,q,r=>Ev (qEQ · level (BR s) (pos s q.1) q.2.1 q.2.2.length (q.2.2.map qa)) (qCf s r)
 | .rl level a,q,r=>∃x,(x= .inl (qCf s r)∨x= .inr (qCf s r))∧∃n0,∀n,n0≤n→∀M,n0≤M→zD (qEY (qc n) n) M (level,a,qC2 s q)=some x
 | .one,q,r=>Ev (qJg · (BR s) (pos s q.1) q.2.1 q.2.2.length (q.2.2.map qa)) (qCf s r)
 | .call op kids,q,r=>∃x,(x= .inl (qCf s r)∨(x= .inr (qC2 s r.2)∧r.1=0))∧∃n0,∀n,n0≤n→∀M,n0≤M→zD (qD7 (qc n) n) M (op,kids.length,kids.map qAC,qC2 s q)=some x
 | .arg,q,r=>Ev (qJh · (BR s) (pos s q.1) q.2.1 q.2.2.length (q.2.2.map qa)) (qCf s r)
theorem srp (r:List UInt8) (h:r.length≤1000):Ev (qAu · (BR (wd r))) (qA6 (BR (wd r))):=qNS _ (by rw [qb];have:=qSq r;omega)
theorem srv (r:List UInt8) (h:r.length≤1000):Ev (qAL · (BR (wd r))) (qh (BR (wd r))):=qHr _ (by rw [qb];have:=qSq r;omega)
theorem qWO {r:List UInt8} (h:wd r≠ []):(tb (wr r)).length<r.length:=by
 have e:=congrArg List.length (wdr r)
 have:=List.length_pos_iff.2 h
 have:=qAD (wr r)
 simp only [List.length_append] at e
 omega
def qSu (n:Nat) (w:ByteArray) (c:ByteArray×Int×Bool×Nat×List (List PV)):Tr (Int×ByteArray×Int×Bool×Nat×List (List PV)):=
 (.opt (qAu n w) fun r=>(.ask (!r.2.2.2.2) (.done (0,c.1,c.2.1,true,c.2.2.2.1,c.2.2.2.2))
  (.opt (qv n 2 0 0 0 ⟨#[]⟩ r.1 r.2.1 r.2.2.1 r.2.2.2.1 0 0 false false [] c.1 c.2.1 c.2.2.1 c.2.2.2.1 c.2.2.2.2) fun t=> .done (t.1,t.2.1,t.2.2.1,t.2.2.2.1,t.2.2.2.2.1,t.2.2.2.2.2))))
def qV4 (n:Nat) (w:ByteArray) (c:ByteArray×Int×Bool×Nat×List (List PV)):Tr (Int×ByteArray×Int×Bool×Nat×List (List PV)):=
 (.opt (qAL n w) fun r=>(.ask r.2.2.2
  (.ask (!(w.toList==(⟨#[]⟩:ByteArray).toList))
   (.opt (qv n 1 0 r.1 r.2.1 r.2.2.1 0 0 false false 0 0 false false [] c.1 c.2.1 c.2.2.1 c.2.2.2.1 c.2.2.2.2) fun t=> .done (t.1,t.2.1,t.2.2.1,t.2.2.2.1,t.2.2.2.2.1,t.2.2.2.2.2))
   (qSu n w c))
  (qSu n w c)))
def qQx (w:List UInt8) (q3:PS):Int×PS:=
 if (qh (BR w)).2.2.2=true∧w≠ [] then qEJ (nd1 ((qh (BR w)).1,(qh (BR w)).2.1,(qh (BR w)).2.2.1)) q3
 else if (qA6 (BR w)).2.2.2.2=true then qEJ (ndC (qA6 (BR w))) q3
 else (0,qMg q3)
theorem qSG (H:RdOK) {s:List UInt8} (r:List UInt8) (q:PS) (hr:r.length≤1000) (hn:q.2.2.length≤5000):∃n0,∀n,n0≤n→(qV4 n (BR (wd r)) (qC2 s q)).run=some (qCf s (qQx (wd r) q)):=by
 obtain ⟨n1,h1⟩:=srv r hr
 obtain ⟨n2,h2⟩:=srp r hr
 obtain ⟨n4,h4⟩:=qK4 (s:=s) (ndC (qA6 (BR (wd r)))) q hn ⟨by simp [kd,ndC],by simp [ndC,em];decide⟩
 have place:∃n0,∀n,n0≤n→(qSu n (BR (wd r)) (qC2 s q)).run=some (qCf s (if (qA6 (BR (wd r))).2.2.2.2=true then qEJ (ndC (qA6 (BR (wd r)))) q else (0,qMg q))):=by
  refine ⟨n2+n4,fun n hn=>?_⟩
  cases hp:(qA6 (BR (wd r))).2.2.2.2 with
  |true=>rw [if_pos rfl];exact qA (h2 n (by omega)) (qO (qA1 hp) (qA (h4 n (by omega)) rfl))
  |false=>rw [if_neg (by simp)];exact qA (h2 n (by omega)) (qD (qCv hp) rfl)
 obtain ⟨n5,h5⟩:=place
 by_cases hv:(qh (BR (wd r))).2.2.2=true∧wd r≠ []
 ·obtain ⟨n3,h3⟩:=qK4 (s:=s) (nd1 ((qh (BR (wd r))).1,(qh (BR (wd r))).2.1,(qh (BR (wd r))).2.2.1)) q hn ⟨by simp [kd,nd1],qK3 hv.1 (H.v _ (qTr _) hv.2 hv.1)⟩
  refine ⟨n1+n3,fun n hn=>?_⟩
  unfold qQx
  rw [if_pos hv]
  exact qA (h1 n (by omega)) (qD hv.1 (qD (qCv (by rw [beq_eq_false_iff_ne,qAQ,qAH];exact hv.2)) (qA (h3 n (by omega)) rfl)))
 ·refine ⟨n1+n5,fun n hn=>?_⟩
  unfold qQx
  rw [if_neg hv]
  refine qA (h1 n (by omega)) ?_
  by_cases ho:(qh (BR (wd r))).2.2.2=true
  ·have e:wd r= []:=Classical.byContradiction fun e=>hv ⟨ho,e⟩
   exact qD ho (qO (qA1 (by rw [beq_iff_eq,qAQ,qAH];exact e)) (h5 n (by omega)))
  ·exact qO (by rw [Bool.eq_false_iff];exact ho) (h5 n (by omega))
theorem qFc (H:RdOK) {s:List UInt8} (hs:s.length≤1000):∀(f:Nat) (j:SJ) (q:PS),As f j q→Iv s q→Ks j q→Ws s j q (sP f j q)
 |0,j,q,ha,_,_=>by cases j<;>simp [As] at ha<;>omega
 |f+1,.row level,q,ha,hi,_=>by
  obtain ⟨ha,hl1,hl5⟩:=ha
  have hr:q.1.length≤1000:=Nat.le_trans (qDQ hi.1) hs
  unfold sP
  by_cases hb:q.2.1=true
  ·rw [if_pos hb]
   refine ⟨1,fun n hn=>?_⟩
   obtain ⟨k,rfl,hm⟩:=up1 hn
   exact qD hb rfl
  ·have hb:q.2.1=false:=by rw [Bool.eq_false_iff];exact hb
   rw [if_neg (by rw [hb];simp)]
   by_cases h5:level=5
   ·rw [if_pos h5]
    obtain ⟨n1,h1⟩:=qFc H hs f .one q ⟨by omega,hb⟩ hi trivial
    refine ⟨n1+1,fun n hn=>?_⟩
    obtain ⟨k,rfl,hm⟩:=up1 hn
    exact qO hb (qD (beq_iff_eq.2 h5) (qA (h1 k (by omega)) rfl))
   ·rw [if_neg h5]
    have g:=qFO H f (.row (level+1)) q hr trivial
    have gl:=g.tb
    obtain ⟨n1,h1⟩:=qFc H hs f (.row (level+1)) q ⟨by omega,by omega,by omega⟩ hi trivial
    generalize sP f (.row (level+1)) q=Q at g gl h1⊢
    obtain ⟨x,hx,n2,h2⟩:=qFc H hs f (.rl level Q.1) Q.2 ⟨by omega,by omega,by omega⟩ (hi.go g) trivial
    refine ⟨n1+n2+1,fun n hn=>?_⟩
    obtain ⟨k,rfl,hm⟩:=up1 hn
    have w1:IntKind.i64.wrap (level+1)=level+1:=qT (by omega)
    have h1:=h1 k (by omega)
    rw [←w1] at h1
    have h2:=h2 k (by omega) k (by omega)
    rcases hx with rfl|rfl
    ·exact qO hb (qO (beq_eq_false_iff_ne.2 h5) (qA h1 (qA h2 rfl)))
    ·exact qO hb (qO (beq_eq_false_iff_ne.2 h5) (qA h1 (qA h2 rfl)))
 |f+1,.rl level a,q,ha,hi,_=>by
  obtain ⟨ha,hl1,hl4⟩:=ha
  have hr:q.1.length≤1000:=Nat.le_trans (qDQ hi.1) hs
  unfold sP
  by_cases hb:q.2.1=true
  ·rw [if_pos hb]
   refine ⟨.inr (qCf s (a,q)),.inr rfl,1,fun n hn M hM=>?_⟩
   obtain ⟨M,rfl,hM⟩:=up1 hM
   exact qP (qO (qA1 hb) rfl)
  ·have hb:q.2.1=false:=by rw [Bool.eq_false_iff];exact hb
   rw [if_neg (by rw [hb];simp)]
   simp only
   obtain ⟨n1,h1⟩:=qV2 hs (level:=level) ⟨hl1,hl4⟩ q hb hi.1
   have o:=qVo level q
   generalize sOp level q=O at h1 o⊢
   by_cases h0:O.1=0
   ·rw [if_pos h0]
    refine ⟨.inl (qCf s (a,O.2)),.inl rfl,n1+1,fun n hn M hM=>?_⟩
    obtain ⟨M,rfl,hM⟩:=up1 hM
    exact qP (qD (qCv hb) (qA (h1 n (by omega)) (qD (beq_iff_eq.2 h0) rfl)))
   ·rw [if_neg h0]
    obtain ⟨o1,o2⟩:=o.2 h0
    have b:=qFO H f (.row (level+1)) O.2 (Nat.le_trans (qB4 o1) hr) trivial
    obtain ⟨n2,h2⟩:=qFc H hs f (.row (level+1)) O.2 ⟨by omega,by omega,by omega⟩ (hi.go o1) trivial
    have ib:=(hi.go o1).go b
    have tbb:=b.tb
    have c:=Go.add (x:=ndK 5 O.1 [a,(sP f (.row (level+1)) O.2).1]) (o1.trans b) (qJV (by simp))
    generalize sP f (.row (level+1)) O.2=Q at h2 b ib tbb c⊢
    obtain ⟨n3,h3⟩:=qK4 (s:=s) (ndK 5 O.1 [a,Q.1]) Q.2 (by have:=ib.2;omega) (qJV (by simp))
    have rest:(qEJ (ndK 5 O.1 [a,Q.1]) Q.2).2.1=Q.2.1:=rfl
    generalize qEJ (ndK 5 O.1 [a,Q.1]) Q.2=C at h3 c rest⊢
    obtain ⟨x,hx,n4,h4⟩:=qFc H hs f (.rl level C.1) C.2 ⟨by rw [rest];omega,hl1,hl4⟩ (hi.go c) trivial
    refine ⟨x,hx,n1+n2+n3+n4+1,fun n hn M hM=>?_⟩
    obtain ⟨M,rfl,hM⟩:=up1 hM
    have w1:IntKind.i64.wrap (level+1)=level+1:=qT (by omega)
    have h2:=h2 n (by omega)
    rw [←w1] at h2
    rw [qU (v':=(level,C.1,qC2 s C.2)) (by
     exact qD (qCv hb) (qA (h1 n (by omega)) (qO (beq_eq_false_iff_ne.2 h0) (qA h2 (qD rfl (qA (h3 n (by omega)) rfl))))))]
    exact h4 n (by omega) M (by omega)
 |f+1,.one,q,ha,hi,_=>by
  obtain ⟨ha,hb⟩:=ha
  have hr:q.1.length≤1000:=Nat.le_trans (qDQ hi.1) hs
  unfold sP
  obtain ⟨n1,h1⟩:=qHT hs [45] (by simp) q hi.1
  cases c1:(sIs [45] q).1 with
  |true=>
   rw [if_pos rfl]
   have a:=qFK (by simp) c1
   have al:=qUM (by simp) c1
   have b:=qFO H f (.row 5) (sIs [45] q).2 (Nat.le_trans (qB4 a) hr) trivial
   obtain ⟨n2,h2⟩:=qFc H hs f (.row 5) (sIs [45] q).2 ⟨by omega,by omega,by omega⟩ (hi.go a) trivial
   have ib:=(hi.go a).go b
   simp only
   generalize sP f (.row 5) (sIs [45] q).2=Q at h2 ib⊢
   obtain ⟨n3,h3⟩:=qK4 (s:=s) (ndK 4 0 [Q.1]) Q.2 (by have:=ib.2;omega) (qJV (by simp))
   refine ⟨n1+n2+n3+1,fun n hn=>?_⟩
   obtain ⟨k,rfl,hm⟩:=up1 hn
   exact qA (h1 k (by omega)) (qD c1 (qA (h2 k (by omega)) (qD rfl (qA (h3 k (by omega)) rfl))))
  |false=>
   rw [if_neg (by simp)]
   have a:=qK5 [45] q
   obtain ⟨n2,h2⟩:=qHT hs [40] (by simp) (sIs [45] q).2 (hi.go a).1
   cases c2:(sIs [40] (sIs [45] q).2).1 with
   |true=>
    rw [if_pos rfl]
    have b:=qFK (by simp) c2
    have al:=qUM (by simp) c2
    have atb:=a.tb
    have g1:=a.trans b
    have b2:=qFO H f (.row 1) (sIs [40] (sIs [45] q).2).2 (Nat.le_trans (qB4 g1) hr) trivial
    obtain ⟨n3,h3⟩:=qFc H hs f (.row 1) (sIs [40] (sIs [45] q).2).2 ⟨by omega,by omega,by omega⟩ (hi.go g1) trivial
    have ib:=(hi.go g1).go b2
    simp only
    generalize sP f (.row 1) (sIs [40] (sIs [45] q).2).2=Q at h3 ib⊢
    obtain ⟨n4,h4⟩:=qHT hs [41] (by simp) Q.2 ib.1
    refine ⟨n1+n2+n3+n4+1,fun n hn=>?_⟩
    obtain ⟨k,rfl,hm⟩:=up1 hn
    refine qA (h1 k (by omega)) (qO c1 (qA (h2 k (by omega)) (qD c2 (qA (h3 k (by omega)) (qA (h4 k (by omega)) ?_)))))
    cases c3:(sIs [41] Q.2).1 with
    |true=>rw [if_pos rfl];exact qO rfl rfl
    |false=>rw [if_neg (by simp)];exact qD rfl rfl
   |false=>
    rw [if_neg (by simp)]
    have e2:(sIs [40] (sIs [45] q).2).2=(tb q.1,q.2):=by
     rw [qSF c2,qSF c1];simp only [qCe]
    rw [e2] at h2
    have t:=qNe q
    have it:=hi.go t
    obtain ⟨n3,h3⟩:=qHT hs [34] (by simp) (tb q.1,q.2) it.1
    simp only
    cases c3:(sIs [34] (tb q.1,q.2)).1 with
    |true=>
     rw [if_pos rfl]
     have b:=qFK (by simp) c3
     have ib:=it.go b
     have eq2:(sIs [34] (tb q.1,q.2)).2.2=q.2:=by obtain ⟨_,e,_⟩:=qL1 c3;rw [e]
     obtain ⟨n4,h4⟩:=qU2 hs (sIs [34] (tb q.1,q.2)).2 ib.1 (by have:=ib.2;omega)
     refine ⟨n1+n2+n3+n4+1,fun n hn=>?_⟩
     obtain ⟨k,rfl,hm⟩:=up1 hn
     refine qA (h1 k (by omega)) (qO c1 (qA (h2 k (by omega)) (qO c2 (qA (h3 k (by omega)) (qD c3 (qA (h4 k (by omega)) ?_))))))
     rw [qC,eq2]
     all_goals (cases qCJ [] (sIs [34] (tb q.1,q.2)).2.1<;>rfl)
    |false=>
     rw [if_neg (by simp)]
     have e3:(sIs [34] (tb q.1,q.2)).2=(tb q.1,q.2):=by rw [qSF c3];simp only [qCe]
     rw [e3] at h3
     obtain ⟨n4,h4⟩:=qHT hs [35] (by simp) (tb q.1,q.2) it.1
     cases c4:(sIs [35] (tb q.1,q.2)).1 with
     |true=>
      rw [if_pos rfl]
      have b:=qFK (by simp) c4
      have ib:=it.go b
      have eq2:(sIs [35] (tb q.1,q.2)).2.2=q.2:=by obtain ⟨_,e,_⟩:=qL1 c4;rw [e]
      obtain ⟨n5,h5⟩:=qVd hs (sIs [35] (tb q.1,q.2)).2.1 ib.1 q.2.1 q.2.2 (by have:=hi.2;omega)
      have h4:=fun k hk=>h4 k hk
      refine ⟨n1+n2+n3+n4+n5+1,fun n hn=>?_⟩
      obtain ⟨k,rfl,hm⟩:=up1 hn
      have h4:=h4 k (by omega)
      have h5:=h5 k (by omega) k (by omega)
      have e4:qC2 s (sIs [35] (tb q.1,q.2)).2=(BR s,pos s (sIs [35] (tb q.1,q.2)).2.1,q.2.1,q.2.2.length,q.2.2.map qa):=by unfold qC2;rw [eq2]
      rw [e4] at h4
      refine qA (h1 k (by omega)) (qO c1 (qA (h2 k (by omega)) (qO c2 (qA (h3 k (by omega)) (qO c3 (qA h4 (qD c4 (qA h5 ?_))))))))
      cases qTK (sIs [35] (tb q.1,q.2)).2.1 1 5<;>rfl
     |false=>
      rw [if_neg (by simp)]
      have e4:(sIs [35] (tb q.1,q.2)).2=(tb q.1,q.2):=by rw [qSF c4];simp only [qCe]
      rw [e4] at h4
      obtain ⟨n5,h5⟩:=qQu hs (tb q.1,q.2) it.1
      have w:=qSE q
      have iw:=hi.go w
      have htl:=qAD q.1
      obtain ⟨n6,h6⟩:=qHT hs [40] (by simp) (wr (tb q.1),q.2) iw.1
      obtain ⟨n7,h7⟩:=qVe
      obtain ⟨n9,h9⟩:=qSG H (s:=s) (tb q.1) (wr (tb q.1),q.2) (by omega) (by have:=hi.2;simp only;omega)
      have gi:=qK5 [40] (wr (tb q.1),q.2)
      cases hf:qGi (wd (tb q.1)) 1 10 with
      |none=>
       simp only
       refine ⟨n1+n2+n3+n4+n5+n6+n7+n9+12+1,fun n hn=>?_⟩
       obtain ⟨k,rfl,hm⟩:=up1 hn
       have lp:=qLF (g:=qc k) (s:=s) (wd (tb q.1)) (wr (tb q.1),q.2) (fun _=>(0,q)) (h7 k (by omega)) (h6 k (by omega)) 10 1 k (by omega) (by omega) (by omega) (fun op h=>by rw [hf] at h;cases h)
       rw [hf] at lp
       exact qA (h1 k (by omega)) (qO c1 (qA (h2 k (by omega)) (qO c2 (qA (h3 k (by omega)) (qO c3 (qA (h4 k (by omega)) (qO c4 (qA (h5 k (by omega)) (qA lp (h9 k (by omega)))))))))))
      |some op=>
       have wne:wd (tb q.1)≠ []:=fun e=>by rw [e,H.f0] at hf;cases hf
       have wlt:=qWO wne
       simp only
       cases c5:(sIs [40] (wr (tb q.1),q.2)).1 with
       |true=>
        rw [if_pos rfl]
        have il:=qUM (by simp) c5
        simp only at il
        obtain ⟨x,hx,n8,h8⟩:=qFc H hs f (.call op []) (sIs [40] (wr (tb q.1),q.2)).2 (.inr (by omega)) (iw.go gi) (.inr (by have:=qB4 (w.tr0 gi);simp only [List.length_nil];omega))
        have hcall:Ev (qIc · op (BR s) (pos s (sIs [40] (wr (tb q.1),q.2)).2.1) (sIs [40] (wr (tb q.1),q.2)).2.2.1 (sIs [40] (wr (tb q.1),q.2)).2.2.2.length ((sIs [40] (wr (tb q.1),q.2)).2.2.2.map qa)) (qCf s (sP f (.call op []) (sIs [40] (wr (tb q.1),q.2)).2)):=by
         refine ⟨n8+1,fun n hn=>?_⟩
         obtain ⟨k,rfl,hm⟩:=up1 hn
         have h8:=h8 k (by omega) k (by omega)
         rcases hx with rfl|⟨rfl,hz⟩
         ·exact qA h8 rfl
         ·refine qA h8 ?_
          show some ((0:Int),qC2 s _)=some (_,qC2 s _)
          rw [hz]
        obtain ⟨n10,h10⟩:=hcall
        refine ⟨n1+n2+n3+n4+n5+n6+n7+n10+12+1,fun n hn=>?_⟩
        obtain ⟨k,rfl,hm⟩:=up1 hn
        have lp:=qLF (g:=qc k) (s:=s) (wd (tb q.1)) (wr (tb q.1),q.2) (fun op=>sP f (.call op []) (sIs [40] (wr (tb q.1),q.2)).2) (h7 k (by omega)) (h6 k (by omega)) 10 1 k (by omega) (by omega) (by omega) (fun op' h _=>by rw [hf] at h;cases h;exact h10 k (by omega))
        rw [hf] at lp
        simp only at lp
        rw [if_pos c5] at lp
        exact qA (h1 k (by omega)) (qO c1 (qA (h2 k (by omega)) (qO c2 (qA (h3 k (by omega)) (qO c3 (qA (h4 k (by omega)) (qO c4 (qA (h5 k (by omega)) (qA lp rfl)))))))))
       |false=>
        rw [if_neg (by simp)]
        obtain ⟨v1,v2⟩:=H.f _ _ hf
        obtain ⟨n9,h9⟩:=qSG H (s:=s) (tb q.1) (sIs [40] (wr (tb q.1),q.2)).2 (by omega) (by have:=(iw.go gi).2;omega)
        have er:qQx (wd (tb q.1)) (sIs [40] (wr (tb q.1),q.2)).2=(0,qMg (sIs [40] (wr (tb q.1),q.2)).2):=by
         unfold qQx
         rw [if_neg (fun h=>by rw [v1] at h;cases h.1),if_neg (by rw [v2];simp)]
        rw [er] at h9
        refine ⟨n1+n2+n3+n4+n5+n6+n7+n9+12+1,fun n hn=>?_⟩
        obtain ⟨k,rfl,hm⟩:=up1 hn
        have lp:=qLF (g:=qc k) (s:=s) (wd (tb q.1)) (wr (tb q.1),q.2) (fun _=>(0,q)) (h7 k (by omega)) (h6 k (by omega)) 10 1 k (by omega) (by omega) (by omega) (fun op' h h'=>by rw [c5] at h';cases h')
        rw [hf] at lp
        simp only at lp
        rw [if_neg (by rw [c5];simp)] at lp
        exact qA (h1 k (by omega)) (qO c1 (qA (h2 k (by omega)) (qO c2 (qA (h3 k (by omega)) (qO c3 (qA (h4 k (by omega)) (qO c4 (qA (h5 k (by omega)) (qA lp (h9 k (by omega)))))))))))
 |f+1,.call op kids,q,ha,hi,hk=>by
  have hr:q.1.length≤1000:=Nat.le_trans (qDQ hi.1) hs
  unfold sP
  by_cases hb:q.2.1=true
  ·rw [if_pos hb]
   refine ⟨.inr (qC2 s q),.inr ⟨rfl,rfl⟩,1,fun n hn M hM=>?_⟩
   obtain ⟨M,rfl,hM⟩:=up1 hM
   exact qP (qO (qA1 hb) rfl)
  ·have hk:kids.length+q.1.length≤1500:=hk.elim (fun h=>absurd h hb) id
   have ha:20*(tb q.1).length+12≤f+1:=ha.elim (fun h=>absurd h.1 hb) id
   have hb:q.2.1=false:=by rw [Bool.eq_false_iff];exact hb
   rw [if_neg (by rw [hb];simp)]
   simp only
   have a:=qFO H f .arg q hr trivial
   obtain ⟨n1,h1⟩:=qFc H hs f .arg q (by show 20*_+10≤f;omega) hi trivial
   generalize sP f .arg q=A at a h1⊢
   have ia:=hi.go a
   have ta:=a.tb
   have ra:=qB4 a
   obtain ⟨n2,h2⟩:=qHT hs [41] (by simp) A.2 ia.1
   have kl:decide (kids.length=(kids.map qAC).length∧0<1∧0<8∧(kids.length+([[(PV.i .i64 A.1)]]:List (List PV)).length)*8≤140737488355328∧([[(PV.i .i64 A.1)]]:List (List PV)).all (fun e=>e.length==1)=true)=true:=decide_eq_true ⟨by simp,by decide,by decide,by simp;omega,rfl⟩
   have k1:(kids++ [A.1]).length=kids.length+1:=by simp
   have k2:(kids++ [A.1]).map qAC=kids.map qAC++ [[PV.i .i64 A.1]]:=by simp [qAC]
   cases c1:(sIs [41] A.2).1 with
   |true=>
    rw [if_pos rfl]
    have g:=a.trans (qFK (by simp) c1)
    obtain ⟨n3,h3⟩:=qK4 (s:=s) (ndK 6 op (kids++ [A.1])) (sIs [41] A.2).2 (by have:=(hi.go g).2;omega) (qJV (by simp;omega))
    refine ⟨.inl (qCf s (qEJ (ndK 6 op (kids++ [A.1])) (sIs [41] A.2).2)),.inl rfl,n1+n2+n3+1,fun n hn M hM=>?_⟩
    obtain ⟨M,rfl,hM⟩:=up1 hM
    have h3:_=some _:=h3 n (by omega)
    simp only [ndK,kd] at h3
    rw [k2] at h3
    exact qP (qD (qCv hb) (qA (h1 n (by omega)) (qD rfl (qD kl (qA (h2 n (by omega)) (qD c1 (qD (decide_eq_true (by simp)) (qA h3 rfl))))))))
   |false=>
    rw [if_neg (by simp)]
    have g:=a.tr0 (qK5 [41] A.2)
    have gt:=(qK5 [41] A.2).tb
    have i2:=hi.go g
    obtain ⟨n3,h3⟩:=qHT hs [44] (by simp) (sIs [41] A.2).2 i2.1
    cases c2:(sIs [44] (sIs [41] A.2).2).1 with
    |true=>
     rw [if_pos rfl]
     have b:=qFK (by simp) c2
     have bl:=qUM (by simp) c2
     have bs:=qB4 (g.trans b)
     have b1:=b.sum
     have eq3:(sIs [44] (sIs [41] A.2).2).2.2=(sIs [41] A.2).2.2:=by obtain ⟨_,e,_⟩:=qL1 c2;rw [e]
     rw [eq3] at b1
     have g0:=qB4 g
     obtain ⟨x,hx,n4,h4⟩:=qFc H hs f (.call op (kids++ [A.1])) (sIs [44] (sIs [41] A.2).2).2 (.inr (by omega)) (i2.go b) (.inr (by rw [k1];omega))
     refine ⟨x,hx,n1+n2+n3+n4+1,fun n hn M hM=>?_⟩
     obtain ⟨M,rfl,hM⟩:=up1 hM
     have h4:=h4 n (by omega) M (by omega)
     rw [k1,k2] at h4
     rw [qU (v':=(op,kids.length+1,kids.map qAC++ [[PV.i .i64 A.1]],qC2 s (sIs [44] (sIs [41] A.2).2).2)) (by
      exact qD (qCv hb) (qA (h1 n (by omega)) (qD rfl (qD kl (qA (h2 n (by omega)) (qO c1 (qA (h3 n (by omega)) (qO (qA1 c2) rfl))))))))]
     exact h4
    |false=>
     rw [if_neg (by simp)]
     have b:=qK5 [44] (sIs [41] A.2).2
     obtain ⟨x,hx,n4,h4⟩:=qFc H hs f (.call op (kids++ [A.1])) (qMg (sIs [44] (sIs [41] A.2).2).2) (.inl ⟨rfl,by omega⟩) (i2.go (qQw b)) (.inl rfl)
     refine ⟨x,hx,n1+n2+n3+n4+1,fun n hn M hM=>?_⟩
     obtain ⟨M,rfl,hM⟩:=up1 hM
     have h4:=h4 n (by omega) M (by omega)
     rw [k1,k2] at h4
     rw [qU (v':=(op,kids.length+1,kids.map qAC++ [[PV.i .i64 A.1]],qC2 s (qMg (sIs [44] (sIs [41] A.2).2).2))) (by
      exact qD (qCv hb) (qA (h1 n (by omega)) (qD rfl (qD kl (qA (h2 n (by omega)) (qO c1 (qA (h3 n (by omega)) (qD (qCv c2) rfl))))))))]
     exact h4
 |f+1,.arg,q,ha,hi,_=>by
  replace ha:20*(tb q.1).length+10≤f+1:=ha
  have hr:q.1.length≤1000:=Nat.le_trans (qDQ hi.1) hs
  have htl:=qAD q.1
  unfold sP
  simp only
  have t:=qNe q
  have it:=hi.go t
  have w:=qSE q
  have iw:=hi.go w
  obtain ⟨n1,h1⟩:=qSs hs q hi.1
  obtain ⟨n2,h2⟩:=qQu hs (tb q.1,q.2) it.1
  obtain ⟨n3,h3⟩:=srp (tb q.1) (by omega)
  obtain ⟨n4,h4⟩:=qHT hs [58] (by simp) (wr (tb q.1),q.2) iw.1
  have eq2:(sIs [58] (wr (tb q.1),q.2)).2.2=q.2:=by
   cases c:(sIs [58] (wr (tb q.1),q.2)).1 with
   |true=>obtain ⟨_,e,_⟩:=qL1 c;rw [e]
   |false=>rw [qSF c]
  by_cases hc:(qA6 (BR (wd (tb q.1)))).2.2.2.2=true∧(sIs [58] (wr (tb q.1),q.2)).1=true
  ·rw [if_pos hc]
   have g:=w.trans (qFK (by simp) hc.2)
   have ig:=hi.go g
   have rg:=qB4 g
   generalize sIs [58] (wr (tb q.1),q.2)=I at*
   have gt:=qNe I.2
   have gw:=qSE I.2
   have il:=qAD I.2.1
   obtain ⟨n5,h5⟩:=qSs hs I.2 ig.1
   obtain ⟨n6,h6⟩:=qQu hs (tb I.2.1,I.2.2) (ig.go gt).1
   obtain ⟨n7,h7⟩:=srp (tb I.2.1) (by omega)
   cases hp:(qA6 (BR (wd (tb I.2.1)))).2.2.2.2 with
   |true=>
    rw [if_pos rfl]
    obtain ⟨n8,h8⟩:=qK4 (s:=s) (ndA (qA6 (BR (wd (tb q.1)))) (qA6 (BR (wd (tb I.2.1))))) (wr (tb I.2.1),I.2.2) (by have:=(ig.go gw).2;simp only at this⊢;omega) ⟨by simp [kd,ndA],by simp [ndA,em];decide⟩
    refine ⟨n1+n2+n3+n4+n5+n6+n7+n8+1,fun n hn=>?_⟩
    obtain ⟨k,rfl,hm⟩:=up1 hn
    exact qA (h1 k (by omega)) (qA (h2 k (by omega)) (qA (h3 k (by omega)) (qD hc.1 (qA (h4 k (by omega)) (qD hc.2 (qA (h5 k (by omega)) (qA (h6 k (by omega)) (qA (h7 k (by omega)) (qO (qA1 hp) (qA (h8 k (by omega)) rfl))))))))))
   |false=>
    rw [if_neg (by simp)]
    refine ⟨n1+n2+n3+n4+n5+n6+n7+1,fun n hn=>?_⟩
    obtain ⟨k,rfl,hm⟩:=up1 hn
    exact qA (h1 k (by omega)) (qA (h2 k (by omega)) (qA (h3 k (by omega)) (qD hc.1 (qA (h4 k (by omega)) (qD hc.2 (qA (h5 k (by omega)) (qA (h6 k (by omega)) (qA (h7 k (by omega)) (qD (qCv hp) rfl)))))))))
  ·rw [if_neg hc]
   obtain ⟨n5,h5⟩:=qFc H hs f (.row 1) (tb q.1,q.2) ⟨by simp only [qCe];omega,by omega,by omega⟩ it trivial
   refine ⟨n1+n2+n3+n4+n5+1,fun n hn=>?_⟩
   obtain ⟨k,rfl,hm⟩:=up1 hn
   cases hp:(qA6 (BR (wd (tb q.1)))).2.2.2.2 with
   |true=>
    have ht:(sIs [58] (wr (tb q.1),q.2)).1=false:=by rw [Bool.eq_false_iff];exact fun e=>hc ⟨hp,e⟩
    have h4:=h4 k (by omega)
    have e4:qC2 s (sIs [58] (wr (tb q.1),q.2)).2=(BR s,pos s (sIs [58] (wr (tb q.1),q.2)).2.1,q.2.1,q.2.2.length,q.2.2.map qa):=by unfold qC2;rw [eq2]
    rw [e4] at h4
    exact qA (h1 k (by omega)) (qA (h2 k (by omega)) (qA (h3 k (by omega)) (qD hp (qA h4 (qO ht (qA (h5 k (by omega)) rfl))))))
   |false=>exact qA (h1 k (by omega)) (qA (h2 k (by omega)) (qA (h3 k (by omega)) (qO hp (qA (h5 k (by omega)) rfl))))
theorem qUe {w:List UInt8} (h:w.all wch=true) (hn:w≠ []):(qBN (BR w)).1=1∨(qBN (BR w)).1=3:=by
 cases w with
 |nil=>exact absurd rfl hn
 |cons c t=>
  simp only [List.all_cons,Bool.and_eq_true] at h
  have h39:¬(c::t).head?=some 39:=by
   intro e;simp at e;rw [e] at h;exact absurd h.1 (by decide)
  have h35:¬(c::t).head?=some 35:=by
   intro e;simp at e;rw [e] at h;exact absurd h.1 (by decide)
  unfold qBN
  rw [qAQ,if_neg h39]
  split
  ·exact .inr rfl
  ·split
   ·exact .inr rfl
   ·exact .inl rfl
theorem qV5:RdOK where
 v:=fun w h hn ho=>by
  have c:=qUe h hn
  unfold qh at ho⊢
  split at ho
  ·rename_i hc;rw [if_pos hc];exact c
  ·cases ho
 v0:=by
  have:(qh (BR [])).1=0:=by
   have:(qh ⟨#[]⟩).1=0:=by decide+kernel
   exact this
  rw [this];decide
 p0:=by
  have:(qA6 ⟨#[]⟩).2.2.2.2=false:=by decide+kernel
  exact this
 f:=fun w op h=>by
  have t:∀a:Fin 10,(qh (fnS (((a.val:Nat):Int)+1))).2.2.2=false∧(qA6 (fnS (((a.val:Nat):Int)+1))).2.2.2.2=false:=by decide+kernel
  have e:∀(k:Nat) (i:Int),1≤i→i+k≤11→qGi w i k=some op→∃j:Int,1≤j∧j≤10∧(fnS j).toList=w:=by
   intro k
   induction k with
   |zero=>intro i _ _ h;cases h
   |succ k ih=>
    intro i h1 h2 h
    unfold qGi at h
    split at h
    ·rename_i hq;exact ⟨i,h1,by omega,hq⟩
    ·exact ih (i+1) (by omega) (by omega) h
  obtain ⟨j,j1,j2,rfl⟩:=e 10 1 (by omega) (by omega) h
  rw [qJx]
  have:=t ⟨(j-1).toNat,by omega⟩
  simp only at this
  rwa [show (((j-1).toNat:Nat):Int)+1=j by omega] at this
 f0:=by decide+kernel
 n:=fun n hn=>by
  have c:n=1∨n=2∨n=3∨n=4∨n=5:=by omega
  rcases c with rfl|rfl|rfl|rfl|rfl
  ·exact ⟨[68,73,86,33],by decide+kernel⟩
  ·exact ⟨[84,89,80,69,33],by decide+kernel⟩
  ·exact ⟨[82,69,70,33],by decide+kernel⟩
  ·exact ⟨[79,86,69,82,33],by decide+kernel⟩
  ·exact ⟨[67,89,67,76,69,33],by decide+kernel⟩
def qSH (s:ByteArray):PS:=(pP 4050 (.bin 1 0) (s.toList,false,[])).2
def qBj (s:ByteArray):List Nd×Bool:=
 if qCz s 200=true∧(qSH s).2.1=false∧tb (qSH s).1= []∧qF1 (qSH s).2.2=true then ((qSH s).2.2,true) else ([],false)
theorem qLG {s:ByteArray} (h:qCz s 200=true):s.toList.length≤200:=by
 unfold qCz at h
 simp only [Bool.and_eq_true,decide_eq_true_eq] at h
 rw [qAZ];omega
theorem qTv {s:ByteArray} (h:qCz s 200=true):Gd (s.toList,false,[]):=⟨by have:=qLG h;simp only;omega,by simp,fun x hx=>by cases hx⟩
theorem qLH {l:List Nd} (h:∀x∈l,qRi x):∀c∈l,(kd c).length≤140737488351232∧c.2.2.2.2.1.size≤140737488351232:=fun c hc=>by
 have:=h c hc
 exact ⟨by have:=this.1;omega,by have:=this.2;omega⟩
theorem qLk (s:ByteArray) (hb:s.size≤140737488351232):Ev (qEe · s) ((qBj s).1.map qa,(qBj s).2):=by
 obtain ⟨n1,h1⟩:=qKr s 200 hb
 by_cases hp:qCz s 200=true
 ·have hl:=qLG hp
  have htb:=qAD s.toList
  have hg:=qTv hp
  obtain ⟨n2,h2⟩:=qFb 4050 (.bin 1 0) (s.toList,false,[]) (by show 20*(tb s.toList).length+6≤4050;omega) ⟨by decide,by decide⟩ hg trivial
  have g:=(qFN 4050 (.bin 1 0) (s.toList,false,[]) hg trivial).1
  have e0:(pP 4050 (.bin 1 0) (s.toList,false,[])).2=qSH s:=rfl
  rw [e0] at g
  generalize pP 4050 (.bin 1 0) (s.toList,false,[])=P at h2 e0
  rw [qJx] at h2
  unfold qBj
  rw [←e0] at g⊢
  obtain ⟨n3,h3⟩:=qHu P.2.1 P.2.2.2.length P.2.2.1 (P.2.2.2.map qa)
  obtain ⟨n4,h4⟩:=qHt P.2.2.2 (by have:=g.n;omega) (qLH g.s)
  refine ⟨n1+n2+n3+n4+1,fun n hn=>?_⟩
  obtain ⟨k,rfl,hm⟩:=up1 hn
  have h1:=h1 k (by omega)
  rw [hp] at h1
  refine qA h1 (qO rfl (qA (h2 k (by omega)) (qA (h3 k (by omega)) ?_)))
  by_cases hbad:P.2.2.1=true
  ·rw [if_neg (fun h=>by rw [hbad] at h;cases h.2.1)]
   exact qD hbad (qD rfl rfl)
  ·have hbad:P.2.2.1=false:=by rw [Bool.eq_false_iff];exact hbad
   refine qO hbad ?_
   by_cases hr:tb P.2.1= []
   ·refine qO (qA1 (by rw [beq_iff_eq,qAH];show (BR (tb P.2.1)).toList= [];rw [qAQ];exact hr)) (qD (decide_eq_true (by simp)) (qA (h4 k (by omega)) (qD (qF _) ?_)))
    cases ho:qF1 P.2.2.2 with
    |true=>
     rw [if_pos ⟨hp,hbad,hr,rfl⟩]
     exact qO rfl (qD (decide_eq_true (by simp)) rfl)
    |false=>
     rw [if_neg (fun h=>by cases h.2.2.2)]
     exact qD rfl (qD rfl rfl)
   ·rw [if_neg (fun h=>hr h.2.2.1)]
    exact qD (qCv (by rw [beq_eq_false_iff_ne,qAH];show (BR (tb P.2.1)).toList≠ [];rw [qAQ];exact hr)) (qD rfl rfl)
 ·refine ⟨n1+1,fun n hn=>?_⟩
  obtain ⟨k,rfl,hm⟩:=up1 hn
  unfold qBj
  rw [if_neg (fun h=>hp h.1)]
  exact qA (h1 k (by omega)) (qD (qCv (by rw [Bool.eq_false_iff];exact hp)) (qD rfl rfl))
theorem qUf {l:List Nd} (h:∃x∈l,qFM x=false):qF1 l=false:=by
 obtain ⟨x,hx,hb⟩:=h
 rw [Bool.eq_false_iff]
 intro ho
 unfold qF1 at ho
 simp only [Bool.and_eq_true] at ho
 obtain ⟨i,hi⟩:=List.mem_iff_getElem?.1 hx
 have hil:=(List.getElem?_eq_some_iff.1 hi).1
 have:=(qF0.1 ho.2.1 (i:Int) (by omega) (by omega)).1
 unfold qGh at this
 have e:ndi l (i:Int)=x:=by unfold ndi;simp [hi]
 rw [e,hb] at this
 cases this
theorem qLl (s:ByteArray) (hb:s.size≤140737488351232):Ev (qEZ · s) ((qBj s).1.map qa,(qBj s).2):=by
 obtain ⟨n1,h1⟩:=qJq s hb
 by_cases hp:qCz s 200=true
 ·have hl:=qLG hp
  have hs:s.toList.length≤1000:=by omega
  have htb:=qAD s.toList
  have hg:=qTv hp
  have gi:=(qFN 4050 (.bin 1 0) (s.toList,false,[]) hg trivial).1
  have sim:=(qVZ qV5 (tb s.toList).length).2.2.1 (s.toList,false,[]) (s.toList,false,[]) 0 4 4050 4050 (by omega) ⟨rfl,rfl,rfl,rfl⟩ rfl (by omega) (by omega) (by omega) (by omega)
  rw [show (5:Int)-((4:Nat):Int)=1 from rfl] at sim
  have iv:Iv s.toList (s.toList,false,[]):=⟨List.suffix_rfl,by simp;omega⟩
  obtain ⟨n2,h2⟩:=qFc qV5 hs 4050 (.row 1) (s.toList,false,[]) ⟨by simp only;omega,by omega,by omega⟩ iv trivial
  have g:=qFO qV5 4050 (.row 1) (s.toList,false,[]) hs trivial
  have e0:(pP 4050 (.bin 1 0) (s.toList,false,[])).2=qSH s:=rfl
  generalize pP 4050 (.bin 1 0) (s.toList,false,[])=P at sim e0 gi
  generalize sP 4050 (.row 1) (s.toList,false,[])=Q at sim h2 g
  unfold qBj
  rw [←e0]
  obtain ⟨n3,h3⟩:=qSs hs Q.2 (iv.go g).1
  obtain ⟨n4,h4⟩:=qHs Q.2.2.2 (qLH (g.sm (fun x hx=>by cases hx)))
  have p0:pos s.toList s.toList=0:=by unfold pos;simp
  simp only [qJx,p0] at h2 h3
  have g2:=(qTu (iv.go g).1)
  refine ⟨n1+n2+n3+n4+1,fun n hn=>?_⟩
  obtain ⟨k,rfl,hm⟩:=up1 hn
  have h1:=h1 k (by omega)
  rw [hp] at h1
  have h2:=h2 k (by omega)
  have h3:=h3 k (by omega)
  have e1:qCf s.toList Q=(Q.1,s,pos s.toList Q.2.1,Q.2.2.1,Q.2.2.2.length,Q.2.2.2.map qa):=by unfold qCf qC2;rw [qJx]
  have e2:qC2 s.toList (tb Q.2.1,Q.2.2)=(s,pos s.toList (tb Q.2.1),Q.2.2.1,Q.2.2.2.length,Q.2.2.2.map qa):=by unfold qC2;rw [qJx]
  rw [e1] at h2
  rw [e2] at h3
  refine qA h1 (qO rfl (qA h2 (qA h3 ?_)))
  rcases sim with ⟨_,hk,_⟩|⟨hbad,hd⟩
  ·obtain ⟨k1,k2,k3,k4⟩:=hk
   rw [k1,k3,k4]
   refine qO k2 ?_
   by_cases hr:tb Q.2.1= []
   ·refine qO (decide_eq_false (show ¬pos s.toList (tb Q.2.1)<(s.size:Int) by rw [hr];unfold pos;simp [qAZ])) (qD (decide_eq_true (by simp)) (qA (h4 k (by omega)) (qD (qF _) ?_)))
    cases ho:qF1 Q.2.2.2 with
    |true=>
     rw [if_pos ⟨hp,rfl,hr,rfl⟩]
     exact qO rfl (qD (decide_eq_true (by simp)) rfl)
    |false=>
     rw [if_neg (fun h=>by cases h.2.2.2)]
     exact qD rfl (qD rfl rfl)
   ·rw [if_neg (fun h=>hr h.2.2.1)]
    have hlp:=List.length_pos_iff.2 hr
    have hsl:=qDQ g2
    exact qD (decide_eq_true (show pos s.toList (tb Q.2.1)<(s.size:Int) by rw [qAZ] at hsl;unfold pos;rw [qAZ];omega)) (qD rfl rfl)
  ·rw [if_neg (fun h=>by
    rcases hd with hd|hd
    ·rw [hd] at h;cases h.2.1
    ·rw [qUf hd] at h;cases h.2.2.2)]
   exact qD hbad (qD rfl rfl)
 ·refine ⟨n1+1,fun n hn=>?_⟩
  obtain ⟨k,rfl,hm⟩:=up1 hn
  unfold qBj
  rw [if_neg (fun h=>hp h.1)]
  exact qA (h1 k (by omega)) (qD (qCv (by rw [Bool.eq_false_iff];exact hp)) (qD rfl rfl))
theorem qNf (s:ByteArray):(qBj s).1.length≤60∧∀x∈(qBj s).1,qRi x:=by
 unfold qBj
 split
 ·rename_i h
  have g:=(qFN 4050 (.bin 1 0) (s.toList,false,[]) (qTv h.1) trivial).1
  exact ⟨g.n,g.s⟩
 ·exact ⟨by simp,fun x hx=>by cases hx⟩
theorem qQy:∀(l:List UInt8) (acc:Nat) {u:Nat},l.all qBD=true→Lib.parseUintM (2^64-1) acc l= .ok u→u=qAk acc l
 | [],acc,u,_,h=>by simp only [Lib.parseUintM] at h;cases h;rfl
 |c::r,acc,u,hd,h=>by
  simp only [List.all_cons,Bool.and_eq_true] at hd
  have hc:=hd.1
  simp only [qBD,Bool.and_eq_true,decide_eq_true_eq] at hc
  unfold Lib.parseUintM at h
  rw [qD2]
  rw [if_pos hc] at h
  by_cases h1:1844674407370955162≤acc
  ·rw [if_pos h1] at h;cases h
  ·rw [if_neg h1] at h
   by_cases h2:2^64-1<acc*10+(c.toNat-48)
   ·rw [if_pos h2] at h;cases h
   ·rw [if_neg h2] at h
    exact qQy r _ hd.2 h
theorem qTw {p:UInt8→Bool}:∀l:List UInt8,(l.dropWhile p= [])↔l.all p=true
 | []=>by simp
 |c::r=>by
  rw [List.dropWhile_cons,List.all_cons]
  by_cases h:p c=true
  ·rw [if_pos h,h,Bool.true_and];exact qTw r
  ·rw [if_neg h];simp [h]
theorem qUO {p:UInt8→Bool}:∀(l:List UInt8) {a:UInt8} {r:List UInt8},l.dropWhile p=a::r→p a=false
 | [],a,r,h=>by simp at h
 |c::l,a,r,h=>by
  rw [List.dropWhile_cons] at h
  by_cases hc:p c=true
  ·rw [if_pos hc] at h;exact qUO l h
  ·rw [if_neg hc] at h
   cases h
   rw [Bool.eq_false_iff];exact hc
theorem qU6:∀i:Fin 256,((⟨#[48,49,50,51,52,53,54,55,56,57]⟩:ByteArray).data.toList.contains (UInt8.ofNat i.val))=qBD (UInt8.ofNat i.val):=by decide+kernel
theorem qNg {p:UInt8→Bool} {t:List UInt8}:((t.reverse.dropWhile p).reverse.dropWhile p= [])↔t.all p=true:=by
 rw [qTw]
 constructor
 ·intro h
  cases hx:t.reverse.dropWhile p with
  |nil=>
   rw [qTw] at hx
   rw [List.all_eq_true] at hx⊢
   exact fun x hx'=>hx x (by simpa using hx')
  |cons a r=>
   rw [List.all_eq_true] at h
   have h1:=h a (by rw [hx];simp)
   rw [qUO _ hx] at h1
   cases h1
 ·intro h
  rw [List.all_eq_true] at h⊢
  intro x hx
  rw [List.mem_reverse] at hx
  exact h x (by simpa using (List.dropWhile_suffix p).subset hx)
def qHX (s:List UInt8):List UInt8:=if s.head?=some 45 then s.tail else s
def qK6 (s:List UInt8):Int:=if s.head?=some 45 then-((qAk 0 (qHX s):Nat):Int) else ((qAk 0 (qHX s):Nat):Int)
def qRj (s:List UInt8):Bool:=decide (qHX s≠ [])&&(qHX s).all qBD
def qFL (s:List UInt8):Bool:=qRj s&&okV 1 (qK6 s) em
theorem qU7 (s:List UInt8):(qHX s).length≤s.length:=by unfold qHX;split<;>simp
theorem qTW (s:List UInt8) (h:s.length≤1000):Ev (qET · (BR s)) (qRj s):=by
 refine ⟨10,fun n hn=>?_⟩
 obtain ⟨k,rfl⟩:∃k,n=k+5:=⟨n-5,by omega⟩
 have tp:qDm (k+4) (BR s) ⟨#[45]⟩=some (BR (qHX s)):=by
  have hp:qAE (k+2) (BR s) ⟨#[45]⟩=some (List.isPrefixOf [45] s):=by
   have:=qBi (k+1) s [45]
   simp only [qn,qCF,qC,qE,qG,qH,qJ,qK,Option.bind_some,qF,qM,qN] at this
   have e:∀o:Option Bool,(o.bind fun x=>some x)=o:=fun o=>by cases o<;>rfl
   rw [e] at this
   exact this
  have inner:qBW (k+3) (BR s) ⟨#[45]⟩=some (BR (qHX s)):=by
   by_cases hh:s.head?=some 45
   ·rw [(qFJ 45 s).2 hh] at hp
    obtain ⟨t,rfl⟩:=qLD hh
    unfold qHX
    rw [if_pos hh]
    refine qA hp (qD rfl (qD (decide_eq_true ⟨by decide,by rw [qb];show (1:Int)≤_;simp;omega,Int.le_refl _⟩) ?_))
    rw [qC]
    show some ((BR (45::t)).extract 1 ((((BR (45::t)).size:Nat):Int)).toNat)=_
    rw [qGL,qb]
    simp
   ·have e:List.isPrefixOf [45] s=false:=by rw [Bool.eq_false_iff];exact fun e=>hh ((qFJ 45 s).1 e)
    rw [e] at hp
    unfold qHX
    rw [if_neg hh]
    exact qA hp (qO rfl rfl)
  exact qA inner rfl
 have tl:=qU7 s
 unfold qRj
 generalize qHX s=t at tp tl⊢
 refine qA tp ?_
 by_cases ht:t= []
 ·subst ht
  refine qO (qA1 (by rw [qAQ,qAH];rfl)) ?_
  rfl
 ·refine qD (qCv (by rw [beq_eq_false_iff_ne,qAQ,qAH];exact ht)) ?_
  have tr:qDn (k+4) (BR t) ⟨#[48,49,50,51,52,53,54,55,56,57]⟩=some (BR (((t.reverse.dropWhile qBD).reverse).dropWhile qBD)):=by
   show zm (BR t) ⟨#[48,49,50,51,52,53,54,55,56,57]⟩=_
   unfold zm
   rw [if_pos ⟨by rw [qb];omega,by decide,by decide+kernel⟩]
   unfold Lib.trimS Lib.trimLeftS Lib.trimRightS
   have:(fun c=>(⟨#[48,49,50,51,52,53,54,55,56,57]⟩:ByteArray).data.toList.contains c)=qBD:=funext (qSo qU6)
   rw [this,←Go.Lib.toList_data (BR t),qAQ]
   rfl
  refine qA tr ?_
  rw [qC]
  congr 1
  have dt:decide (t≠ [])=true:=decide_eq_true ht
  rw [dt,Bool.true_and,qAQ,qAH]
  by_cases ha:t.all qBD=true
  ·rw [qNg.2 ha,ha];rfl
  ·have hx:¬(t.reverse.dropWhile qBD).reverse.dropWhile qBD= []:=fun e=>ha (qNg.1 e)
   rw [beq_eq_false_iff_ne.2 hx,Bool.eq_false_iff.2 ha]
theorem qV6 {n:Int}:okV 1 n em=true↔-1000000000000000≤n∧n≤1000000000000000:=by
 simp [okV,em,qAH]
theorem qOo {s:List UInt8} (h:qRj s=true):(∀n,Lib.parseIntB 64 s= .ok n→n=qK6 s)∧(qFL s=true→Lib.parseIntB 64 s= .ok (qK6 s)):=by
 have hd:=h
 unfold qRj at hd
 simp only [Bool.and_eq_true,decide_eq_true_eq] at hd
 obtain ⟨h1,h2⟩:=hd
 have p:(2:Nat)^(64-1)=9223372036854775808:=by decide
 have hne:s≠ []:=fun e=>h1 (by rw [e];rfl)
 obtain ⟨c,r,rfl⟩:∃c r,s=c::r:=by
  cases s with
  |nil=>exact absurd rfl hne
  |cons c r=>exact ⟨c,r,rfl⟩
 have c45:(c.toNat=45)↔c=45:=⟨fun e=>UInt8.toNat_inj.1 (show c.toNat=(45:UInt8).toNat from e),fun e=>by rw [e];rfl⟩
 have nt:qHX (c::r)=if c.toNat=43∨c.toNat=45 then r else c::r:=by
  unfold qHX
  by_cases hc:c=45
  ·subst hc;simp
  ·have hc2:¬c.toNat=45:=fun e=>hc (c45.1 e)
   have ht:qHX (c::r)=c::r:=by unfold qHX;rw [if_neg (by simpa using hc)]
   rw [ht] at h2
   simp only [List.all_cons,Bool.and_eq_true,qBD,decide_eq_true_eq] at h2
   rw [if_neg (by simpa using hc),if_neg (by omega)]
 have nv:qK6 (c::r)=if c.toNat=45 then-((qAk 0 (qHX (c::r)):Nat):Int) else ((qAk 0 (qHX (c::r)):Nat):Int):=by
  unfold qK6
  by_cases hc:c=45
  ·subst hc;rfl
  ·rw [if_neg (by simpa using hc),if_neg (fun e=>hc (c45.1 e))]
 unfold Lib.parseIntB
 simp only
 rw [←nt]
 unfold Lib.parseUintB
 rw [if_neg h1]
 constructor
 ·intro n hn
  rcases hq:Lib.parseUintM (2^64-1) 0 (qHX (c::r)) with u|_|_
  rotate_left
  ·rw [hq] at hn;cases hn
  ·rw [hq] at hn;cases hn
  ·have hu:=qQy _ 0 h2 hq
   rw [hq] at hn
   simp only at hn
   split at hn
   ·cases hn
   ·split at hn
    ·cases hn
    ·injection hn with hn
     rw [nv,←hu,←hn]
 ·intro ho
  unfold qFL at ho
  simp only [Bool.and_eq_true] at ho
  have hb:=qV6.1 ho.2
  have hv:qAk 0 (qHX (c::r))≤1000000000000000:=by
   rw [nv] at hb
   split at hb<;>omega
  rw [qOX _ 0 h2 (by omega)]
  simp only
  rw [if_neg (by rw [p];omega),if_neg (by rw [p];omega),nv]
def szL:List UInt8→List UInt8
 | []=> []
 |c::t=>if t≠ []∧c=48 then szL t else c::t
theorem qPu:∀l:List UInt8,qAk 0 (szL l)=qAk 0 l
 | []=>rfl
 |c::t=>by
  unfold szL
  split
  ·rename_i h
   rw [qPu t,qD2,h.2]
   rfl
  ·rfl
theorem qSv:∀l:List UInt8,(szL l).all qBD=l.all qBD
 | []=>rfl
 |c::t=>by
  unfold szL
  split
  ·rename_i h
   rw [qSv t,List.all_cons,h.2]
   simp [qBD]
  ·rfl
theorem qVp:∀l:List UInt8,l≠ []→szL l≠ []
 | [],h=>absurd rfl h
 |c::t,_=>by
  unfold szL
  split
  ·rename_i h;exact qVp t h.1
  ·simp
theorem qSw:∀l:List UInt8,(szL l).head?=some 48→(szL l).length=1
 | [],h=>by cases h
 |c::t,h=>by
  unfold szL at h⊢
  split at h
  ·rename_i hc;rw [if_pos hc];exact qSw t h
  ·rename_i hc
   rw [if_neg hc]
   have h48:c=48:=by simpa using h
   have:t= []:=Classical.byContradiction fun e=>hc ⟨e,h48⟩
   rw [this];rfl
theorem qU8 {l:List UInt8} (h:l≠ []):qGX (szL l)=l.all qBD:=by
 unfold qGX
 rw [qSv]
 have h1:(szL l== [])=false:=beq_eq_false_iff_ne.2 (qVp l h)
 rw [h1]
 by_cases e:(szL l).head?=some 48
 ·rw [qSw l e];simp
 ·rw [beq_eq_false_iff_ne.2 e];simp
theorem qTX:∀(l:List UInt8) (acc:Nat),acc*10^l.length≤qAk acc l
 | [],acc=>by rw [qHL];simp
 |c::r,acc=>by
  have:=qTX r (acc*10+(c.toNat-48))
  rw [qD2,List.length_cons,Nat.pow_succ]
  refine Nat.le_trans ?_ this
  rw [show acc*(10^r.length*10)=acc*10*10^r.length by rw [Nat.mul_comm (10^r.length) 10,Nat.mul_assoc]]
  exact Nat.mul_le_mul_right _ (by omega)
theorem qV7 {l:List UInt8} (hd:l.all qBD=true) (h:16<(szL l).length):10000000000000000≤qAk 0 l:=by
 rw [←qPu]
 rw [←qSv] at hd
 have hh:=qSw l
 cases hz:szL l with
 |nil=>rw [hz] at h;simp at h
 |cons c r=>
  rw [hz] at h hd hh
  simp only [List.length_cons] at h
  have hc:¬c=48:=fun e=>by
   have:=hh (by rw [e];rfl)
   simp only [List.length_cons] at this
   omega
  simp only [List.all_cons,Bool.and_eq_true,qBD,decide_eq_true_eq] at hd
  have hc2:¬c.toNat=48:=fun e=>hc (UInt8.toNat_inj.1 (show c.toNat=(48:UInt8).toNat from e))
  rw [qD2]
  have a:=qTX r (0*10+(c.toNat-48))
  have p:10^16≤10^r.length:=Nat.pow_le_pow_right (by decide) (by omega)
  have p16:(10:Nat)^16=10000000000000000:=by decide
  have:1*10^r.length≤(0*10+(c.toNat-48))*10^r.length:=Nat.mul_le_mul_right _ (by omega)
  omega
theorem qNh (n:Nat) (neg:Bool) (a b:Int) (e:ByteArray):∀(l:List UInt8) (M:Nat),l.length≤1000→l.length+1≤M→zD (qBs n) M (BR l,neg,a,b,e)=some (BR (szL l),neg,a,b,e)
 |l,0,_,h=>by omega
 | [],M+1,_,_=>qP (qO (decide_eq_false (show ¬((BR []).size:Int)>1 by rw [qb];decide)) rfl)
 |c::t,M+1,hl,h=>by
  simp only [List.length_cons] at h hl
  unfold szL
  by_cases ht:t= []
  ·rw [if_neg (fun h=>h.1 ht)]
   subst ht
   exact qP (qO (decide_eq_false (show ¬((BR [c]).size:Int)>1 by rw [qb];simp)) rfl)
  ·have hpos:=List.length_pos_iff.2 ht
   have g0:decide (((BR (c::t)).size:Int)>1)=true:=decide_eq_true (by rw [qb];simp only [List.length_cons];omega)
   have g1:(BR (c::t)).toList[((0:Int)).toNat]?=some c:=by rw [qAQ];rfl
   by_cases hc:c=48
   ·rw [if_pos ⟨ht,hc⟩]
    subst hc
    rw [qU (v':=(BR t,neg,a,b,e)) (by
     refine qD g0 (qD rfl (qA g1 (qD rfl (qD (decide_eq_true ⟨by decide,by rw [qb];simp only [List.length_cons];omega,Int.le_refl _⟩) ?_))))
     rw [qC]
     show some (Sum.inl ((BR (48::t)).extract 1 ((((BR (48::t)).size:Nat):Int)).toNat,neg,a,b,e))=_
     rw [qGL,qb]
     simp)]
    exact qNh n neg a b e t M (by omega) (by omega)
   ·rw [if_neg (fun h=>hc h.2)]
    refine qP (qD g0 (qD rfl (qA g1 (qO ?_ rfl))))
    rw [beq_eq_false_iff_ne]
    intro e
    exact hc (UInt8.toNat_inj.1 (show c.toNat=48 by omega))
theorem qV8 {l:List UInt8} (h:l≠ []):l1I (szL l) 16=if (szL l).length≤16∧l.all qBD=true then (((qAk 0 l:Nat):Int),true) else (0,false):=by
 unfold l1I
 rw [qU8 h,qPu]
 by_cases hh:(szL l).length≤16∧l.all qBD=true
 ·rw [if_pos hh,if_pos ⟨by have:=hh.1;omega,hh.2⟩]
 ·rw [if_neg hh,if_neg (fun e=>hh ⟨by have:=e.1;omega,e.2⟩)]
theorem qTY (neg:Bool) (t:List UInt8) (ht:t≠ []) (hl:t.length≤1000):∃r:Int×Int×ByteArray×Bool,(r.2.2.2=(t.all qBD&&okV 1 (if neg=true then-((qAk 0 t:Nat):Int) else ((qAk 0 t:Nat):Int)) em))∧(r.2.2.2=true→r=(1,(if neg=true then-((qAk 0 t:Nat):Int) else ((qAk 0 t:Nat):Int)),em,true))∧
  ∃n0,∀n,n0≤n→∃v:ByteArray×Bool×Int×Int×ByteArray,zD (qBs n) n (BR t,neg,0,0,⟨#[]⟩)=some v∧
   (Tr.opt (qx n v.1 16) fun r221=>(.ask (v.2.1)
    (.ask (r221.2) (.opt (qY n 1 (IntKind.i64.wrap (0-r221.1)) ⟨#[]⟩) fun r222=>(.done ((1:Int),(IntKind.i64.wrap (0-r221.1)),(⟨#[]⟩:ByteArray),r222))) (.done ((1:Int),(IntKind.i64.wrap (0-r221.1)),(⟨#[]⟩:ByteArray),false)))
    (.ask (r221.2) (.opt (qY n 1 r221.1 ⟨#[]⟩) fun r223=>(.done ((1:Int),r221.1,(⟨#[]⟩:ByteArray),r223))) (.done ((1:Int),r221.1,(⟨#[]⟩:ByteArray),false))))).run=some r:=by
 have hi:=qEI (BR (szL t)) 16 (by decide)
 rw [qAQ,qV8 ht] at hi
 obtain ⟨n1,h1⟩:=hi
 by_cases hh:(szL t).length≤16∧t.all qBD=true
 ·have hv:qAk 0 t<10^(0+(szL t).length):=by
   have:=qSf (szL t) 0 0 (by rw [qSv];exact hh.2) (by decide)
   rwa [qPu] at this
  have hp:10^(0+(szL t).length)≤10^16:=Nat.pow_le_pow_right (by decide) (by omega)
  have p16:(10:Nat)^16=10000000000000000:=by decide
  have w1:IntKind.i64.wrap (0-((qAk 0 t:Nat):Int))= -((qAk 0 t:Nat):Int):=by rw [qT (by omega)];omega
  cases neg with
  |true=>
   obtain ⟨n2,h2⟩:=qAI 1 (-((qAk 0 t:Nat):Int)) em (by decide)
   refine ⟨(1,-((qAk 0 t:Nat):Int),em,okV 1 (-((qAk 0 t:Nat):Int)) em),by rw [hh.2];simp,fun e=>?_,n1+n2+t.length+1,fun n hn=>⟨_,qNh n true 0 0 _ t n hl (by omega),?_⟩⟩
   ·simp only at e;rw [e];rfl
   ·have h1:=h1 n (by omega)
    rw [if_pos hh] at h1
    have h2:=h2 n (by omega)
    rw [←w1] at h2
    refine qA h1 (qD rfl (qD rfl (qA h2 ?_)))
    rw [qC,w1];rfl
  |false=>
   obtain ⟨n2,h2⟩:=qAI 1 ((qAk 0 t:Nat):Int) em (by decide)
   refine ⟨(1,((qAk 0 t:Nat):Int),em,okV 1 ((qAk 0 t:Nat):Int) em),by rw [hh.2];simp,fun e=>?_,n1+n2+t.length+1,fun n hn=>⟨_,qNh n false 0 0 _ t n hl (by omega),?_⟩⟩
   ·simp only at e;rw [e];rfl
   ·have h1:=h1 n (by omega)
    rw [if_pos hh] at h1
    exact qA h1 (qO rfl (qD rfl (qA (h2 n (by omega)) rfl)))
 ·have hno:(t.all qBD&&okV 1 (if neg=true then-((qAk 0 t:Nat):Int) else ((qAk 0 t:Nat):Int)) em)=false:=by
   rw [Bool.eq_false_iff]
   intro e
   simp only [Bool.and_eq_true] at e
   have hb:=qV6.1 e.2
   have:16<(szL t).length:=by
    have:¬(szL t).length≤16:=fun h=>hh ⟨h,e.1⟩
    omega
   have:=qV7 e.1 this
   split at hb<;>omega
  cases neg with
  |true=>
   refine ⟨(1,IntKind.i64.wrap (0-0),em,false),hno.symm,(fun e=>by cases e),n1+t.length+1,fun n hn=>⟨_,qNh n true 0 0 _ t n hl (by omega),?_⟩⟩
   have h1:=h1 n (by omega)
   rw [if_neg hh] at h1
   exact qA h1 (qD rfl (qO rfl rfl))
  |false=>
   refine ⟨(1,0,em,false),hno.symm,(fun e=>by cases e),n1+t.length+1,fun n hn=>⟨_,qNh n false 0 0 _ t n hl (by omega),?_⟩⟩
   have h1:=h1 n (by omega)
   rw [if_neg hh] at h1
   exact qA h1 (qO rfl (qO rfl rfl))
theorem qTZ (s:List UInt8) (hs:s≠ []) (hl:s.length≤1000):∃r:Int×Int×ByteArray×Bool,r.2.2.2=qFL s∧(qFL s=true→r=(1,qK6 s,em,true))∧Ev (qGC · (BR s)) r:=by
 obtain ⟨c,t,rfl⟩:∃c t,s=c::t:=by
  cases s with
  |nil=>exact absurd rfl hs
  |cons c t=>exact ⟨c,t,rfl⟩
 simp only [List.length_cons] at hl
 have g0:decide (((BR (c::t)).size:Int)>0)=true:=decide_eq_true (by rw [qb];simp only [List.length_cons];omega)
 have g1:(BR (c::t)).toList[((0:Int)).toNat]?=some c:=by rw [qAQ];rfl
 by_cases hc:c=45
 ·subst hc
  have ext:(BR (45::t)).extract ((1:Int)).toNat ((((BR (45::t)).size:Nat):Int)).toNat=BR t:=by rw [qGL,qb];simp
  have g2:decide (0≤(1:Int)∧(1:Int)≤((BR (45::t)).size:Int)∧((BR (45::t)).size:Int)≤((BR (45::t)).size:Int))=true:=decide_eq_true ⟨by decide,by rw [qb];simp only [List.length_cons];omega,Int.le_refl _⟩
  have nt:qHX (45::t)=t:=rfl
  have nv:qK6 (45::t)= -((qAk 0 t:Nat):Int):=rfl
  by_cases ht:t= []
  ·subst ht
   refine ⟨(0,0,⟨#[]⟩,false),by decide+kernel,(fun e=>by revert e;decide+kernel),1,fun n hn=>?_⟩
   obtain ⟨k,rfl,hm⟩:=up1 hn
   exact qD g0 (qD rfl (qA g1 (qD rfl (qD g2 (qD (by rw [ext,qAQ,qAH];rfl) rfl)))))
  ·obtain ⟨r,r1,r2,n0,h0⟩:=qTY true t ht (by omega)
   have e:qFL (45::t)=(t.all qBD&&okV 1 (-((qAk 0 t:Nat):Int)) em):=by
    unfold qFL qRj
    rw [nt,nv,decide_eq_true ht,Bool.true_and]
   rw [if_pos rfl] at r1 r2
   refine ⟨r,by rw [e];exact r1,fun h=>by rw [nv];exact r2 (by rw [r1,←e];exact h),n0+1,fun n hn=>?_⟩
   obtain ⟨k,rfl,hm⟩:=up1 hn
   obtain ⟨v,lp,fin⟩:=h0 k (by omega)
   rw [←ext] at lp
   exact qD g0 (qD rfl (qA g1 (qD rfl (qD g2 (qO (by rw [ext,beq_eq_false_iff_ne,qAQ,qAH];exact ht) (qA lp fin))))))
 ·have c45:((c.toNat:Int)==45)=false:=by
   rw [beq_eq_false_iff_ne];intro e
   exact hc (UInt8.toNat_inj.1 (show c.toNat=45 by omega))
  have hh:¬(c::t).head?=some 45:=by simpa using hc
  have nt:qHX (c::t)=c::t:=by unfold qHX;rw [if_neg hh]
  have nv:qK6 (c::t)=((qAk 0 (c::t):Nat):Int):=by unfold qK6;rw [if_neg hh,nt]
  obtain ⟨r,r1,r2,n0,h0⟩:=qTY false (c::t) (by simp) (by simp only [List.length_cons];omega)
  have e:qFL (c::t)=((c::t).all qBD&&okV 1 (((qAk 0 (c::t):Nat):Int)) em):=by
   unfold qFL qRj
   rw [nt,nv,decide_eq_true (by simp),Bool.true_and]
  rw [if_neg (by simp)] at r1 r2
  refine ⟨r,by rw [e];exact r1,fun h=>by rw [nv];exact r2 (by rw [r1,←e];exact h),n0+1,fun n hn=>?_⟩
  obtain ⟨k,rfl,hm⟩:=up1 hn
  obtain ⟨v,lp,fin⟩:=h0 k (by omega)
  rw [←c45] at lp
  exact qD g0 (qD rfl (qA g1 (qO c45 (qO (by rw [beq_eq_false_iff_ne,qAQ,qAH];simp) (qA lp fin)))))
def qGM (s:ByteArray):ByteArray×Bool:=
 if qCz s 200=false then (⟨#[]⟩,false) else if s.toList= [] then (⟨#[]⟩,true) else
 if s.toList.head?=some 61 then (if (qBj (BR s.toList.tail)).2=true∧(qDJ (qBj (BR s.toList.tail)).1).toList≠ []∧(qDJ (qBj (BR s.toList.tail)).1).size<200 then (⟨#[61]⟩++qDJ (qBj (BR s.toList.tail)).1,true) else (⟨#[]⟩,false)) else
 if qFL s.toList=true then (qHV (qK6 s.toList),true) else
 if (qh s).2.2.2=true then (s,true) else
 if s.size=200 then (⟨#[]⟩,false) else (⟨#[39]⟩++s,true)
theorem qTx (t:ByteArray):Ev (qBr · ((qBj t).1.map qa)) (qDJ (qBj t).1):=qLi _ (by have:=(qNf t).1;omega) (qLH (qNf t).2)
theorem qTy (t:ByteArray):Ev (qBy · ((qBj t).1.map qa)) (qDJ (qBj t).1):=qLj _ (by have:=(qNf t).1;omega) (qLH (qNf t).2)
theorem qQz (l:List Nd):(qDJ l).size≤200:=by
 unfold qDJ
 split
 ·split
  ·decide
  ·omega
 ·decide
theorem qFP {s:ByteArray} (h:s.toList≠ []):(s.toList==(⟨#[]⟩:ByteArray).toList)=false:=by rw [qAH];exact beq_eq_false_iff_ne.2 h
theorem qQ0 {s:ByteArray} (h:s.toList= []):(s.toList==(⟨#[]⟩:ByteArray).toList)=true:=by rw [qAH];exact beq_iff_eq.2 h
theorem qTa {s:ByteArray} (h:(qh s).2.2.2=true):okV (qh s).1 (qh s).2.1 (qh s).2.2.1=true∧(qCI (qh s).1 (qh s).2.1 (qh s).2.2.1)=s:=by
 unfold qh at h⊢
 split at h
 ·rename_i hc
  rw [if_pos hc]
  exact ⟨hc.1,qFG hc.2⟩
 ·cases h
theorem qWT {s:ByteArray} (h:qCz s 200=true):okV 2 0 s=true:=by
 unfold okV
 rw [if_pos rfl,h]
 rfl
theorem qMh {s:ByteArray} (h:qCz s 200=true):s.size≤200:=by have:=qLG h;rw [qAZ] at this;exact this
theorem qU9 (s:ByteArray):(qCI 2 0 s).size=s.size+1:=by
 have e:qCI 2 0 s=⟨#[39]⟩++s:=rfl
 rw [e,ByteArray.size_append]
 show 1+s.size=_
 omega
theorem qUg {s:ByteArray} (h:(qh s).2.2.2=true):(qh s).2.2.1.size≤1000:=by
 obtain ⟨h1,h2⟩:=qTa h
 unfold okV at h1
 split at h1
 ·simp only [Bool.and_eq_true] at h1
  have:=qMh h1.2;omega
 ·simp only [Bool.and_eq_true,beq_iff_eq] at h1
  have:=congrArg List.length h1.1
  rw [qAZ] at this
  simp only [List.length_nil] at this
  omega
theorem qPl (s:ByteArray) (hb:s.size≤140737488355328):Ev (qEy · s) (qGM s):=by
 obtain ⟨n1,h1⟩:=qIl s hb
 unfold qGM
 cases hp:qCz s 200 with
 |false=>
  rw [if_pos rfl]
  refine ⟨n1+1,fun n hn=>?_⟩
  obtain ⟨k,rfl,hm⟩:=up1 hn
  exact qA (h1 k (by omega)) (qD (qCv hp) rfl)
 |true=>
  rw [if_neg (by simp)]
  have hsz:=qMh hp
  by_cases h0:s.toList= []
  ·rw [if_pos h0]
   refine ⟨n1+1,fun n hn=>?_⟩
   obtain ⟨k,rfl,hm⟩:=up1 hn
   exact qA (h1 k (by omega)) (qO (qA1 hp) (qD (qQ0 h0) rfl))
  ·rw [if_neg h0]
   obtain ⟨c,t,hct⟩:∃c t,s.toList=c::t:=by
    cases h:s.toList with
    |nil=>exact absurd h h0
    |cons c t=>exact ⟨c,t,rfl⟩
   have g1:s.toList[((0:Int)).toNat]?=some c:=by rw [hct];rfl
   have hl:s.size=t.length+1:=by rw [←qAZ,hct];rfl
   by_cases h61:s.toList.head?=some 61
   ·rw [if_pos h61]
    have hc:c=61:=by rw [hct] at h61;simpa using h61
    subst hc
    have ext:s.extract ((1:Int)).toNat (((s.size:Nat):Int)).toNat=BR s.toList.tail:=by
     conv=>lhs;rw [←qJx s]
     rw [qGL,qb,hct]
     simp
    obtain ⟨n2,h2⟩:=qLl (BR s.toList.tail) (by rw [qb,hct];simp;omega)
    obtain ⟨n3,h3⟩:=qTx (BR s.toList.tail)
    rw [←ext] at h2 h3⊢
    have fz:=qQz (qBj (s.extract ((1:Int)).toNat (((s.size:Nat):Int)).toNat)).1
    have w1:IntKind.i64.wrap (((qDJ (qBj (s.extract ((1:Int)).toNat (((s.size:Nat):Int)).toNat)).1).size:Int)+1)=((qDJ (qBj (s.extract ((1:Int)).toNat (((s.size:Nat):Int)).toNat)).1).size:Int)+1:=qT (by omega)
    refine ⟨n1+n2+n3+1,fun n hn=>?_⟩
    obtain ⟨k,rfl,hm⟩:=up1 hn
    refine qA (h1 k (by omega)) (qO (qA1 hp) (qO (qFP h0) (qD rfl (qA g1 (qD rfl (qD (decide_eq_true ⟨by decide,by omega,Int.le_refl _⟩) (qA (h2 k (by omega)) (qA (h3 k (by omega)) ?_))))))))
    by_cases hr:(qBj (s.extract ((1:Int)).toNat (((s.size:Nat):Int)).toNat)).2=true
    ·refine qO (qA1 hr) ?_
     by_cases he:(qDJ (qBj (s.extract ((1:Int)).toNat (((s.size:Nat):Int)).toNat)).1).toList= []
     ·rw [if_neg (fun h=>h.2.1 he)]
      exact qD (qQ0 he) rfl
     ·refine qO (qFP he) ?_
      by_cases hz:(qDJ (qBj (s.extract ((1:Int)).toNat (((s.size:Nat):Int)).toNat)).1).size<200
      ·rw [if_pos ⟨hr,he,hz⟩]
       exact qO (decide_eq_false (by rw [w1];omega)) (qD (decide_eq_true (by show 1+(qDJ (qBj (s.extract ((1:Int)).toNat (((s.size:Nat):Int)).toNat)).1).size≤9223372036854775807;omega)) rfl)
      ·rw [if_neg (fun h=>hz h.2.2)]
       exact qD (decide_eq_true (by rw [w1];omega)) rfl
    ·rw [if_neg (fun h=>hr h.1)]
     exact qD (qCv (by rw [Bool.eq_false_iff];exact hr)) rfl
   ·rw [if_neg h61]
    have hc:((c.toNat:Int)==61)=false:=by
     rw [beq_eq_false_iff_ne];intro e
     refine h61 ?_
     rw [hct,show c=61 from UInt8.toNat_inj.1 (show c.toNat=61 by omega)];rfl
    obtain ⟨r,r1,r2,n2,h2⟩:=qTZ s.toList h0 (by rw [qAZ];omega)
    rw [qJx] at h2
    obtain ⟨n3,h3⟩:=qHr s (by omega)
    cases hn:qFL s.toList with
    |true=>
     rw [if_pos rfl]
     have er:=r2 hn
     subst er
     have hok:okV 1 (qK6 s.toList) em=true:=by unfold qFL at hn;simp only [Bool.and_eq_true] at hn;exact hn.2
     obtain ⟨n4,h4⟩:=qDc 1 (qK6 s.toList) em (by decide)
     rw [if_pos hok] at h4
     refine ⟨n1+n2+n4+1,fun n hn=>?_⟩
     obtain ⟨k,rfl,hm⟩:=up1 hn
     exact qA (h1 k (by omega)) (qO (qA1 hp) (qO (qFP h0) (qD rfl (qA g1 (qO hc (qA (h2 k (by omega)) (qD rfl (qA (h4 k (by omega)) rfl))))))))
    |false=>
     rw [if_neg (by simp)]
     have rf:r.2.2.2=false:=by rw [r1];exact hn
     by_cases hv:(qh s).2.2.2=true
     ·rw [if_pos hv]
      obtain ⟨v1,v2⟩:=qTa hv
      obtain ⟨n4,h4⟩:=qDc (qh s).1 (qh s).2.1 (qh s).2.2.1 (by have:=qUg hv;omega)
      rw [if_pos v1,v2] at h4
      refine ⟨n1+n2+n3+n4+1,fun n hn=>?_⟩
      obtain ⟨k,rfl,hm⟩:=up1 hn
      exact qA (h1 k (by omega)) (qO (qA1 hp) (qO (qFP h0) (qD rfl (qA g1 (qO hc (qA (h2 k (by omega)) (qO rf (qA (h3 k (by omega)) (qO (qA1 hv) (qA (h4 k (by omega)) (qO (decide_eq_false (by omega)) rfl)))))))))))
     ·rw [if_neg hv]
      obtain ⟨n4,h4⟩:=qDc 2 0 s (by omega)
      rw [if_pos (qWT hp)] at h4
      have vz:=qU9 s
      refine ⟨n1+n2+n3+n4+1,fun n hn=>?_⟩
      obtain ⟨k,rfl,hm⟩:=up1 hn
      refine qA (h1 k (by omega)) (qO (qA1 hp) (qO (qFP h0) (qD rfl (qA g1 (qO hc (qA (h2 k (by omega)) (qO rf (qA (h3 k (by omega)) (qD (qCv (by rw [Bool.eq_false_iff];exact hv)) (qA (h4 k (by omega)) ?_))))))))))
      by_cases hz:s.size=200
      ·rw [if_pos hz]
       exact qD (decide_eq_true (by omega)) rfl
      ·rw [if_neg hz]
       exact qO (decide_eq_false (by omega)) rfl
theorem qTb (X:ByteArray):Ev (qGF · ((qBj X).1.map qa)) (⟨#[61]⟩++qDJ (qBj X).1,decide ((qDJ (qBj X).1).toList≠ [])&&decide ((qDJ (qBj X).1).size<200)):=by
 obtain ⟨n1,h1⟩:=qTy X
 have fz:=qQz (qBj X).1
 refine ⟨n1+1,fun n hn=>?_⟩
 obtain ⟨k,rfl,hm⟩:=up1 hn
 refine qA (h1 k (by omega)) (qD (decide_eq_true (by show 1+(qDJ (qBj X).1).size≤9223372036854775807;omega)) ?_)
 by_cases he:(qDJ (qBj X).1).toList= []
 ·refine qO (qA1 (qQ0 he)) ?_
  rw [qC,decide_eq_false (fun h=>h he),Bool.false_and]
 ·refine qD (qCv (qFP he)) ?_
  rw [qC,decide_eq_true he,Bool.true_and]
  have e:decide (((qDJ (qBj X).1).size:Int)<200)=decide ((qDJ (qBj X).1).size<200):=by rw [decide_eq_decide];omega
  exact congrArg (fun b:Bool=>some ((⟨#[61]⟩:ByteArray)++qDJ (qBj X).1,b)) e
theorem qPm (s:ByteArray) (hb:s.size≤140737488355328):Ev (qHJ · s) (qGM s):=by
 obtain ⟨n1,h1⟩:=qJr s 200 hb
 unfold qGM
 cases hp:qCz s 200 with
 |false=>
  rw [if_pos rfl]
  have h0:s.toList≠ []:=fun e=>by
   have:qCz s 200=true:=by
    unfold qCz
    have hz:s.size=0:=by rw [←qAZ,e];rfl
    rw [e,hz];rfl
   rw [hp] at this;cases this
  refine ⟨n1+1,fun n hn=>?_⟩
  obtain ⟨k,rfl,hm⟩:=up1 hn
  refine qA (h1 k (by omega)) (qD (qCv hp) ?_)
  rw [qC,qFP h0]
 |true=>
  rw [if_neg (by simp)]
  have hsz:=qMh hp
  by_cases h0:s.toList= []
  ·rw [if_pos h0]
   refine ⟨n1+1,fun n hn=>?_⟩
   obtain ⟨k,rfl,hm⟩:=up1 hn
   refine qA (h1 k (by omega)) (qO (qA1 hp) (qD (qQ0 h0) ?_))
   rw [qC,qQ0 h0]
  ·rw [if_neg h0]
   obtain ⟨n2,h2⟩:=qGf s 61
   by_cases h61:s.toList.head?=some 61
   ·rw [if_pos h61]
    rw [if_pos h61] at h2
    obtain ⟨n3,h3⟩:=qLk (BR s.toList.tail) (by rw [qb,List.length_tail,qAZ];omega)
    obtain ⟨n4,h4⟩:=qTb (BR s.toList.tail)
    change ∀n,n2≤n→qAK n s ⟨#[61]⟩=some (BR s.toList.tail,true) at h2
    generalize BR s.toList.tail=X at h2 h3 h4⊢
    refine ⟨n1+n2+n3+n4+1,fun n hn=>?_⟩
    obtain ⟨k,rfl,hm⟩:=up1 hn
    have h4:=h4 k (by omega)
    refine qA (h1 k (by omega)) (qO (qA1 hp) (qO (qFP h0) (qA (h2 k (by omega)) (qD rfl (qA (h3 k (by omega)) (qA h4 ?_))))))
    by_cases hr:(qBj X).2=true
    ·refine qO (qA1 hr) ?_
     by_cases he:(qDJ (qBj X).1).toList≠ []∧(qDJ (qBj X).1).size<200
     ·rw [if_pos ⟨hr,he⟩]
      exact qO (qA1 (by simp only;rw [decide_eq_true he.1,decide_eq_true he.2];rfl)) rfl
     ·rw [if_neg (fun h=>he h.2)]
      exact qD (qCv (by simp only;rw [Bool.eq_false_iff];intro e;simp only [Bool.and_eq_true,decide_eq_true_eq] at e;exact he e)) rfl
    ·rw [if_neg (fun h=>hr h.1)]
     exact qD (qCv (by rw [Bool.eq_false_iff];exact hr)) rfl
   ·rw [if_neg h61]
    rw [if_neg h61] at h2
    obtain ⟨n3,h3⟩:=qHq s (by omega)
    obtain ⟨n4,h4⟩:=qTW s.toList (by rw [qAZ];omega)
    rw [qJx] at h4
    have fin:∀k,n3≤k→(Tr.opt (qd k s) fun r=>(.ask (r.2.2.2) (.done (s,true)) (.ask (((s.size:Int)==(200:Int))) (.done ((⟨#[]⟩:ByteArray),false)) (.ask (decide ((⟨#[39]⟩:ByteArray).size+s.size≤9223372036854775807)) (.done (((⟨#[39]⟩:ByteArray)++s),true)) .fail)))).run=some (if (qh s).2.2.2=true then (s,true) else if s.size=200 then ((⟨#[]⟩:ByteArray),false) else (⟨#[39]⟩++s,true)):=fun k hk=>by
     refine qA (h3 k hk) ?_
     by_cases hv:(qh s).2.2.2=true
     ·rw [if_pos hv];exact qD hv rfl
     ·rw [if_neg hv]
      refine qO (by rw [Bool.eq_false_iff];exact hv) ?_
      by_cases hz:s.size=200
      ·rw [if_pos hz];exact qD (beq_iff_eq.2 (by omega)) rfl
      ·rw [if_neg hz]
       exact qO (beq_eq_false_iff_ne.2 (by omega)) (qD (decide_eq_true (by show 1+s.size≤9223372036854775807;omega)) rfl)
    have hpi:∀k,qA3 (k+1) s 10 64=zL s 10 64:=fun k=>rfl
    have hL:zL s 10 64=(match Lib.parseIntB 64 s.toList with
     | .ok v=>some (.inl v)
     | .range=>some (.inr (Lib.intSat 64 s.toList))
     |_=>some (.inr 0)):=by
     unfold zL
     rw [if_pos ⟨rfl,rfl,by omega⟩,Go.Lib.toList_data]
     cases Lib.parseIntB 64 s.data.toList<;>rfl
    rcases hq:Lib.parseIntB 64 s.toList with v|_|_
    rotate_left
    ·have hn:qFL s.toList=false:=by
      rw [Bool.eq_false_iff];intro e
      have hd:qRj s.toList=true:=by unfold qFL at e;simp only [Bool.and_eq_true] at e;exact e.1
      have:=(qOo hd).2 e
      rw [hq] at this;cases this
     rw [hn,if_neg (by simp)]
     rw [hq] at hL
     refine ⟨n1+n2+n3+2,fun n hn=>?_⟩
     obtain ⟨k,rfl,hm⟩:=up1 hn
     obtain ⟨k,rfl,hm⟩:=up1 (show n1+n2+n3+1≤k by omega)
     exact qA (h1 (k+1) (by omega)) (qO (qA1 hp) (qO (qFP h0) (qA (h2 (k+1) (by omega)) (qO rfl (qA ((hpi k).trans hL) (qO rfl (fin (k+1) (by omega))))))))
    ·have hn:qFL s.toList=false:=by
      rw [Bool.eq_false_iff];intro e
      have hd:qRj s.toList=true:=by unfold qFL at e;simp only [Bool.and_eq_true] at e;exact e.1
      have:=(qOo hd).2 e
      rw [hq] at this;cases this
     rw [hn,if_neg (by simp)]
     rw [hq] at hL
     refine ⟨n1+n2+n3+2,fun n hn=>?_⟩
     obtain ⟨k,rfl,hm⟩:=up1 hn
     obtain ⟨k,rfl,hm⟩:=up1 (show n1+n2+n3+1≤k by omega)
     exact qA (h1 (k+1) (by omega)) (qO (qA1 hp) (qO (qFP h0) (qA (h2 (k+1) (by omega)) (qO rfl (qA ((hpi k).trans hL) (qO rfl (fin (k+1) (by omega))))))))
    ·rw [hq] at hL
     cases hd:qRj s.toList with
     |false=>
      have hn:qFL s.toList=false:=by unfold qFL;rw [hd];rfl
      rw [hn,if_neg (by simp)]
      refine ⟨n1+n2+n3+n4+2,fun n hn=>?_⟩
      obtain ⟨k,rfl,hm⟩:=up1 hn
      obtain ⟨k,rfl,hm⟩:=up1 (show n1+n2+n3+n4+1≤k by omega)
      have h4:=h4 (k+1) (by omega)
      rw [hd] at h4
      exact qA (h1 (k+1) (by omega)) (qO (qA1 hp) (qO (qFP h0) (qA (h2 (k+1) (by omega)) (qO rfl (qA ((hpi k).trans hL) (qD rfl (qA h4 (qO rfl (fin (k+1) (by omega))))))))))
     |true=>
      have hv:=(qOo hd).1 v hq
      subst hv
      obtain ⟨n5,h5⟩:=qKs (qK6 s.toList)
      obtain ⟨n6,h6⟩:=qGI 1 (qK6 s.toList) em (by decide)
      have ei:qFL s.toList=okV 1 (qK6 s.toList) em:=by unfold qFL;rw [hd,Bool.true_and]
      rw [ei]
      cases ho:okV 1 (qK6 s.toList) em with
      |true=>
       rw [if_pos rfl]
       have hb2:=qV6.1 ho
       obtain ⟨n7,h7⟩:=qGK (qK6 s.toList) (by omega)
       refine ⟨n1+n2+n3+n4+n5+n6+n7+2,fun n hn=>?_⟩
       obtain ⟨k,rfl,hm⟩:=up1 hn
       obtain ⟨k,rfl,hm⟩:=up1 (show n1+n2+n3+n4+n5+n6+n7+1≤k by omega)
       have h4:=h4 (k+1) (by omega)
       rw [hd] at h4
       exact qA (h1 (k+1) (by omega)) (qO (qA1 hp) (qO (qFP h0) (qA (h2 (k+1) (by omega)) (qO rfl (qA ((hpi k).trans hL) (qD rfl (qA h4 (qD rfl (qA (h5 (k+1) (by omega)) (qA (h6 (k+1) (by omega)) (qD ho (qA (h7 (k+1) (by omega)) rfl))))))))))))
      |false=>
       rw [if_neg (by simp)]
       refine ⟨n1+n2+n3+n4+n5+n6+2,fun n hn=>?_⟩
       obtain ⟨k,rfl,hm⟩:=up1 hn
       obtain ⟨k,rfl,hm⟩:=up1 (show n1+n2+n3+n4+n5+n6+1≤k by omega)
       have h4:=h4 (k+1) (by omega)
       rw [hd] at h4
       exact qA (h1 (k+1) (by omega)) (qO (qA1 hp) (qO (qFP h0) (qA (h2 (k+1) (by omega)) (qO rfl (qA ((hpi k).trans hL) (qD rfl (qA h4 (qD rfl (qA (h5 (k+1) (by omega)) (qA (h6 (k+1) (by omega)) (qO ho (fin (k+1) (by omega)))))))))))))
abbrev Cl:=Int×Int×ByteArray
def qAB (c:Cl):List PV:= [.i .i64 c.1,.i .i64 c.2.1,.s c.2.2]
theorem qVf {rows:List (List PV)} (h:∀e∈rows,okR [.i .i64,.i .i64,.s] e):∃l:List Cl,rows=l.map qAB∧∀c∈l,c.2.2.size≤140737488351232:=by
 refine qKq (fun e h=>?_) h
 obtain ⟨c0,t0,rfl,p0,h⟩:=z0 h
 obtain ⟨c1,t1,rfl,p1,h1⟩:=z0 h
 obtain ⟨c2,t2,rfl,p2,h2⟩:=z0 h1
 obtain rfl:=zBz h2
 obtain ⟨x0,rfl,_⟩:=zE8 p0
 obtain ⟨x1,rfl,_⟩:=zE8 p1
 obtain ⟨x2,rfl,w⟩:=zJP p2
 exact ⟨(x0,x1,x2),rfl,w⟩
theorem qTz {l:List Cl} {i:Nat} {e:List PV} (h:(l.map qAB)[i]?=some e):∃c,l[i]?=some c∧e=qAB c:=by
 rw [List.getElem?_map] at h
 obtain ⟨c,h1,h2⟩:=Option.map_eq_some_iff.1 h
 exact ⟨c,h1,h2.symm⟩
def qLm (s:ByteArray):Bool:=(qGM s).2&&(decide (s.toList≠ [])&&((qGM s).1.toList==s.toList))
def qMi (l:List Cl) (i:Nat) (c:Cl):Bool:=match i with
 |0=>true
 |j+1=>match l[j]? with
  |some p=>qJs p.1 p.2.1 c.1 c.2.1
  |none=>true
def qK7 (l:List Cl):Nat→List Cl→Bool
 |_,[]=>true
 |i,c::r=>qBM c.1 c.2.1&&(qLm c.2.2&&qMi l i c)&&qK7 l (i+1) r
def qJW (l:List Cl):Bool:=qK7 l 0 l&&decide ((l.length:Int)≤120)
theorem qTc (s:ByteArray) (hb:s.size≤140737488355328):Ev (qDS · s) (qLm s):=by
 obtain ⟨n1,h1⟩:=qPm s hb
 refine ⟨n1+1,fun n hn=>?_⟩
 obtain ⟨k,rfl,hm⟩:=up1 hn
 refine qA (h1 k (by omega)) ?_
 unfold qLm
 by_cases h2:(qGM s).2=true
 ·refine qD h2 ?_
  rw [h2,Bool.true_and]
  by_cases h3:s.toList= []
  ·refine qO (qA1 (qQ0 h3)) ?_
   rw [qC,decide_eq_false (fun e=>e h3),Bool.false_and]
  ·refine qD (qCv (qFP h3)) ?_
   rw [qC,decide_eq_true h3,Bool.true_and]
 ·have h2:(qGM s).2=false:=by rw [Bool.eq_false_iff];exact h2
  refine qO h2 ?_
  rw [qC,h2,Bool.false_and]
structure SrcAt (n:Nat) (c:Cl):Prop where
 r1:qAO n c.1 c.2.1=some (qBM c.1 c.2.1)
 r2:qB1 n c.1 c.2.1=some (qBM c.1 c.2.1)
 i1:qEy n c.2.2=some (qGM c.2.2)
 i2:qDS n c.2.2=some (qLm c.2.2)
theorem qVA (c:Cl) (hb:c.2.2.size≤140737488351232):∃n0,∀n,n0≤n→SrcAt n c:=by
 obtain ⟨n1,h1⟩:=qC0 c.1 c.2.1
 obtain ⟨n2,h2⟩:=qDW c.1 c.2.1
 obtain ⟨n3,h3⟩:=qPl c.2.2 (by omega)
 obtain ⟨n4,h4⟩:=qTc c.2.2 (by omega)
 exact ⟨n1+n2+n3+n4,fun n hn=>⟨h1 n (by omega),h2 n (by omega),h3 n (by omega),h4 n (by omega)⟩⟩
theorem qSx:∀(l:List Cl),(∀c∈l,c.2.2.size≤140737488351232)→∃n0,∀n,n0≤n→∀c∈l,SrcAt n c
 | [],_=>⟨0,fun n _ c hc=>by cases hc⟩
 |a::l,h=>by
  obtain ⟨n1,h1⟩:=qVA a (h a (List.mem_cons_self ..))
  obtain ⟨n2,h2⟩:=qSx l fun c hc=>h c (List.mem_cons_of_mem _ hc)
  exact ⟨n1+n2,fun n hn c hc=>by
   rcases List.mem_cons.1 hc with rfl|hc
   ·exact h1 n (by omega)
   ·exact h2 n (by omega) c hc⟩
theorem qNi (n:Nat) (l:List Cl) (hb:l.length≤140737488351232) (hs:∀c∈l,SrcAt n c) (ha:∀a b c d,qDf n a b c d=some (qJs a b c d)):
  ∀(m i M:Nat),l.length=i+m→m+1≤M→zD (qEz n) M (l.map qAB,(i:Int))=some (if qK7 l i (l.drop i)=true then .inr () else .inl false)
 |m,i,0,h1,h2=>by omega
 |0,i,M+1,h1,h2=>by
  rw [List.drop_eq_nil_of_le (by omega)]
  exact qP (qO (decide_eq_false (show ¬((i:Int)<((l.map qAB).length:Int)) by rw [List.length_map];omega)) rfl)
 |m+1,i,M+1,h1,h2=>by
  have hl:i<l.length:=by omega
  have hg:=List.getElem?_eq_getElem hl
  have hm:=List.getElem_mem hl
  rw [qDV hg]
  generalize l[i]=c at hg hm
  have S:=hs c hm
  have hw:IntKind.i64.wrap ((i:Int)+1)=((i+1:Nat):Int):=by rw [qT (by omega)];omega
  have g1:decide ((i:Int)<((l.map qAB).length:Int))=true:=decide_eq_true (by rw [List.length_map];omega)
  have g2:decide (0≤(i:Int)∧(i:Int)<((l.map qAB).length:Int))=true:=decide_eq_true ⟨by omega,by rw [List.length_map];omega⟩
  have g3:(l.map qAB)[((i:Int)).toNat]?=some (qAB c):=by rw [Int.toNat_natCast,List.getElem?_map,hg];rfl
  have k3:decide ((qAB c).length=3)=true:=rfl
  have cs:zR (qAB c) 2=some c.2.2:=rfl
  have c0:zC .i64 (qAB c) 0=some c.1:=rfl
  have c1:zC .i64 (qAB c) 1=some c.2.1:=rfl
  have ih:=qNi n l hb hs ha m (i+1) M (by omega) (by omega)
  unfold qK7
  by_cases hR:qBM c.1 c.2.1=true
  rotate_left
  ·have hR:qBM c.1 c.2.1=false:=by rw [Bool.eq_false_iff];exact hR
   rw [hR,Bool.false_and,Bool.false_and,if_neg (by simp)]
   exact qP (qD g1 (qD g2 (qA g3 (qD k3 (qA cs (qA S.i1 (qD g2 (qA g3 (qD k3 (qA c0 (qA c1 (qA S.r1 (qD (qCv hR) rfl)))))))))))))
  rw [hR,Bool.true_and]
  by_cases hI:(qGM c.2.2).2=true
  rotate_left
  ·have hI:(qGM c.2.2).2=false:=by rw [Bool.eq_false_iff];exact hI
   have e:qLm c.2.2=false:=by unfold qLm;rw [hI];rfl
   rw [e,Bool.false_and,Bool.false_and,if_neg (by simp)]
   exact qP (qD g1 (qD g2 (qA g3 (qD k3 (qA cs (qA S.i1 (qD g2 (qA g3 (qD k3 (qA c0 (qA c1 (qA S.r1 (qO (qA1 hR) (qD (qCv hI) rfl))))))))))))))
  by_cases hE:c.2.2.toList= []
  ·have e:qLm c.2.2=false:=by unfold qLm;rw [decide_eq_false (fun h=>h hE),Bool.false_and,Bool.and_false]
   rw [e,Bool.false_and,Bool.false_and,if_neg (by simp)]
   exact qP (qD g1 (qD g2 (qA g3 (qD k3 (qA cs (qA S.i1 (qD g2 (qA g3 (qD k3 (qA c0 (qA c1 (qA S.r1 (qO (qA1 hR) (qO (qA1 hI) (qD g2 (qA g3 (qD k3 (qA cs (qD (qQ0 hE) rfl)))))))))))))))))))
  by_cases hQ:(qGM c.2.2).1.toList=c.2.2.toList
  rotate_left
  ·have e:qLm c.2.2=false:=by unfold qLm;rw [beq_eq_false_iff_ne.2 hQ,Bool.and_false,Bool.and_false]
   rw [e,Bool.false_and,Bool.false_and,if_neg (by simp)]
   exact qP (qD g1 (qD g2 (qA g3 (qD k3 (qA cs (qA S.i1 (qD g2 (qA g3 (qD k3 (qA c0 (qA c1 (qA S.r1 (qO (qA1 hR) (qO (qA1 hI) (qD g2 (qA g3 (qD k3 (qA cs (qO (qFP hE) (qD g2 (qA g3 (qD k3 (qA cs (qD (qCv (beq_eq_false_iff_ne.2 hQ)) rfl))))))))))))))))))))))))
  have e:qLm c.2.2=true:=by unfold qLm;rw [hI,decide_eq_true hE,beq_iff_eq.2 hQ];rfl
  rw [e,Bool.true_and]
  cases i with
  |zero=>
   rw [show qMi l 0 c=true from rfl,Bool.true_and]
   rw [qU (v':=(l.map qAB,((0+1:Nat):Int))) (by
    refine qD g1 (qD g2 (qA g3 (qD k3 (qA cs (qA S.i1 (qD g2 (qA g3 (qD k3 (qA c0 (qA c1 (qA S.r1 (qO (qA1 hR) (qO (qA1 hI) (qD g2 (qA g3 (qD k3 (qA cs (qO (qFP hE) (qD g2 (qA g3 (qD k3 (qA cs (qO (qA1 (beq_iff_eq.2 hQ)) (qO rfl ?_))))))))))))))))))))))))
    rw [qC,hw])]
   exact ih
  |succ j=>
   have hj:j<l.length:=by omega
   have hgj:=List.getElem?_eq_getElem hj
   generalize l[j]=p at hgj
   have wj:IntKind.i64.wrap (((j+1:Nat):Int)-1)=(j:Int):=by rw [qT (by omega)];omega
   have a1:decide (((j+1:Nat):Int)>0)=true:=decide_eq_true (by omega)
   have j2:decide (0≤IntKind.i64.wrap (((j+1:Nat):Int)-1)∧IntKind.i64.wrap (((j+1:Nat):Int)-1)<((l.map qAB).length:Int))=true:=decide_eq_true (by rw [wj,List.length_map];omega)
   have j3:(l.map qAB)[(IntKind.i64.wrap (((j+1:Nat):Int)-1)).toNat]?=some (qAB p):=by rw [wj,Int.toNat_natCast,List.getElem?_map,hgj];rfl
   have p0:zC .i64 (qAB p) 0=some p.1:=rfl
   have p1:zC .i64 (qAB p) 1=some p.2.1:=rfl
   have h5:=ha p.1 p.2.1 c.1 c.2.1
   have ep:qMi l (j+1) c=qJs p.1 p.2.1 c.1 c.2.1:=by unfold qMi;simp only [hgj]
   rw [ep]
   by_cases hA:qJs p.1 p.2.1 c.1 c.2.1=true
   ·rw [hA,Bool.true_and]
    rw [qU (v':=(l.map qAB,((j+1+1:Nat):Int))) (by
     refine qD g1 (qD g2 (qA g3 (qD k3 (qA cs (qA S.i1 (qD g2 (qA g3 (qD k3 (qA c0 (qA c1 (qA S.r1 (qO (qA1 hR) (qO (qA1 hI) (qD g2 (qA g3 (qD k3 (qA cs (qO (qFP hE) (qD g2 (qA g3 (qD k3 (qA cs (qO (qA1 (beq_iff_eq.2 hQ)) (qD a1 (qD j2 (qA j3 (qD rfl (qA p0 (qA p1 (qD g2 (qA g3 (qD k3 (qA c0 (qA c1 (qA h5 (qO (qA1 hA) ?_))))))))))))))))))))))))))))))))))))
     rw [qC,hw])]
    exact ih
   ·have hA:qJs p.1 p.2.1 c.1 c.2.1=false:=by rw [Bool.eq_false_iff];exact hA
    rw [hA,Bool.false_and,if_neg (by simp)]
    exact qP (qD g1 (qD g2 (qA g3 (qD k3 (qA cs (qA S.i1 (qD g2 (qA g3 (qD k3 (qA c0 (qA c1 (qA S.r1 (qO (qA1 hR) (qO (qA1 hI) (qD g2 (qA g3 (qD k3 (qA cs (qO (qFP hE) (qD g2 (qA g3 (qD k3 (qA cs (qO (qA1 (beq_iff_eq.2 hQ)) (qD a1 (qD j2 (qA j3 (qD rfl (qA p0 (qA p1 (qD g2 (qA g3 (qD k3 (qA c0 (qA c1 (qA h5 (qD (qCv hA) rfl)))))))))))))))))))))))))))))))))))))
theorem qPn (l:List Cl) (hb:l.length≤140737488351232) (hs:∀c∈l,c.2.2.size≤140737488351232):Ev (qDg · (l.map qAB)) (qJW l):=by
 obtain ⟨n1,h1⟩:=qSx l hs
 refine ⟨n1+l.length+3,fun n hn=>?_⟩
 obtain ⟨m,rfl,hm⟩:=up1 hn
 have ha:∀a b c d,qDf m a b c d=some (qJs a b c d):=fun a b c d=>by
  obtain ⟨q,rfl⟩:∃q,m=q+1:=⟨m-1,by omega⟩
  simp only [qDf,qGy,qC,qE,qG,qH,qJ,qK,Option.bind_some,qF,qM,qN]
  unfold qJs
  by_cases h:b<d
  ·simp [h]
  ·by_cases h':b=d
   ·subst h';simp
   ·simp [h,h']
 have h:=qNi m l hb (h1 m (by omega)) ha l.length 0 m (by omega) (by omega)
 simp only [Int.natCast_zero,List.drop_zero] at h
 unfold qJW
 by_cases h0:(l.length:Int)>120
 ·refine qD (decide_eq_true (by rw [List.length_map];exact h0)) ?_
  rw [qC,decide_eq_false (by omega),Bool.and_false]
 ·refine qO (decide_eq_false (by rw [List.length_map];exact h0)) (qA h ?_)
  rw [decide_eq_true (show (l.length:Int)≤120 by omega),Bool.and_true]
  cases qK7 l 0 l<;>rfl
theorem qNj (n:Nat) (l:List Cl) (hb:l.length≤140737488351232) (hs:∀c∈l,SrcAt n c) (ha:∀p∈l,∀c∈l,qBt n p.1 p.2.1 c.1 c.2.1=some (qDP [qMa p.2.1 c.2.1,qMa p.1 c.1])):
  ∀(m i M:Nat),l.length=i+m→m+1≤M→zD (qFC n) M (l.map qAB,l.map qAB,(l.length:Int),(i:Int))=some (if qK7 l i (l.drop i)=true then .inr (l.map qAB) else .inl false)
 |m,i,0,h1,h2=>by omega
 |0,i,M+1,h1,h2=>by
  rw [List.drop_eq_nil_of_le (by omega)]
  exact qP (qO (decide_eq_false (show ¬((i:Int)<(l.length:Int)) by omega)) rfl)
 |m+1,i,M+1,h1,h2=>by
  have hl:i<l.length:=by omega
  have hg:=List.getElem?_eq_getElem hl
  have hm:=List.getElem_mem hl
  rw [qDV hg]
  generalize l[i]=c at hg hm
  have S:=hs c hm
  have hw:IntKind.i64.wrap ((i:Int)+1)=((i+1:Nat):Int):=by rw [qT (by omega)];omega
  have g1:decide ((i:Int)<(l.length:Int))=true:=decide_eq_true (by omega)
  have g2:decide (0≤(i:Int)∧(i:Int)<((l.map qAB).length:Int))=true:=decide_eq_true ⟨by omega,by rw [List.length_map];omega⟩
  have g3:(l.map qAB)[((i:Int)).toNat]?=some (qAB c):=by rw [Int.toNat_natCast,List.getElem?_map,hg];rfl
  have k3:decide ((qAB c).length=3)=true:=rfl
  have cs:zR (qAB c) 2=some c.2.2:=rfl
  have c0:zC .i64 (qAB c) 0=some c.1:=rfl
  have c1:zC .i64 (qAB c) 1=some c.2.1:=rfl
  have ih:=qNj n l hb hs ha m (i+1) M (by omega) (by omega)
  unfold qK7
  by_cases hR:qBM c.1 c.2.1=true
  rotate_left
  ·have hR:qBM c.1 c.2.1=false:=by rw [Bool.eq_false_iff];exact hR
   rw [hR,Bool.false_and,Bool.false_and,if_neg (by simp)]
   exact qP (qD g1 (qD g2 (qA g3 (qD k3 (qA c0 (qA c1 (qA cs (qA S.r2 (qD (qCv hR) rfl)))))))))
  rw [hR,Bool.true_and]
  cases i with
  |zero=>
   rw [show qMi l 0 c=true from rfl,Bool.and_true]
   by_cases hS:qLm c.2.2=true
   ·rw [hS,Bool.true_and]
    rw [qU (v':=(l.map qAB,l.map qAB,(l.length:Int),((0+1:Nat):Int))) (by
     refine qD g1 (qD g2 (qA g3 (qD k3 (qA c0 (qA c1 (qA cs (qA S.r2 (qO (qA1 hR) (qO rfl (qA S.i2 (qO (qA1 hS) ?_)))))))))))
     rw [qC,hw])]
    exact ih
   ·have hS:qLm c.2.2=false:=by rw [Bool.eq_false_iff];exact hS
    rw [hS,Bool.false_and,if_neg (by simp)]
    exact qP (qD g1 (qD g2 (qA g3 (qD k3 (qA c0 (qA c1 (qA cs (qA S.r2 (qO (qA1 hR) (qO rfl (qA S.i2 (qD (qCv hS) rfl))))))))))))
  |succ j=>
   have hj:j<l.length:=by omega
   have hgj:=List.getElem?_eq_getElem hj
   have hmj:=List.getElem_mem hj
   generalize l[j]=p at hgj hmj
   have wj:IntKind.i64.wrap (((j+1:Nat):Int)-1)=(j:Int):=by rw [qT (by omega)];omega
   have a1:decide (((j+1:Nat):Int)>0)=true:=decide_eq_true (by omega)
   have j2:decide (0≤IntKind.i64.wrap (((j+1:Nat):Int)-1)∧IntKind.i64.wrap (((j+1:Nat):Int)-1)<((l.map qAB).length:Int))=true:=decide_eq_true (by rw [wj,List.length_map];omega)
   have j3:(l.map qAB)[(IntKind.i64.wrap (((j+1:Nat):Int)-1)).toNat]?=some (qAB p):=by rw [wj,Int.toNat_natCast,List.getElem?_map,hgj];rfl
   have p0:zC .i64 (qAB p) 0=some p.1:=rfl
   have p1:zC .i64 (qAB p) 1=some p.2.1:=rfl
   have h5:=ha p hmj c hm
   have h6:=qUS p.1 p.2.1 c.1 c.2.1
   have ep:qMi l (j+1) c=qJs p.1 p.2.1 c.1 c.2.1:=by unfold qMi;simp only [hgj]
   rw [ep]
   by_cases hA:qJs p.1 p.2.1 c.1 c.2.1=true
   ·rw [hA] at h6
    rw [hA,Bool.and_true]
    by_cases hS:qLm c.2.2=true
    ·rw [hS,Bool.true_and]
     rw [qU (v':=(l.map qAB,l.map qAB,(l.length:Int),((j+1+1:Nat):Int))) (by
      refine qD g1 (qD g2 (qA g3 (qD k3 (qA c0 (qA c1 (qA cs (qA S.r2 (qO (qA1 hR) (qD a1 (qD j2 (qA j3 (qD rfl (qA p0 (qA p1 (qA h5 (qO h6 (qA S.i2 (qO (qA1 hS) ?_))))))))))))))))))
      rw [qC,hw])]
     exact ih
    ·have hS:qLm c.2.2=false:=by rw [Bool.eq_false_iff];exact hS
     rw [hS,Bool.false_and,if_neg (by simp)]
     exact qP (qD g1 (qD g2 (qA g3 (qD k3 (qA c0 (qA c1 (qA cs (qA S.r2 (qO (qA1 hR) (qD a1 (qD j2 (qA j3 (qD rfl (qA p0 (qA p1 (qA h5 (qO h6 (qA S.i2 (qD (qCv hS) rfl)))))))))))))))))))
   ·have hA:qJs p.1 p.2.1 c.1 c.2.1=false:=by rw [Bool.eq_false_iff];exact hA
    rw [hA] at h6
    rw [hA,Bool.and_false,Bool.false_and,if_neg (by simp)]
    exact qP (qD g1 (qD g2 (qA g3 (qD k3 (qA c0 (qA c1 (qA cs (qA S.r2 (qO (qA1 hR) (qD a1 (qD j2 (qA j3 (qD rfl (qA p0 (qA p1 (qA h5 (qD h6 rfl)))))))))))))))))
theorem qPo (l:List Cl) (hb:l.length≤140737488351232) (hs:∀c∈l,c.2.2.size≤140737488351232):Ev (qDo · (l.map qAB)) (qJW l):=by
 obtain ⟨n1,h1⟩:=qSx l hs
 obtain ⟨n3,h3⟩:=qAs (F:=fun (pc:Cl×Cl) n=>qBt n pc.1.1 pc.1.2.1 pc.2.1 pc.2.2.1) (f:=fun pc=>qDP [qMa pc.1.2.1 pc.2.2.1,qMa pc.1.1 pc.2.1]) (l.flatMap fun p=>l.map fun c=>(p,c)) fun pc _=>qLg pc.1.1 pc.1.2.1 pc.2.1 pc.2.2.1
 refine ⟨n1+n3+l.length+3,fun n hn=>?_⟩
 obtain ⟨m,rfl,hm⟩:=up1 hn
 have h:=qNj m l hb (h1 m (by omega)) (fun p hp c hc=>h3 m (by omega) (p,c) (List.mem_flatMap.2 ⟨p,hp,List.mem_map.2 ⟨c,hc,rfl⟩⟩)) l.length 0 m (by omega) (by omega)
 simp only [Int.natCast_zero,List.drop_zero] at h
 rw [show (l.length:Int)=((l.map qAB).length:Int) by rw [List.length_map]] at h
 unfold qJW
 refine qA h ?_
 cases qK7 l 0 l with
 |true=>
  rw [if_pos rfl,Bool.true_and]
  show some (decide (((l.map qAB).length:Int)≤120))=_
  rw [List.length_map]
 |false=>rfl
theorem qQ1 (n:Nat) (a b:Int) (s:ByteArray) (left:Int):∃r,qFe (n+1) a b s left=some r:=by
 simp only [qFe,qHw,qC,qE,qG,qH,qJ,qK,Option.bind_some,qF,qM,qN]
 by_cases h:IntKind.i64.wrap (left-s.size)<0
 ·exact ⟨-1,by simp [h]⟩
 ·exact ⟨IntKind.i64.wrap (left-s.size),by simp [h]⟩
theorem qPp (l:List Cl) (hb:l.length≤140737488351232) (left:Int):∀n,l.length+5≤n→∃r,qEo n (l.map qAB) left=some r:=by
 intro n hn
 obtain ⟨m,rfl,hm⟩:=up1 hn
 obtain ⟨q,rfl⟩:∃q,m=q+2:=⟨m-2,by omega⟩
 simp only [qEo,qGk,qC,qE,qG,qH,qJ,qK,Option.bind_some,qF,qM,qN]
 obtain ⟨r,h⟩:=qPs (B:=qB9 (q+2)) (rows:=l.map qAB)
  (fun i e x he=>by
   obtain ⟨c,hc,rfl⟩:=qTz he
   have hi:i<l.length:=(List.getElem?_eq_some_iff.1 hc).1
   have hi':(i:Int)<l.length:=by omega
   have hw:IntKind.i64.wrap ((i:Int)+1)=(i:Int)+1:=qT (by omega)
   obtain ⟨r,hr⟩:=qQ1 (q+1) c.1 c.2.1 c.2.2 x
   by_cases h0:r<0
   ·exact .inr ⟨.inl (-1),by simp [qB9,qC,qE,qG,qH,qJ,qK,Option.bind_some,qF,qM,qN,hi',hc,qAB,zC,zR,hr,h0]⟩
   ·exact .inl ⟨r,by simp [qB9,qC,qE,qG,qH,qJ,qK,Option.bind_some,qF,qM,qN,hi',hc,qAB,zC,zR,hr,h0,hw]⟩)
  (fun x=>⟨.inr x,by simp [qB9,qC,qE,qG,qH,qJ,qK,Option.bind_some,qF,qM,qN]⟩) l.length 0 (q+2) (IntKind.i64.wrap (left-l.length)) (by simp) (by omega)
 simp only [Int.natCast_zero] at h
 by_cases h0:IntKind.i64.wrap (left-l.length)<0
 ·exact ⟨-1,by simp [h0]⟩
 ·rcases r with r|r
  ·exact ⟨r,by simp [h0,h,qC,qE,qG,qH,qJ,qK,Option.bind_some,qF,qM,qN]⟩
  ·exact ⟨r,by simp [h0,h,qC,qE,qG,qH,qJ,qK,Option.bind_some,qF,qM,qN]⟩
theorem qQ2 (n:Nat) (a b:Int) (s:ByteArray):qFf (n+2) a b s=some (a,b,s):=by
 simp only [qFf,qHx,qIy,qIx,qC,qE,qG,qH,qJ,qK,Option.bind_some,qF,qM,qN]
theorem qPq (l:List Cl) (hb:l.length*32≤140737488351232):Ev (qEq · (l.map qAB)) (l.length,l.map qAB):=by
 refine ⟨l.length+5,fun n hn=>?_⟩
 obtain ⟨m,rfl,hm⟩:=up1 hn
 simp only [qEq,qGl,qC,qE,qG,qH,qJ,qK,Option.bind_some,qF,qM,qN]
 have h:=qNK (B:=qCh m) (rows:=l.map qAB) (z:= [.i .i64 0,.i .i64 0,.s ⟨#[]⟩]) (r:=fun acc=>((l.map qAB).length,acc)) (M:=m)
  (fun i acc e he ha hz=>by
   obtain ⟨c,hc,rfl⟩:=qTz he
   have hi:i<l.length:=(List.getElem?_eq_some_iff.1 hc).1
   have hi':(i:Int)<l.length:=by omega
   obtain ⟨q,rfl⟩:∃q,m=q+2:=⟨m-2,by omega⟩
   have hw:IntKind.i64.wrap ((i:Int)+1)=(i:Int)+1:=qT (by omega)
   have ha':acc.length=l.length:=by simpa using ha
   simp [qCh,qC,qE,qG,qH,qJ,qK,Option.bind_some,qF,qM,qN,hi',hc,qAB,zC,zR,qQ2,hz,ha',hw,zi])
  (fun acc ha=>by
   have ha':acc.length=l.length:=by simpa using ha
   simp [qCh,qC,qE,qG,qH,qJ,qK,Option.bind_some,qF,qM,qN])
  (by simp;omega)
 simp only [List.length_map,Int.toNat_natCast] at h⊢
 rw [h]
 have h1:(32:Int)*(l.length:Int)≤140737488355328:=by omega
 have h2:(l.length:Int)≤9223372036854775807:=by omega
 simp [qC,qE,qG,qH,qJ,qK,Option.bind_some,qF,qM,qN,h1,h2]
theorem qQ3 (n:Nat) (a b:Int) (s:ByteArray):qFm (n+2) a b s a b s=some true:=by
 simp only [qFm,qIM,qJN,qJM,qC,qE,qG,qH,qJ,qK,Option.bind_some,qF,qM,qN]
 simp [qC,qE,qG,qH,qJ,qK,Option.bind_some,qF,qM,qN]
theorem qPr (l:List Cl) (hb:l.length≤140737488351232):Ev (qFE · (l.map qAB) (l.map qAB)) true:=by
 refine ⟨l.length+5,fun n hn=>?_⟩
 obtain ⟨m,rfl,hm⟩:=up1 hn
 simp only [qFE,qHK,qC,qE,qG,qH,qJ,qK,Option.bind_some,qF,qM,qN]
 have h:=qNL (B:=qCr m) (rows:=l.map qAB) (r:= .inr ())
  (fun i e he=>by
   obtain ⟨c,hc,rfl⟩:=qTz he
   have hi:i<l.length:=(List.getElem?_eq_some_iff.1 hc).1
   have hi':(i:Int)<l.length:=by omega
   obtain ⟨q,rfl⟩:∃q,m=q+2:=⟨m-2,by omega⟩
   have hw:IntKind.i64.wrap ((i:Int)+1)=(i:Int)+1:=qT (by omega)
   simp [qCr,qC,qE,qG,qH,qJ,qK,Option.bind_some,qF,qM,qN,hi',hc,qAB,zC,zR,qQ3,hw])
  (by simp [qCr,qC,qE,qG,qH,qJ,qK,Option.bind_some,qF,qM,qN]) l.length 0 m (by simp) (by omega)
 simp only [Int.natCast_zero] at h
 simp [h,qC,qE,qG,qH,qJ,qK,Option.bind_some,qF,qM,qN]
def Fo (r:List UInt8):Prop:=∀c,r.head?=some c→c∈([38,43,45,42,47,60,61,62,41,44]:List UInt8)
def Sta (r:List UInt8):Prop:=∃c,r.head?=some c∧(wch c=true∨c=45∨c=40∨c=34∨c=35)
def lo (l:List Nd) (i:Int):Int:=qC1 (qV l) (i.toNat+1) i
def tx (l:List Nd) (g:Nat) (i t:Int):List UInt8:=(qw l g i t).toList
structure RT (l:List Nd) (g:Nat) (i:Int):Prop where
 s:∀t,Sta (tx l g i t)
 c:∀(t:Int) (r:List UInt8),Fo r→∀d:UInt8,(d=58∨d=32)→(wr (tx l g i t++r)).head?≠some d
 u:∀(r:List UInt8) (deep:Int) (f:Nat),Fo r→0≤deep→deep+g≤400→20*(tx l g i 5++r).length+4≤f→pP f (.un deep) (tx l g i 5++r,false,l.take (lo l i).toNat)=(i,r,false,l.take (i.toNat+1))
 b:∀(t t':Int) (r:List UInt8) (deep:Int) (f:Nat),1≤t→t≤t'→t'≤5→Fo r→(qAy r=0∨lvl (qAy r)≤t')→0≤deep→deep+g≤400→20*(tx l g i t'++r).length+6≤f→
  ∃f2,20*r.length+5≤f2∧pP f (.bin t deep) (tx l g i t'++r,false,l.take (lo l i).toNat)=pP f2 (.loop t deep i) (r,false,l.take (i.toNat+1))
def Dwx {β:Type} (Q:β→Prop) (R:Nat→Tr β):Prop:=∃x,Q x∧Ev (fun n=>(R n).run) x
theorem qDI {α β:Type} {Q:β→Prop} {F:Nat→Option α} {r:α} {K:Nat→α→Tr β} (h:Ev F r) (hk:Dwx Q fun n=>K n r):Dwx Q fun n=> .opt (F n) (K n):=by
 obtain ⟨x,q,n1,h1⟩:=hk
 obtain ⟨n0,h0⟩:=h
 exact ⟨x,q,n0+n1,fun n hn=>qA (h0 n (by omega)) (h1 n (by omega))⟩
theorem qIS {β:Type} {Q:β→Prop} {b:Bool} {t e:Nat→Tr β} (h:b=true) (hk:Dwx Q t):Dwx Q fun n=> .ask b (t n) (e n):=by
 obtain ⟨x,q,n1,h1⟩:=hk
 exact ⟨x,q,n1,fun n hn=>qD h (h1 n hn)⟩
theorem qHY {β:Type} {Q:β→Prop} {b:Bool} {t e:Nat→Tr β} (h:b=false) (hk:Dwx Q e):Dwx Q fun n=> .ask b (t n) (e n):=by
 obtain ⟨x,q,n1,h1⟩:=hk
 exact ⟨x,q,n1,fun n hn=>qO h (h1 n hn)⟩
theorem qUP {α β:Type} {Q:β→Prop} {o:Option α} {r:α} {K:Nat→α→Tr β} (h:o=some r) (hk:Dwx Q fun n=>K n r):Dwx Q fun n=> .opt o (K n):=by
 obtain ⟨x,q,n1,h1⟩:=hk
 exact ⟨x,q,n1,fun n hn=>qA h (h1 n hn)⟩
theorem qAU {β:Type} {Q:β→Prop} {x:β} (h:Q x):Dwx Q fun _=> .done x:=⟨x,h,0,fun _ _=>rfl⟩
theorem qEF {β:Type} {Q:β→Prop} {F:Nat→Option β} {R:Nat→Tr β} (h:Dwx Q R) (hF:∀n,F (n+1)=(R n).run):∃x,Q x∧Ev F x:=by
 obtain ⟨x,q,n1,h1⟩:=h
 refine ⟨x,q,n1+1,fun n hn=>?_⟩
 obtain ⟨m,rfl,hm⟩:=up1 hn
 rw [hF]
 exact h1 m hm
theorem qGZ {β:Type} {F:Nat→Option β} {x:β} (h:∃y,y=x∧Ev F y):Ev F x:=by
 obtain ⟨y,rfl,h⟩:=h
 exact h
def qEK {α R:Type} (f:Nat→α→Option R):Nat→List α→Option R
 |_,[]=>none
 |i,a::r=>match f i a with
  |some x=>some x
  |none=>qEK f (i+1) r
theorem qQ4 {V R α:Type} {B:V→Tr (V⊕R)} (st:Nat→V) (l:List α) (f:Nat→α→Option R) (z:R) (hs:∀i a,l[i]?=some a→(B (st i)).run=some (match f i a with|some r=> .inr r|none=> .inl (st (i+1))))
  (he:(B (st l.length)).run=some (.inr z)):∀(M:Nat),l.length+1≤M→zD B M (st 0)=some ((qEK f 0 l).getD z):=by
 have key:∀(r:List α) (i M:Nat),l.drop i=r→i+r.length=l.length→r.length+1≤M→zD B M (st i)=some ((qEK f i r).getD z):=by
  intro r
  induction r with
  |nil=>
   intro i M h1 h2 h3
   obtain ⟨M,rfl⟩:∃q,M=q+1:=⟨M-1,by omega⟩
   have e:i=l.length:=by simpa using h2
   subst e
   rw [qP he]
   rfl
  |cons a r ih=>
   intro i M h1 h2 h3
   obtain ⟨M,rfl⟩:∃q,M=q+1:=⟨M-1,by omega⟩
   have hg:l[i]?=some a:=by rw [←List.head?_drop,h1];rfl
   have hd:l.drop (i+1)=r:=by rw [←List.tail_drop,h1];rfl
   have h4:=hs i a hg
   simp only [List.length_cons] at h2 h3
   unfold qEK
   cases hf:f i a with
   |some x=>rw [hf] at h4;rw [qP h4];rfl
   |none=>rw [hf] at h4;rw [qU h4];exact ih (i+1) M hd (by omega) (by omega)
 exact fun M h=>key l 0 M rfl (by omega) h
def qBC {α:Type} (p:Nat→α→Bool):Nat→List α→Bool
 |_,[]=>true
 |i,a::r=>p i a&&qBC p (i+1) r
theorem qF4 {α R:Type} {p:Nat→α→Bool} {e:R}:∀{l:List α} {i:Nat},qEK (fun i a=>if p i a=true then none else some e) i l=if qBC p i l=true then none else some e
 | [],i=>rfl
 |a::r,i=>by
  unfold qEK qBC
  cases p i a with
  |true=>simp only [if_true,Bool.true_and];exact qF4
  |false=>rfl
theorem qGN {i:Nat} {k:Int} {l:List (List PV)} {e:List PV} (hk:k=(i:Int)) (h:l[i]?=some e):decide (0≤k∧k<l.length)=true∧l[k.toNat]?=some e:=by
 subst hk
 have:=(List.getElem?_eq_some_iff.1 h).1
 exact ⟨decide_eq_true (by omega),by rw [Int.toNat_natCast];exact h⟩
theorem nb {a b:Int} (h:¬a=b):(a==b)=false:=beq_eq_false_iff_ne.2 h
theorem qMj {α β γ:Type} {Q:α→Prop} {x:γ} {K:Nat→β→Tr α} {L:Nat→γ→Tr α} (h:Dwx Q fun n=>L n x):Dwx Q fun n=> .alt (Sum.inr x) (K n) (L n):=h
theorem qMk {α β γ:Type} {Q:α→Prop} {x:β} {K:Nat→β→Tr α} {L:Nat→γ→Tr α} (h:Dwx Q fun n=>K n x):Dwx Q fun n=> .alt (Sum.inl x) (K n) (L n):=h
def plB (c:Nd):Bool:=if c.1=2 then qBM c.2.2.2.2.2.1 c.2.2.2.2.2.2.1 else if c.1=3 then qGJ c.2.2.2.2.2.1 c.2.2.2.2.2.2.1 c.2.2.2.2.2.2.2.2.2.1 c.2.2.2.2.2.2.2.2.2.2.1 else true
structure PlaceCh (f:Nd→Nd):Prop where
 k:∀c,(f c).1=c.1
 n:∀c,qFM c=true→c.1=2∨c.1=3→qFM (f c)=plB (f c)
 kd:∀c,kd (f c)=kd c
abbrev Vs:=Int×List Int×List Cl
def qAp (v:Vs):List PV:= [.i .i64 v.1,.ls (v.2.1.map qAC),.ls (v.2.2.map qAB)]
abbrev Br:=ByteArray×Int
def qAN (b:Br):List PV:= [.s b.1,.i .i64 b.2]
def qLn (v:Vs):Prop:=v.2.1.length*8≤140737488351232∧v.2.2.length*32≤140737488351232∧∀c∈v.2.2,c.2.2.size≤140737488351232
theorem qVg {rows:List (List PV)} (h:∀e∈rows,okR [.i .i64,.sl 8 [.i .i64],.sl 32 [.i .i64,.i .i64,.s]] e):∃l:List Vs,rows=l.map qAp∧∀v∈l,qLn v:=by
 refine qKq (fun e h=>?_) h
 obtain ⟨c0,t0,rfl,p0,h0⟩:=z0 h
 obtain ⟨c1,t1,rfl,p1,h1⟩:=z0 h0
 obtain ⟨c2,t2,rfl,p2,h2⟩:=z0 h1
 obtain rfl:=zBz h2
 obtain ⟨x0,rfl,w0⟩:=zE8 p0
 obtain ⟨x1,rfl,w1⟩:=zFY p1
 obtain ⟨x2,rfl,w2⟩:=zFY p2
 obtain ⟨ks,rfl,_⟩:=qKq (enc:=qAC) (P:=fun _=>True) (fun e h=>by
  obtain ⟨a,t,rfl,p,h⟩:=z0 h
  obtain rfl:=zBz h
  obtain ⟨y,rfl,_⟩:=zE8 p
  exact ⟨y,rfl,trivial⟩) w1.2
 obtain ⟨cs,rfl,hs⟩:=qVf w2.2
 exact ⟨(x0,ks,cs),rfl,by simpa using w1.1,by simpa using w2.1,hs⟩
theorem qVh {rows:List (List PV)} (h:∀e∈rows,okR [.s,.i .i64] e):∃l:List Br,rows=l.map qAN∧∀b∈l,b.1.size≤140737488351232:=by
 refine qKq (fun e h=>?_) h
 obtain ⟨c0,t0,rfl,p0,h0⟩:=z0 h
 obtain ⟨c1,t1,rfl,p1,h1⟩:=z0 h0
 obtain rfl:=zBz h1
 obtain ⟨x0,rfl,w0⟩:=zJP p0
 obtain ⟨x1,rfl,w1⟩:=zE8 p1
 exact ⟨(x0,x1),rfl,w0⟩
theorem qOp {α:Type} {enc:α→List PV} {l:List α} {i:Nat} {e:List PV} (h:(l.map enc)[i]?=some e):∃c,l[i]?=some c∧e=enc c:=by
 rw [List.getElem?_map] at h
 obtain ⟨c,h1,h2⟩:=Option.map_eq_some_iff.1 h
 exact ⟨c,h1,h2.symm⟩
theorem qJy {α:Type} {enc:α→List PV} {l:List α} {i:Nat} {a:α} (h:l[i]?=some a):(l.map enc)[i]?=some (enc a):=by rw [List.getElem?_map,h];rfl
theorem qSy (v:Vs) (h:qLn v):Ev (qDu · v.1 (v.2.1.map qAC) (v.2.2.map qAB)) (v.1,v.2.1.map qAC,v.2.2.map qAB):=by
 refine qGZ (qEF (R:=fun n=>qFS n v.1 (v.2.1.map qAC) (v.2.2.map qAB)) (qDI ⟨_,qOZ v.2.1 h.1⟩ (qDI (qPq v.2.2 h.2.1) (qIS (decide_eq_true (by simp)) (qIS (decide_eq_true (by simp)) (qAU rfl))))) fun n=>rfl)
theorem qRk (l:List Vs) (hb:l.length*56≤140737488351232) (hv:∀v∈l,qLn v):Ev (qDZ · (l.map qAp)) (l.length,l.map qAp):=by
 obtain ⟨n0,h0⟩:=qAs (F:=fun (v:Vs) n=>qDu n v.1 (v.2.1.map qAC) (v.2.2.map qAB)) (f:=fun v=>(v.1,v.2.1.map qAC,v.2.2.map qAB)) l fun v h=>qSy v (hv v h)
 refine ⟨n0+l.length+5,fun n hn=>?_⟩
 obtain ⟨m,rfl,hm⟩:=up1 hn
 simp only [qDZ,qEr,qC,qE,qG,qH,qJ,qK,Option.bind_some,qF,qM,qN]
 have h:=qNK (B:=qB5 m) (rows:=l.map qAp) (z:= [.i .i64 0,.nl,.nl]) (r:=fun acc=>((l.map qAp).length,acc)) (M:=m)
  (fun i acc e he ha hz=>by
   obtain ⟨c,hc,rfl⟩:=qOp he
   have hi:i<l.length:=(List.getElem?_eq_some_iff.1 hc).1
   have hi':(i:Int)<l.length:=by omega
   have hw:IntKind.i64.wrap ((i:Int)+1)=(i:Int)+1:=qT (by omega)
   have ha':acc.length=l.length:=by simpa using ha
   have hf:=h0 m (by omega) c (List.mem_of_getElem? hc)
   simp [qB5,qC,qE,qG,qH,qJ,qK,Option.bind_some,qF,qM,qN,hi',hc,qAp,zC,zd,hf,hz,ha',hw,zi])
  (fun acc ha=>by
   have ha':acc.length=l.length:=by simpa using ha
   simp [qB5,qC,qE,qG,qH,qJ,qK,Option.bind_some,qF,qM,qN])
  (by simp;omega)
 simp only [List.length_map,Int.toNat_natCast] at h⊢
 rw [h]
 have h1:(56:Int)*(l.length:Int)≤140737488355328:=by omega
 have h2:(l.length:Int)≤9223372036854775807:=by omega
 simp [qC,qE,qG,qH,qJ,qK,Option.bind_some,qF,qM,qN,h1,h2]
theorem qSz (l:List Br) (hb:l.length*24≤140737488351232):Ev (qDv · (l.map qAN)) (l.length,l.map qAN):=by
 refine ⟨l.length+5,fun n hn=>?_⟩
 obtain ⟨m,rfl,hm⟩:=up1 hn
 simp only [qDv,qFT,qC,qE,qG,qH,qJ,qK,Option.bind_some,qF,qM,qN]
 have h:=qNK (B:=qCC m) (rows:=l.map qAN) (z:= [.s ⟨#[]⟩,.i .i64 0]) (r:=fun acc=>((l.map qAN).length,acc)) (M:=m)
  (fun i acc e he ha hz=>by
   obtain ⟨c,hc,rfl⟩:=qOp he
   have hi:i<l.length:=(List.getElem?_eq_some_iff.1 hc).1
   have hi':(i:Int)<l.length:=by omega
   have hw:IntKind.i64.wrap ((i:Int)+1)=(i:Int)+1:=qT (by omega)
   have ha':acc.length=l.length:=by simpa using ha
   obtain ⟨q,rfl⟩:∃q,m=q+2:=⟨m-2,by omega⟩
   have hf:∀a b,qF8 (q+2) a b=some (a,b):=fun a b=>rfl
   simp [qCC,qC,qE,qG,qH,qJ,qK,Option.bind_some,qF,qM,qN,hi',hc,qAN,zC,zR,hf,hz,ha',hw,zi])
  (fun acc ha=>by
   have ha':acc.length=l.length:=by simpa using ha
   simp [qCC,qC,qE,qG,qH,qJ,qK,Option.bind_some,qF,qM,qN])
  (by simp;omega)
 simp only [List.length_map,Int.toNat_natCast] at h⊢
 rw [h]
 have h1:(24:Int)*(l.length:Int)≤140737488355328:=by omega
 have h2:(l.length:Int)≤9223372036854775807:=by omega
 simp [qC,qE,qG,qH,qJ,qK,Option.bind_some,qF,qM,qN,h1,h2]
theorem qVB (x:Int) (l:List Vs) (b:List Br) (hl:l.length*56≤140737488351232) (hv:∀v∈l,qLn v) (hb:b.length*24≤140737488351232):Ev (qEs · x (l.map qAp) (b.map qAN)) (x,l.map qAp,b.map qAN):=by
 refine qGZ (qEF (R:=fun n=>qIz n x (l.map qAp) (b.map qAN)) (qDI (qRk l hl hv) (qDI (qSz b hb) (qIS (decide_eq_true (by simp)) (qIS (decide_eq_true (by simp)) (qAU rfl))))) fun n=>rfl)
theorem qS0 (v:Vs) (h:qLn v):∀n,v.2.2.length+8≤n→∀left,∃r,qDs n v.1 (v.2.1.map qAC) (v.2.2.map qAB) left=some r:=by
 intro n hn left
 obtain ⟨m,rfl,hm⟩:=up1 hn
 obtain ⟨q,rfl⟩:∃q,m=q+1:=⟨m-1,by omega⟩
 obtain ⟨r,h1⟩:=qOY q (v.2.1.map qAC) left
 obtain ⟨r2,h2⟩:=qPp v.2.2 (by have:=h.2.1;omega) r (q+1) (by omega)
 simp only [qDs,qFQ,qC,qE,qG,qH,qJ,qK,Option.bind_some,qF,qM,qN,h1,h2]
 by_cases h0:r<0
 ·exact ⟨-1,by simp [h0]⟩
 ·by_cases h3:r2<0
  ·exact ⟨-1,by simp [h0,h3]⟩
  ·exact ⟨r2,by simp [h0,h3]⟩
theorem qVC:∀(l:List Vs),∃M,∀v∈l,v.2.2.length+8≤M∧v.2.1.length+8≤M
 | []=>⟨0,fun v h=>by cases h⟩
 |a::l=>by
  obtain ⟨M,h⟩:=qVC l
  refine ⟨M+a.2.2.length+a.2.1.length+8,fun v hv=>?_⟩
  rcases List.mem_cons.1 hv with rfl|hv
  ·omega
  ·have:=h v hv
   omega
theorem qRl (l:List Vs) (hb:l.length≤140737488351232) (hv:∀v∈l,qLn v):∃n0,∀n,n0≤n→∀left,∃r,qDY n (l.map qAp) left=some r:=by
 obtain ⟨M,hM⟩:=qVC l
 refine ⟨M+l.length+5,fun n hn left=>?_⟩
 obtain ⟨m,rfl,hm⟩:=up1 hn
 simp only [qDY,qEp,qC,qE,qG,qH,qJ,qK,Option.bind_some,qF,qM,qN]
 obtain ⟨r,h⟩:=qPs (B:=qBT m) (rows:=l.map qAp)
  (fun i e x he=>by
   obtain ⟨c,hc,rfl⟩:=qOp he
   have hi:i<l.length:=(List.getElem?_eq_some_iff.1 hc).1
   have hi':(i:Int)<l.length:=by omega
   have hw:IntKind.i64.wrap ((i:Int)+1)=(i:Int)+1:=qT (by omega)
   have hmem:=List.mem_of_getElem? hc
   obtain ⟨r,hr⟩:=qS0 c (hv c hmem) m (by have:=(hM c hmem).1;omega) x
   by_cases h0:r<0
   ·exact .inr ⟨.inl (-1),by simp [qBT,qC,qE,qG,qH,qJ,qK,Option.bind_some,qF,qM,qN,hi',hc,qAp,zC,zd,hr,h0]⟩
   ·exact .inl ⟨r,by simp [qBT,qC,qE,qG,qH,qJ,qK,Option.bind_some,qF,qM,qN,hi',hc,qAp,zC,zd,hr,h0,hw]⟩)
  (fun x=>⟨.inr x,by simp [qBT,qC,qE,qG,qH,qJ,qK,Option.bind_some,qF,qM,qN]⟩) l.length 0 m (IntKind.i64.wrap (left-l.length)) (by simp) (by omega)
 simp only [Int.natCast_zero] at h
 by_cases h0:IntKind.i64.wrap (left-l.length)<0
 ·exact ⟨-1,by simp [h0]⟩
 ·rcases r with r|r
  ·exact ⟨r,by simp [h0,h,qC,qE,qG,qH,qJ,qK,Option.bind_some,qF,qM,qN]⟩
  ·exact ⟨r,by simp [h0,h,qC,qE,qG,qH,qJ,qK,Option.bind_some,qF,qM,qN]⟩
theorem qTd (n:Nat) (a:ByteArray) (b left:Int):∃r,qEM (n+1) a b left=some r:=by
 simp only [qEM,qF6,qC,qE,qG,qH,qJ,qK,Option.bind_some,qF,qM,qN]
 by_cases h:IntKind.i64.wrap (left-a.size)<0
 ·exact ⟨-1,by simp [h]⟩
 ·exact ⟨IntKind.i64.wrap (left-a.size),by simp [h]⟩
theorem qS1 (l:List Br) (hb:l.length≤140737488351232) (left:Int):∀n,l.length+5≤n→∃r,qDt n (l.map qAN) left=some r:=by
 intro n hn
 obtain ⟨m,rfl,hm⟩:=up1 hn
 obtain ⟨q,rfl⟩:∃q,m=q+2:=⟨m-2,by omega⟩
 simp only [qDt,qFR,qC,qE,qG,qH,qJ,qK,Option.bind_some,qF,qM,qN]
 obtain ⟨r,h⟩:=qPs (B:=qBk (q+2)) (rows:=l.map qAN)
  (fun i e x he=>by
   obtain ⟨c,hc,rfl⟩:=qOp he
   have hi:i<l.length:=(List.getElem?_eq_some_iff.1 hc).1
   have hi':(i:Int)<l.length:=by omega
   have hw:IntKind.i64.wrap ((i:Int)+1)=(i:Int)+1:=qT (by omega)
   obtain ⟨r,hr⟩:=qTd (q+1) c.1 c.2 x
   by_cases h0:r<0
   ·exact .inr ⟨.inl (-1),by simp [qBk,qC,qE,qG,qH,qJ,qK,Option.bind_some,qF,qM,qN,hi',hc,qAN,zC,zR,hr,h0]⟩
   ·exact .inl ⟨r,by simp [qBk,qC,qE,qG,qH,qJ,qK,Option.bind_some,qF,qM,qN,hi',hc,qAN,zC,zR,hr,h0,hw]⟩)
  (fun x=>⟨.inr x,by simp [qBk,qC,qE,qG,qH,qJ,qK,Option.bind_some,qF,qM,qN]⟩) l.length 0 (q+2) (IntKind.i64.wrap (left-l.length)) (by simp) (by omega)
 simp only [Int.natCast_zero] at h
 by_cases h0:IntKind.i64.wrap (left-l.length)<0
 ·exact ⟨-1,by simp [h0]⟩
 ·rcases r with r|r
  ·exact ⟨r,by simp [h0,h,qC,qE,qG,qH,qJ,qK,Option.bind_some,qF,qM,qN]⟩
  ·exact ⟨r,by simp [h0,h,qC,qE,qG,qH,qJ,qK,Option.bind_some,qF,qM,qN]⟩
theorem qVD (x:Int) (l:List Vs) (b:List Br) (hl:l.length≤140737488351232) (hv:∀v∈l,qLn v) (hb:b.length≤140737488351232) (left:Int):∃n0,∀n,n0≤n→∃r,qGb n x (l.map qAp) (b.map qAN) left=some r:=by
 obtain ⟨n0,h0⟩:=qRl l hl hv
 refine ⟨n0+b.length+8,fun n hn=>?_⟩
 obtain ⟨m,rfl,hm⟩:=up1 hn
 obtain ⟨r,h1⟩:=h0 m (by omega) left
 obtain ⟨r2,h2⟩:=qS1 b hb r m (by omega)
 simp only [qGb,qIw,qC,qE,qG,qH,qJ,qK,Option.bind_some,qF,qM,qN,h1,h2]
 by_cases h0:r<0
 ·exact ⟨-1,by simp [h0]⟩
 ·by_cases h3:r2<0
  ·exact ⟨-1,by simp [h0,h3]⟩
  ·exact ⟨r2,by simp [h0,h3]⟩
theorem qS2 (v:Vs) (h:qLn v):Ev (qD0 · v.1 (v.2.1.map qAC) (v.2.2.map qAB) v.1 (v.2.1.map qAC) (v.2.2.map qAB)) true:=by
 refine qGZ (qEF (R:=fun n=>qFY n v.1 (v.2.1.map qAC) (v.2.2.map qAB) v.1 (v.2.1.map qAC) (v.2.2.map qAB)) (qHY (by simp) (qDI ⟨_,qOa v.2.1 (by have:=h.1;omega)⟩ (qHY rfl (qDI (qPr v.2.2 (by have:=h.2.1;omega)) (qHY rfl (qAU rfl)))))) fun n=>rfl)
theorem qRm (l:List Vs) (hb:l.length≤140737488351232) (hv:∀v∈l,qLn v):Ev (qDb · (l.map qAp) (l.map qAp)) true:=by
 obtain ⟨n0,h0⟩:=qAs (F:=fun (v:Vs) n=>qD0 n v.1 (v.2.1.map qAC) (v.2.2.map qAB) v.1 (v.2.1.map qAC) (v.2.2.map qAB)) (f:=fun v=>true) l fun v h=>qS2 v (hv v h)
 refine ⟨n0+l.length+5,fun n hn=>?_⟩
 obtain ⟨m,rfl,hm⟩:=up1 hn
 simp only [qDb,qFF,qC,qE,qG,qH,qJ,qK,Option.bind_some,qF,qM,qN]
 have h:=qNL (B:=qB7 m) (rows:=l.map qAp) (r:= .inr ())
  (fun i e he=>by
   obtain ⟨c,hc,rfl⟩:=qOp he
   have hi:i<l.length:=(List.getElem?_eq_some_iff.1 hc).1
   have hi':(i:Int)<l.length:=by omega
   have hw:IntKind.i64.wrap ((i:Int)+1)=(i:Int)+1:=qT (by omega)
   have hf:=h0 m (by omega) c (List.mem_of_getElem? hc)
   simp [qB7,qC,qE,qG,qH,qJ,qK,Option.bind_some,qF,qM,qN,hi',hc,qAp,zC,zd,hf,hw])
  (by simp [qB7,qC,qE,qG,qH,qJ,qK,Option.bind_some,qF,qM,qN]) l.length 0 m (by simp) (by omega)
 simp only [Int.natCast_zero] at h
 simp [h,qC,qE,qG,qH,qJ,qK,Option.bind_some,qF,qM,qN]
theorem qS3 (l:List Br) (hb:l.length≤140737488351232):Ev (qD1 · (l.map qAN) (l.map qAN)) true:=by
 refine ⟨l.length+5,fun n hn=>?_⟩
 obtain ⟨m,rfl,hm⟩:=up1 hn
 simp only [qD1,qFZ,qC,qE,qG,qH,qJ,qK,Option.bind_some,qF,qM,qN]
 have h:=qNL (B:=qCH m) (rows:=l.map qAN) (r:= .inr ())
  (fun i e he=>by
   obtain ⟨c,hc,rfl⟩:=qOp he
   have hi:i<l.length:=(List.getElem?_eq_some_iff.1 hc).1
   have hi':(i:Int)<l.length:=by omega
   have hw:IntKind.i64.wrap ((i:Int)+1)=(i:Int)+1:=qT (by omega)
   obtain ⟨q,rfl⟩:∃q,m=q+2:=⟨m-2,by omega⟩
   have hf:∀a b,qEX (q+2) a b a b=some true:=fun a b=>by simp [qEX,qGH,qC,qE,qG,qH,qJ,qK,Option.bind_some,qF,qM,qN]
   simp [qCH,qC,qE,qG,qH,qJ,qK,Option.bind_some,qF,qM,qN,hi',hc,qAN,zC,zR,hf,hw])
  (by simp [qCH,qC,qE,qG,qH,qJ,qK,Option.bind_some,qF,qM,qN]) l.length 0 m (by simp) (by omega)
 simp only [Int.natCast_zero] at h
 simp [h,qC,qE,qG,qH,qJ,qK,Option.bind_some,qF,qM,qN]
theorem qVE (x:Int) (l:List Vs) (b:List Br) (hl:l.length≤140737488351232) (hv:∀v∈l,qLn v) (hb:b.length≤140737488351232):Ev (qJP · x (l.map qAp) (b.map qAN) x (l.map qAp) (b.map qAN)) true:=by
 refine qGZ (qEF (R:=fun n=>qJO n x (l.map qAp) (b.map qAN) x (l.map qAp) (b.map qAN)) (qHY (by simp) (qDI (qRm l hl hv) (qHY rfl (qDI (qS3 b hb) (qHY rfl (qAU rfl)))))) fun n=>rfl)
def qGa {α:Type} (p:α→Bool) (l:List α):Int:=(qEK (fun i a=>if p a=true then some (i:Int) else none) 0 l).getD (-1)
theorem qTe {α:Type} (p:α→Bool):∀(l:List α) (i:Nat),(l.any p=true∧∃k:Nat,qEK (fun i a=>if p a=true then some (i:Int) else none) i l=some (k:Int))∨(l.any p=false∧qEK (fun i a=>if p a=true then some (i:Int) else none) i l=none)
 | [],i=> .inr ⟨rfl,rfl⟩
 |a::l,i=>by
  unfold qEK
  rw [List.any_cons]
  cases p a with
  |true=>exact .inl ⟨rfl,i,rfl⟩
  |false=>exact qTe p l (i+1)
theorem qVF {α:Type} (p:α→Bool) (l:List α):decide (qGa p l<0)=!(l.any p):=by
 unfold qGa
 rcases qTe p l 0 with ⟨e1,k,e2⟩|⟨e1,e2⟩
 ·rw [e1,e2]
  exact decide_eq_false (show ¬(k:Int)<0 by omega)
 ·rw [e1,e2]
  rfl
theorem qTf {α:Type} (p:α→Bool):∀(l:List α) (i:Nat),qEK (fun i a=>if p a=true then some (Sum.inl (β:=Unit) (i:Int)) else none) i l=(qEK (fun i a=>if p a=true then some (i:Int) else none) i l).map Sum.inl
 | [],i=>rfl
 |a::l,i=>by
  unfold qEK
  cases p a with
  |true=>rfl
  |false=>exact qTf p l (i+1)
theorem qS4 {α:Type} (p:α→Bool) {l:List α} {K1:Nat→Int→Tr Int} {K2:Nat→Unit→Tr Int} {F:Nat→Option (Int⊕Unit)} (hF:Ev F ((qEK (fun i a=>if p a=true then some (Sum.inl (β:=Unit) (i:Int)) else none) 0 l).getD (.inr ()))) (h1:∀n r,K1 n r= .done r) (h2:∀n r,K2 n r= .done (-1)):Dwx (fun y=>y=qGa p l) fun n=> .opt (F n) fun r=> .alt r (K1 n) (K2 n):=by
 refine qDI hF ?_
 rw [qTf]
 unfold qGa
 cases qEK (fun i a=>if p a=true then some (i:Int) else none) 0 l with
 |some k=>exact qMk (by simp only [h1];exact qAU rfl)
 |none=>exact qMj (by simp only [h2];exact qAU rfl)
theorem qQ5 (x:Int) (l:List Vs) (b:List (List PV)) (hl:l.length≤140737488351232) (id:Int):Ev (qCU · x (l.map qAp) b id) (qGa (fun v=>v.1==id) l):=by
 refine qGZ (qEF (R:=fun n=>qGz n x (l.map qAp) b id) (qS4 (fun v:Vs=>v.1==id) (l:=l) ⟨l.length+1,fun m hm=>?_⟩ (fun _ _=>rfl) fun _ _=>rfl) fun n=>rfl)
 have h:=qQ4 (B:=qE0 m) (fun i=>(id,(i:Int),x,l.map qAp,b)) l (fun i v=>if (v.1==id)=true then some (Sum.inl (β:=Unit) (i:Int)) else none) (.inr ())
  (fun i c he=>by
   have hi:=(List.getElem?_eq_some_iff.1 he).1
   obtain ⟨a1,a2⟩:=qGN rfl (qJy (enc:=qAp) he)
   have w:IntKind.i64.wrap ((i:Int)+1)=((i+1:Nat):Int):=by rw [qT (by omega)];omega
   refine qD (decide_eq_true (by simpa using hi)) (qD a1 (qA a2 (qD rfl (qA rfl ?_))))
   by_cases hc:(c.1==id)=true
   ·rw [if_pos hc];exact qD hc rfl
   ·rw [if_neg hc]
    refine qO (Bool.eq_false_iff.2 hc) ?_
    dsimp only
    rw [w]
    rfl)
  (qO (decide_eq_false (by simp)) rfl) m (by omega)
 exact h
theorem qQ6 (x:Int) (l:List Vs) (b:List (List PV)) (hl:l.length≤140737488351232) (id:Int):Ev (qBP · x (l.map qAp) b id) (qGa (fun v=>v.1==id) l):=by
 refine qGZ (qEF (R:=fun n=>qEa n x (l.map qAp) b id) (qDI (r:=qGa (fun v:Vs=>v.1==id) l) (qGZ (qEF (F:=fun n=>ql n (l.map qAp) id) (R:=fun n=>qk n (l.map qAp) id) (qS4 (fun v:Vs=>v.1==id) (l:=l) ⟨l.length+2,fun m hm=>?_⟩ (fun _ _=>rfl) fun _ _=>rfl) fun n=>rfl)) (qAU rfl)) fun n=>rfl)
 obtain ⟨q,rfl⟩:∃q,m=q+1:=⟨m-1,by omega⟩
 have h:=qQ4 (B:=qf (q+1)) (fun i=>(l.map qAp,id,((l.map qAp).length:Int),(i:Int))) l (fun i v=>if (v.1==id)=true then some (Sum.inl (β:=Unit) (i:Int)) else none) (.inr ())
  (fun i c he=>by
   have hi:=(List.getElem?_eq_some_iff.1 he).1
   obtain ⟨a1,a2⟩:=qGN rfl (qJy (enc:=qAp) he)
   have w:IntKind.i64.wrap ((i:Int)+1)=((i+1:Nat):Int):=by rw [qT (by omega)];omega
   refine qD (decide_eq_true (by simpa using hi)) (qD a1 (qA a2 (qD rfl (qA rfl (qA rfl (qA rfl (qA (rfl:_=some (c.1==id)) ?_)))))))
   by_cases hc:(c.1==id)=true
   ·rw [if_pos hc];exact qD hc rfl
   ·rw [if_neg hc]
    refine qO (Bool.eq_false_iff.2 hc) ?_
    dsimp only
    rw [w]
    rfl)
  (qO (decide_eq_false (by simp)) rfl) (q+1) (by omega)
 exact h
def qIu {α:Type} (r:α→α→Bool) (l:List α):Nat→α→Bool
 |0,_=>true
 |j+1,a=>match l[j]? with
  |some p=>r p a
  |none=>true
def ltI (p a:Int):Bool:=decide (p<a)
def ltV (p a:Vs):Bool:=decide (p.1<a.1)
def ltB (p a:Br):Bool:=Op.bytesLess p.1.toList a.1.toList
def qT0 (l:List Vs) (id:Int):Bool:=l.any fun v=>v.1==id
def upP (l:List Vs) (id:Int) (ups:List Int) (i:Nat) (up:Int):Bool:=decide (up<id)&&(qT0 l up&&qIu ltI ups i up)
def qTg (l:List Vs) (id:Int) (ups:List Int):Bool:=qBC (upP l id ups) 0 ups
def qOq (x:Int) (l:List Vs) (i:Nat) (v:Vs):Bool:=decide (1≤v.1∧v.1≤x-1)&&(qIu ltV l i v&&((qTg l v.1 v.2.1&&decide ((v.2.1.length:Int)≤2))&&qJW v.2.2))
def zA5 (c:UInt8):Bool:=decide (97≤c.toNat∧c.toNat≤122)
def qNk (s:ByteArray):Bool:=decide (1≤s.size∧s.size≤12)&&s.toList.all zA5
def brP (l:List Vs) (bs:List Br) (i:Nat) (b:Br):Bool:=qNk b.1&&(qIu ltB bs i b&&qT0 l b.2)
def qTh (x:Int) (l:List Vs) (bs:List Br):Bool:=decide (2≤x∧x≤1000000000)&&(decide (1≤(l.length:Int)∧(l.length:Int)≤40)&&(decide (1≤(bs.length:Int)∧(bs.length:Int)≤8)&&(qBC (qOq x l) 0 l&&qBC (brP l bs) 0 bs)))
theorem qPv (l:List Vs) (id:Int):decide (qGa (fun v=>v.1==id) l<0)=!(qT0 l id):=qVF _ _
theorem qVi {α R:Type} {p:Nat→α→Bool} {e:R} {f:Nat→α→Option R} (h:∀i a,f i a=if p i a=true then none else some e) (l:List α):qEK f 0 l=if qBC p 0 l=true then none else some e:=by
 rw [show f=fun i a=>if p i a=true then none else some e from funext fun i=>funext fun a=>h i a]
 exact qF4
theorem qVj {j:Nat} {l:List (List PV)} {e:List PV} (hj:(j:Int)<140737488355328) (h:l[j]?=some e):decide (0≤IntKind.i64.wrap (((j+1:Nat):Int)-1)∧IntKind.i64.wrap (((j+1:Nat):Int)-1)<l.length)=true∧l[(IntKind.i64.wrap (((j+1:Nat):Int)-1)).toNat]?=some e:=by
 have w:IntKind.i64.wrap (((j+1:Nat):Int)-1)=(j:Int):=by rw [qT (by omega)];omega
 exact qGN w h
theorem qUh {α:Type} {l:List α} {j:Nat} {a:α} (h:l[j+1]?=some a):∃p,l[j]?=some p:=by
 have:=(List.getElem?_eq_some_iff.1 h).1
 exact ⟨l[j],List.getElem?_eq_getElem (by omega)⟩
theorem qVG {α:Type} {r:α→α→Bool} {l:List α} {j:Nat} {a p:α} (h:l[j]?=some p):qIu r l (j+1) a=r p a:=by unfold qIu;simp only [h]
theorem qVk:∀i:Fin 256,((⟨#[97,98,99,100,101,102,103,104,105,106,107,108,109,110,111,112,113,114,115,116,117,118,119,120,121,122]⟩:ByteArray).data.toList.contains (UInt8.ofNat i.val))=zA5 (UInt8.ofNat i.val):=by decide+kernel
theorem qUQ:∀(l:List UInt8) (i:Nat),qBC (fun _ c=>zA5 c) i l=l.all zA5
 | [],i=>rfl
 |c::l,i=>by
  unfold qBC
  rw [List.all_cons,qUQ l (i+1)]
theorem qT1 (s:ByteArray) (hb:s.size≤140737488351232):Ev (qE2 · s) (qNk s):=by
 have ht:=qAZ s
 refine qGZ (qEF (R:=fun n=>qG0 n s) ?_ fun n=>rfl)
 unfold qNk
 by_cases h1:1≤s.size∧s.size≤12
 rotate_left
 ·rw [decide_eq_false h1,Bool.false_and]
  by_cases h2:(s.size:Int)<1
  ·exact qIS (decide_eq_true h2) (qAU rfl)
  ·exact qHY (decide_eq_false h2) (qIS (decide_eq_true (by omega)) (qAU rfl))
 rw [decide_eq_true h1,Bool.true_and]
 refine qHY (decide_eq_false (by omega)) (qHY (decide_eq_false (by omega)) ?_)
 refine qDI (r:=if s.toList.all zA5=true then Sum.inr () else Sum.inl false) ⟨s.size+1,fun m hm=>?_⟩ ?_
 ·have h:=qQ4 (B:=qE1 m) (fun i=>(s,(i:Int))) s.toList (fun i c=>if zA5 c=true then none else some (.inl false)) (.inr ())
   (fun i c he=>by
    have hi:=(List.getElem?_eq_some_iff.1 he).1
    have w:IntKind.i64.wrap ((i:Int)+1)=((i+1:Nat):Int):=by rw [qT (by omega)];omega
    have hg:s.toList[((i:Int)).toNat]?=some c:=by rw [Int.toNat_natCast];exact he
    refine qD (decide_eq_true (show (i:Int)<(s.size:Int) by omega)) (qD (decide_eq_true (by omega)) (qA hg ?_))
    unfold zA5
    by_cases h1:(c.toNat:Int)<97
    ·rw [decide_eq_false (p:=97≤c.toNat∧c.toNat≤122) (by omega)]
     exact qD (decide_eq_true h1) rfl
    ·refine qO (decide_eq_false h1) (qD (decide_eq_true (by omega)) (qA hg ?_))
     by_cases h2:(c.toNat:Int)>122
     ·rw [decide_eq_false (p:=97≤c.toNat∧c.toNat≤122) (by omega)]
      exact qD (decide_eq_true h2) rfl
     ·rw [decide_eq_true (p:=97≤c.toNat∧c.toNat≤122) (by omega)]
      refine qO (decide_eq_false h2) ?_
      dsimp only
      rw [w]
      rfl)
   (qO (decide_eq_false (by dsimp only;omega)) rfl) m (by omega)
  rw [qVi (p:=fun _ c=>zA5 c) (fun i a=>rfl),qUQ] at h
  refine h.trans ?_
  cases s.toList.all zA5<;>rfl
 ·cases s.toList.all zA5 with
  |true=>exact qMj (qAU rfl)
  |false=>exact qMk (qAU rfl)
theorem qUi (s:ByteArray) (hb:s.size≤140737488351232):Ev (qFl · s) (qNk s):=by
 refine qGZ (qEF (R:=fun n=>qIJ n s) ?_ fun n=>rfl)
 unfold qNk
 by_cases h1:(s.size:Int)≥1
 rotate_left
 ·rw [decide_eq_false (p:=1≤s.size∧s.size≤12) (by omega),Bool.false_and]
  exact qHY (decide_eq_false h1) (qAU rfl)
 refine qIS (decide_eq_true h1) ?_
 by_cases h2:(s.size:Int)≤12
 rotate_left
 ·rw [decide_eq_false (p:=1≤s.size∧s.size≤12) (by omega),Bool.false_and]
  exact qHY (decide_eq_false h2) (qAU rfl)
 rw [decide_eq_true (p:=1≤s.size∧s.size≤12) (by omega),Bool.true_and]
 refine qIS (decide_eq_true h2) ?_
 have tr:Ev (qDn · s ⟨#[97,98,99,100,101,102,103,104,105,106,107,108,109,110,111,112,113,114,115,116,117,118,119,120,121,122]⟩) (BR (((s.toList.reverse.dropWhile zA5).reverse).dropWhile zA5)):=⟨1,fun n hn=>by
  obtain ⟨m,rfl,hm⟩:=up1 hn
  show zm s ⟨#[97,98,99,100,101,102,103,104,105,106,107,108,109,110,111,112,113,114,115,116,117,118,119,120,121,122]⟩=_
  unfold zm
  rw [if_pos ⟨by omega,by decide,by decide+kernel⟩]
  unfold Lib.trimS Lib.trimLeftS Lib.trimRightS
  have:(fun c=>(⟨#[97,98,99,100,101,102,103,104,105,106,107,108,109,110,111,112,113,114,115,116,117,118,119,120,121,122]⟩:ByteArray).data.toList.contains c)=zA5:=funext (qSo qVk)
  rw [this,←Go.Lib.toList_data s]
  rfl⟩
 refine qDI tr (qAU ?_)
 rw [qAQ,qAH]
 by_cases ha:s.toList.all zA5=true
 ·rw [qNg.2 ha,ha];rfl
 ·have hx:¬(s.toList.reverse.dropWhile zA5).reverse.dropWhile zA5= []:=fun e=>ha (qNg.1 e)
  rw [beq_eq_false_iff_ne.2 hx,Bool.eq_false_iff.2 ha]
theorem qIv {α β:Type} {enc:α→List PV} {r:α→α→Bool} {l:List α} {i:Nat} {a:α} (he:l[i]?=some a) (hb:l.length≤140737488351232) (bad:Tr β) {t:Tr β} {K:List PV→Tr β} (hK:∀p,(K (enc p)).run=if r p a=true then t.run else bad.run):
  (Tr.ask (decide ((i:Int)>0)) (.ask (decide (0≤IntKind.i64.wrap ((i:Int)-1)∧IntKind.i64.wrap ((i:Int)-1)<((l.map enc).length:Int))) (.opt ((l.map enc)[(IntKind.i64.wrap ((i:Int)-1)).toNat]?) K) .fail) t).run=if qIu r l i a=true then t.run else bad.run:=by
 have hi:=(List.getElem?_eq_some_iff.1 he).1
 cases i with
 |zero=>exact qO rfl (by rw [show qIu r l 0 a=true from rfl,if_pos rfl])
 |succ j=>
  obtain ⟨p,hp⟩:=qUh he
  obtain ⟨b1,b2⟩:=qVj (by omega) (qJy (enc:=enc) hp)
  rw [qVG hp]
  exact qD (decide_eq_true (by omega)) (qD b1 (qA b2 (hK p)))
theorem qVH (x:Int) (l:List Vs) (b:List (List PV)) (hl:l.length≤140737488351232) (ups:List Int) (hu:ups.length≤140737488351232) (id:Int):Ev (qDE · x (l.map qAp) b (ups.map qAC) id) (qTg l id ups&&decide ((ups.length:Int)≤2)):=by
 obtain ⟨n1,h1⟩:=qAs (F:=fun (up:Int) n=>qBP n x (l.map qAp) b up) (f:=fun up=>qGa (fun v:Vs=>v.1==up) l) ups fun up _=>qQ6 x l b hl up
 refine ⟨n1+ups.length+3,fun n hn=>?_⟩
 obtain ⟨m,rfl,hm⟩:=up1 hn
 have h:=qQ4 (B:=qD8 m) (fun i=>(ups.map qAC,id,ups.map qAC,((ups.map qAC).length:Int),(i:Int),x,l.map qAp,b)) ups (fun i c=>if upP l id ups i c=true then none else some (.inl false)) (.inr (ups.map qAC))
  (fun i c he=>by
   have hi:=(List.getElem?_eq_some_iff.1 he).1
   obtain ⟨a1,a2⟩:=qGN rfl (qJy (enc:=qAC) he)
   have h1:=h1 m (by omega) c (List.mem_of_getElem? he)
   have w:IntKind.i64.wrap ((i:Int)+1)=((i+1:Nat):Int):=by rw [qT (by omega)];omega
   refine qD (decide_eq_true (by simpa using hi)) (qD a1 (qA a2 (qD rfl (qA rfl ?_))))
   dsimp only
   rw [w]
   unfold upP
   by_cases k1:c≥id
   ·rw [decide_eq_false (p:=c<id) (by omega)];exact qD (decide_eq_true k1) rfl
   refine qO (decide_eq_false k1) (qA h1 ?_)
   rw [decide_eq_true (p:=c<id) (by omega),Bool.true_and]
   have hv:=qPv l c
   cases hh:qT0 l c with
   |false=>rw [hh] at hv;exact qD hv rfl
   |true=>
    rw [hh] at hv
    refine qO hv ?_
    rw [Bool.true_and]
    refine (qIv (enc:=qAC) (r:=ltI) he hu (.done (.inr (.inl false))) fun p=>?_).trans ?_
    ·refine qD rfl (qA rfl ?_)
     unfold ltI
     by_cases k3:p≥c
     ·rw [decide_eq_false (p:=p<c) (by omega)];exact qD (decide_eq_true k3) rfl
     ·rw [decide_eq_true (p:=p<c) (by omega)];exact qO (decide_eq_false k3) rfl
    ·cases qIu ltI ups i c<;>rfl)
  (qO (decide_eq_false (by simp)) rfl) m (by omega)
 refine qA h ?_
 rw [qF4]
 unfold qTg
 cases qBC (upP l id ups) 0 ups with
 |true=>
  rw [Bool.true_and]
  show some (decide (((ups.map qAC).length:Int)≤2))=_
  rw [List.length_map]
 |false=>rfl
theorem qRn (x:Int) (hx:2≤x∧x≤1000000000) (l:List Vs) (b:List (List PV)) (hl:l.length≤140737488351232) (hv:∀v∈l,qLn v):∃n0,∀m,n0≤m→zD (qEU m) m (l.map qAp,((l.map qAp).length:Int),0,x,l.map qAp,b)=some (if qBC (qOq x l) 0 l=true then .inr (x,l.map qAp,b) else .inl false):=by
 obtain ⟨n1,h1⟩:=qAs (F:=fun (v:Vs) n=>qz n v.1 1 (x-1)) (f:=fun v=>decide (1≤v.1∧v.1≤x-1)) l fun v _=>qy v.1 1 (x-1)
 obtain ⟨n2,h2⟩:=qAs (F:=fun (v:Vs) n=>qDE n x (l.map qAp) b (v.2.1.map qAC) v.1) (f:=fun v=>qTg l v.1 v.2.1&&decide ((v.2.1.length:Int)≤2)) l fun v hm=>qVH x l b hl v.2.1 (by have:=(hv v hm).1;omega) v.1
 obtain ⟨n3,h3⟩:=qAs (F:=fun (v:Vs) n=>qDo n (v.2.2.map qAB)) (f:=fun v=>qJW v.2.2) l fun v hm=>qPo v.2.2 (by have:=(hv v hm).2.1;omega) (hv v hm).2.2
 refine ⟨n1+n2+n3+l.length+3,fun m hm=>?_⟩
 have h:=qQ4 (B:=qEU m) (fun i=>(l.map qAp,((l.map qAp).length:Int),(i:Int),x,l.map qAp,b)) l (fun i c=>if qOq x l i c=true then none else some (.inl false)) (.inr (x,l.map qAp,b))
  (fun i c he=>by
   have hi:=(List.getElem?_eq_some_iff.1 he).1
   obtain ⟨a1,a2⟩:=qGN rfl (qJy (enc:=qAp) he)
   have h1:=h1 m (by omega) c (List.mem_of_getElem? he)
   have h2:=h2 m (by omega) c (List.mem_of_getElem? he)
   have h3:=h3 m (by omega) c (List.mem_of_getElem? he)
   have w:IntKind.i64.wrap ((i:Int)+1)=((i+1:Nat):Int):=by rw [qT (by omega)];omega
   have wx:IntKind.i64.wrap (x-1)=x-1:=qT (by omega)
   refine qD (decide_eq_true (by simpa using hi)) (qD a1 (qA a2 (qD rfl (qA rfl (qA rfl (qA rfl ?_))))))
   dsimp only
   rw [w,wx]
   refine qA h1 ?_
   unfold qOq
   cases decide (1≤c.1∧c.1≤x-1) with
   |false=>exact qD rfl rfl
   |true=>
    refine qO rfl ?_
    rw [Bool.true_and]
    refine (qIv (enc:=qAp) (r:=ltV) he hl (.done (.inr (.inl false))) fun p=>?_).trans ?_
    ·refine qD rfl (qA rfl ?_)
     unfold ltV
     by_cases k3:p.1≥c.1
     ·rw [decide_eq_false (p:=p.1<c.1) (by omega)];exact qD (decide_eq_true k3) rfl
     ·rw [decide_eq_true (p:=p.1<c.1) (by omega)];exact qO (decide_eq_false k3) rfl
    ·cases qIu ltV l i c with
     |false=>rfl
     |true=>
      rw [if_pos rfl,Bool.true_and]
      refine qA h2 ?_
      cases qTg l c.1 c.2.1&&decide ((c.2.1.length:Int)≤2) with
      |false=>exact qD rfl rfl
      |true=>
       refine qO rfl (qA h3 ?_)
       cases qJW c.2.2 with
       |false=>exact qD rfl rfl
       |true=>exact qO rfl rfl)
  (qO (decide_eq_false (by simp)) rfl) m (by omega)
 rw [qF4] at h
 refine h.trans ?_
 cases qBC (qOq x l) 0 l<;>rfl
theorem qRo (x:Int) (l:List Vs) (bs:List Br) (hl:l.length≤140737488351232) (hb:bs.length≤140737488351232) (hs:∀b∈bs,b.1.size≤140737488351232):∃n0,∀m,n0≤m→zD (qEV m) m (bs.map qAN,((bs.map qAN).length:Int),0,x,l.map qAp,bs.map qAN)=some (if qBC (brP l bs) 0 bs=true then .inr () else .inl false):=by
 obtain ⟨n1,h1⟩:=qAs (F:=fun (b:Br) n=>qFl n b.1) (f:=fun b=>qNk b.1) bs fun b h=>qUi b.1 (hs b h)
 obtain ⟨n2,h2⟩:=qAs (F:=fun (b:Br) n=>qBP n x (l.map qAp) (bs.map qAN) b.2) (f:=fun b=>qGa (fun v:Vs=>v.1==b.2) l) bs fun b _=>qQ6 x l _ hl b.2
 refine ⟨n1+n2+bs.length+3,fun m hm=>?_⟩
 have h:=qQ4 (B:=qEV m) (fun i=>(bs.map qAN,((bs.map qAN).length:Int),(i:Int),x,l.map qAp,bs.map qAN)) bs (fun i c=>if brP l bs i c=true then none else some (.inl false)) (.inr ())
  (fun i c he=>by
   have hi:=(List.getElem?_eq_some_iff.1 he).1
   obtain ⟨a1,a2⟩:=qGN rfl (qJy (enc:=qAN) he)
   have h1:=h1 m (by omega) c (List.mem_of_getElem? he)
   have h2:=h2 m (by omega) c (List.mem_of_getElem? he)
   have w:IntKind.i64.wrap ((i:Int)+1)=((i+1:Nat):Int):=by rw [qT (by omega)];omega
   refine qD (decide_eq_true (by simpa using hi)) (qD a1 (qA a2 (qD rfl (qA rfl (qA rfl ?_)))))
   dsimp only
   rw [w]
   refine qA h1 ?_
   unfold brP
   cases qNk c.1 with
   |false=>exact qD rfl rfl
   |true=>
    refine qO rfl ?_
    rw [Bool.true_and]
    refine (qIv (enc:=qAN) (r:=ltB) he hb (.done (.inr (.inl false))) fun p=>?_).trans ?_
    ·refine qD rfl (qA rfl ?_)
     unfold ltB
     cases Op.bytesLess p.1.toList c.1.toList with
     |false=>exact qD rfl rfl
     |true=>exact qO rfl rfl
    ·cases qIu ltB bs i c with
     |false=>rfl
     |true=>
      rw [if_pos rfl,Bool.true_and]
      refine qA h2 ?_
      have hv:=qPv l c.2
      cases hh:qT0 l c.2 with
      |false=>rw [hh] at hv;exact qD hv rfl
      |true=>rw [hh] at hv;exact qO hv rfl)
  (qO (decide_eq_false (by simp)) rfl) m (by omega)
 rw [qF4] at h
 refine h.trans ?_
 cases qBC (brP l bs) 0 bs<;>rfl
theorem qRp (x:Int) (l:List Vs) (bs:List Br) (hl:l.length≤140737488351232) (hv:∀v∈l,qLn v) (hb:bs.length≤140737488351232) (hs:∀b∈bs,b.1.size≤140737488351232):Ev (qJK · x (l.map qAp) (bs.map qAN)) (qTh x l bs):=by
 refine qGZ (qEF (R:=fun n=>qJJ n x (l.map qAp) (bs.map qAN)) (qDI (qy x 2 1000000000) ?_) fun n=>rfl)
 unfold qTh
 by_cases hx:2≤x∧x≤1000000000
 rotate_left
 ·rw [decide_eq_false hx];exact qIS rfl (qAU rfl)
 rw [decide_eq_true hx,Bool.true_and]
 refine qHY rfl (qDI (qy _ 1 40) ?_)
 rw [List.length_map]
 cases decide (1≤(l.length:Int)∧(l.length:Int)≤40) with
 |false=>exact qIS rfl (qAU rfl)
 |true=>
  rw [Bool.true_and]
  refine qHY rfl (qDI (qy _ 1 8) ?_)
  rw [List.length_map]
  cases decide (1≤(bs.length:Int)∧(bs.length:Int)≤8) with
  |false=>exact qIS rfl (qAU rfl)
  |true=>
   rw [Bool.true_and]
   have e1:=qRn x hx l (bs.map qAN) hl hv
   have e2:=qRo x l bs hl hb hs
   rw [List.length_map] at e1 e2
   refine qHY rfl (qDI (r:=if qBC (qOq x l) 0 l=true then Sum.inr (x,l.map qAp,bs.map qAN) else Sum.inl false) e1 ?_)
   cases qBC (qOq x l) 0 l with
   |false=>exact qMk (qAU rfl)
   |true=>
    rw [Bool.true_and,if_pos rfl]
    refine qMj ?_
    dsimp only
    rw [List.length_map]
    refine qDI (r:=if qBC (brP l bs) 0 bs=true then Sum.inr () else Sum.inl false) e2 ?_
    cases qBC (brP l bs) 0 bs with
    |false=>exact qMk (qAU rfl)
    |true=>exact qMj (qAU rfl)
theorem qT2 (n:Nat) (x:Int) (l:List Vs) (b:List (List PV)) (k:Int) (ups:List Int) (hu:ups.length≤140737488351232) (id:Int) (sh:List (List PV)) (h1:∀c∈ups,qCU n x (l.map qAp) b c=some (qGa (fun v:Vs=>v.1==c) l)):
  ∀M,ups.length+1≤M→zD (qDC n) M (k,0,x,l.map qAp,b,id,ups.map qAC,sh)=some (if qTg l id ups=true then .inr (k,x,l.map qAp,b) else .inl false):=by
 intro M hM
 have h:=qQ4 (B:=qDC n) (fun i=>(k,(i:Int),x,l.map qAp,b,id,ups.map qAC,sh)) ups (fun i c=>if upP l id ups i c=true then none else some (.inl false)) (.inr (k,x,l.map qAp,b))
  (fun i c he=>by
   have hi:=(List.getElem?_eq_some_iff.1 he).1
   obtain ⟨a1,a2⟩:=qGN rfl (qJy (enc:=qAC) he)
   have h1:=h1 c (List.mem_of_getElem? he)
   have w:IntKind.i64.wrap ((i:Int)+1)=((i+1:Nat):Int):=by rw [qT (by omega)];omega
   refine qD (decide_eq_true (by simpa using hi)) (qD a1 (qA a2 (qD rfl (qA rfl ?_))))
   dsimp only
   rw [w]
   unfold upP
   by_cases k1:c≥id
   ·rw [decide_eq_false (p:=c<id) (by omega)];exact qD (decide_eq_true k1) rfl
   refine qO (decide_eq_false k1) (qD a1 (qA a2 (qD rfl (qA rfl (qA h1 ?_)))))
   rw [decide_eq_true (p:=c<id) (by omega),Bool.true_and]
   have hv:=qPv l c
   cases hh:qT0 l c with
   |false=>rw [hh] at hv;exact qD hv rfl
   |true=>
    rw [hh] at hv
    refine qO hv ?_
    rw [Bool.true_and]
    refine (qIv (enc:=qAC) (r:=ltI) he hu (.done (.inr (.inl false))) fun p=>?_).trans ?_
    ·refine qD rfl (qA rfl (qD a1 (qA a2 (qD rfl (qA rfl ?_)))))
     unfold ltI
     by_cases k3:p≥c
     ·rw [decide_eq_false (p:=p<c) (by omega)];exact qD (decide_eq_true k3) rfl
     ·rw [decide_eq_true (p:=p<c) (by omega)];exact qO (decide_eq_false k3) rfl
    ·cases qIu ltI ups i c<;>rfl)
  (qO (decide_eq_false (by simp)) rfl) M hM
 rw [qF4] at h
 unfold qTg
 refine h.trans ?_
 cases qBC (upP l id ups) 0 ups<;>rfl
theorem qVI:∀(l:List Vs),∃M,∀v∈l,v.2.1.length≤M
 | []=>⟨0,fun v h=>by cases h⟩
 |a::l=>by
  obtain ⟨M,h⟩:=qVI l
  refine ⟨M+a.2.1.length,fun v hv=>?_⟩
  rcases List.mem_cons.1 hv with rfl|hv
  ·omega
  ·have:=h v hv
   omega
theorem qRq (x:Int) (hx:2≤x∧x≤1000000000) (l:List Vs) (b:List (List PV)) (hl:l.length≤140737488351232) (hv:∀v∈l,qLn v):∃n0,∀m,n0≤m→zD (qER m) m (0,x,l.map qAp,b)=some (if qBC (qOq x l) 0 l=true then .inr (x,l.map qAp,b) else .inl false):=by
 obtain ⟨n1,h1⟩:=qAs (F:=fun (v:Vs) n=>qAx n v.1 1 (x-1)) (f:=fun v=>decide (1≤v.1∧v.1≤x-1)) l fun v _=>qB3 v.1 1 (x-1)
 obtain ⟨n2,h2⟩:=qAs (F:=fun (c:Int) n=>qCU n x (l.map qAp) b c) (f:=fun c=>qGa (fun v:Vs=>v.1==c) l) (l.flatMap fun v=>v.2.1) fun c _=>qQ5 x l b hl c
 obtain ⟨n3,h3⟩:=qAs (F:=fun (v:Vs) n=>qDg n (v.2.2.map qAB)) (f:=fun v=>qJW v.2.2) l fun v hm=>qPn v.2.2 (by have:=(hv v hm).2.1;omega) (hv v hm).2.2
 obtain ⟨n4,h4⟩:=qVI l
 refine ⟨n1+n2+n3+n4+l.length+3,fun m hm=>?_⟩
 have h:=qQ4 (B:=qER m) (fun i=>((i:Int),x,l.map qAp,b)) l (fun i c=>if qOq x l i c=true then none else some (.inl false)) (.inr (x,l.map qAp,b))
  (fun i c he=>by
   have hi:=(List.getElem?_eq_some_iff.1 he).1
   have hmem:=List.mem_of_getElem? he
   obtain ⟨a1,a2⟩:=qGN rfl (qJy (enc:=qAp) he)
   have h1:=h1 m (by omega) c hmem
   have h3:=h3 m (by omega) c hmem
   have h4:=h4 c hmem
   have hu:=qT2 m x l b (i:Int) c.2.1 (by have:=(hv c hmem).1;omega) c.1 (c.2.2.map qAB) (fun u hu=>h2 m (by omega) u (List.mem_flatMap.2 ⟨c,hmem,hu⟩)) m (by omega)
   have w:IntKind.i64.wrap ((i:Int)+1)=((i+1:Nat):Int):=by rw [qT (by omega)];omega
   have wx:IntKind.i64.wrap (x-1)=x-1:=qT (by omega)
   refine qD (decide_eq_true (by simpa using hi)) (qD a1 (qA a2 (qD rfl (qA rfl (qA rfl (qA rfl ?_))))))
   dsimp only
   rw [wx]
   refine qA h1 ?_
   unfold qOq
   cases decide (1≤c.1∧c.1≤x-1) with
   |false=>exact qD rfl rfl
   |true=>
    refine qO rfl ?_
    rw [Bool.true_and]
    refine (qIv (enc:=qAp) (r:=ltV) he hl (.done (.inr (.inl false))) fun p=>?_).trans ?_
    ·refine qD rfl (qA rfl ?_)
     unfold ltV
     by_cases k3:p.1≥c.1
     ·rw [decide_eq_false (p:=p.1<c.1) (by omega)];exact qD (decide_eq_true k3) rfl
     ·rw [decide_eq_true (p:=p.1<c.1) (by omega)];exact qO (decide_eq_false k3) rfl
    ·cases qIu ltV l i c with
     |false=>rfl
     |true=>
      rw [if_pos rfl,Bool.true_and]
      by_cases k2:((c.2.1.map qAC).length:Int)>2
      ·have k2':=k2
       rw [List.length_map] at k2'
       rw [decide_eq_false (p:=(c.2.1.length:Int)≤2) (by omega),Bool.and_false]
       exact qD (decide_eq_true k2) rfl
      have k2':=k2
      rw [List.length_map] at k2'
      rw [decide_eq_true (p:=(c.2.1.length:Int)≤2) (by omega),Bool.and_true]
      refine qO (decide_eq_false k2) (qA h3 ?_)
      cases qJW c.2.2 with
      |false=>rw [Bool.and_false];exact qD rfl rfl
      |true=>
       rw [Bool.and_true]
       refine qO rfl (qA hu ?_)
       cases qTg l c.1 c.2.1 with
       |false=>rfl
       |true=>
        show some (Sum.inl (IntKind.i64.wrap ((i:Int)+1),x,l.map qAp,b))=_
        rw [w]
        rfl)
  (qO (decide_eq_false (by simp)) rfl) m (by omega)
 rw [qF4] at h
 refine h.trans ?_
 cases qBC (qOq x l) 0 l<;>rfl
theorem qRr (x:Int) (l:List Vs) (bs:List Br) (hl:l.length≤140737488351232) (hb:bs.length≤140737488351232) (hs:∀b∈bs,b.1.size≤140737488351232):∃n0,∀m,n0≤m→zD (qES m) m (0,x,l.map qAp,bs.map qAN)=some (if qBC (brP l bs) 0 bs=true then .inr () else .inl false):=by
 obtain ⟨n1,h1⟩:=qAs (F:=fun (b:Br) n=>qE2 n b.1) (f:=fun b=>qNk b.1) bs fun b h=>qT1 b.1 (hs b h)
 obtain ⟨n2,h2⟩:=qAs (F:=fun (b:Br) n=>qCU n x (l.map qAp) (bs.map qAN) b.2) (f:=fun b=>qGa (fun v:Vs=>v.1==b.2) l) bs fun b _=>qQ5 x l _ hl b.2
 refine ⟨n1+n2+bs.length+3,fun m hm=>?_⟩
 have h:=qQ4 (B:=qES m) (fun i=>((i:Int),x,l.map qAp,bs.map qAN)) bs (fun i c=>if brP l bs i c=true then none else some (.inl false)) (.inr ())
  (fun i c he=>by
   have hi:=(List.getElem?_eq_some_iff.1 he).1
   obtain ⟨a1,a2⟩:=qGN rfl (qJy (enc:=qAN) he)
   have h1:=h1 m (by omega) c (List.mem_of_getElem? he)
   have h2:=h2 m (by omega) c (List.mem_of_getElem? he)
   have w:IntKind.i64.wrap ((i:Int)+1)=((i+1:Nat):Int):=by rw [qT (by omega)];omega
   refine qD (decide_eq_true (by simpa using hi)) (qD a1 (qA a2 (qD rfl (qA rfl (qA rfl ?_)))))
   dsimp only
   rw [w]
   refine qA h1 ?_
   unfold brP
   cases qNk c.1 with
   |false=>exact qD rfl rfl
   |true=>
    refine qO rfl (qA h2 ?_)
    rw [Bool.true_and]
    have hv:=qPv l c.2
    cases hh:qT0 l c.2 with
    |false=>rw [hh] at hv;rw [Bool.and_false];exact qD hv rfl
    |true=>
     rw [hh] at hv
     rw [Bool.and_true]
     refine qO hv ?_
     refine (qIv (enc:=qAN) (r:=ltB) he hb (.done (.inr (.inl false))) fun p=>?_).trans ?_
     ·refine qD rfl (qA rfl ?_)
      unfold ltB
      cases Op.bytesLess p.1.toList c.1.toList with
      |false=>exact qD rfl rfl
      |true=>exact qO rfl rfl
     ·cases qIu ltB bs i c<;>rfl)
  (qO (decide_eq_false (by simp)) rfl) m (by omega)
 rw [qF4] at h
 refine h.trans ?_
 cases qBC (brP l bs) 0 bs<;>rfl
theorem qRs (x:Int) (l:List Vs) (bs:List Br) (hl:l.length≤140737488351232) (hv:∀v∈l,qLn v) (hb:bs.length≤140737488351232) (hs:∀b∈bs,b.1.size≤140737488351232):Ev (qI4 · x (l.map qAp) (bs.map qAN)) (qTh x l bs):=by
 refine qGZ (qEF (R:=fun n=>qI3 n x (l.map qAp) (bs.map qAN)) (qDI (qB3 x 2 1000000000) ?_) fun n=>rfl)
 unfold qTh
 by_cases hx:2≤x∧x≤1000000000
 rotate_left
 ·rw [decide_eq_false hx];exact qIS rfl (qAU rfl)
 rw [decide_eq_true hx,Bool.true_and]
 refine qHY rfl ?_
 have el:((l.map qAp).length:Int)=(l.length:Int):=by rw [List.length_map]
 have eb:((bs.map qAN).length:Int)=(bs.length:Int):=by rw [List.length_map]
 by_cases k1:((l.map qAp).length:Int)<1
 ·rw [decide_eq_false (p:=1≤(l.length:Int)∧(l.length:Int)≤40) (by omega)];exact qIS (decide_eq_true k1) (qAU rfl)
 refine qHY (decide_eq_false k1) ?_
 by_cases k2:((l.map qAp).length:Int)>40
 ·rw [decide_eq_false (p:=1≤(l.length:Int)∧(l.length:Int)≤40) (by omega)];exact qIS (decide_eq_true k2) (qAU rfl)
 refine qHY (decide_eq_false k2) ?_
 rw [decide_eq_true (p:=1≤(l.length:Int)∧(l.length:Int)≤40) (by omega),Bool.true_and]
 by_cases k3:((bs.map qAN).length:Int)<1
 ·rw [decide_eq_false (p:=1≤(bs.length:Int)∧(bs.length:Int)≤8) (by omega)];exact qIS (decide_eq_true k3) (qAU rfl)
 refine qHY (decide_eq_false k3) ?_
 by_cases k4:((bs.map qAN).length:Int)>8
 ·rw [decide_eq_false (p:=1≤(bs.length:Int)∧(bs.length:Int)≤8) (by omega)];exact qIS (decide_eq_true k4) (qAU rfl)
 refine qHY (decide_eq_false k4) ?_
 rw [decide_eq_true (p:=1≤(bs.length:Int)∧(bs.length:Int)≤8) (by omega),Bool.true_and]
 refine qDI (r:=if qBC (qOq x l) 0 l=true then Sum.inr (x,l.map qAp,bs.map qAN) else Sum.inl false) (qRq x hx l (bs.map qAN) hl hv) ?_
 cases qBC (qOq x l) 0 l with
 |false=>exact qMk (qAU rfl)
 |true=>
  rw [Bool.true_and,if_pos rfl]
  refine qMj ?_
  refine qDI (r:=if qBC (brP l bs) 0 bs=true then Sum.inr () else Sum.inl false) (qRr x l bs hl hb hs) ?_
  cases qBC (brP l bs) 0 bs with
  |false=>exact qMk (qAU rfl)
  |true=>exact qMj (qAU rfl)
def qV9 (bs:List Br) (s:ByteArray):Int:=qGa (fun b=>b.1.toList==s.toList) bs
def qTi (bs:List Br) (s:ByteArray):Int:=((bs.find? fun b=>b.1.toList==s.toList).map fun b=>b.2).getD 0
theorem qTj {α:Type} (p:α→Bool):∀(l:List α) (i:Nat),(qEK (fun i a=>if p a=true then some (i:Int) else none) i l=none∧l.find? p=none)∨∃(k:Nat) (a:α),qEK (fun i a=>if p a=true then some (i:Int) else none) i l=some ((i+k:Nat):Int)∧l.find? p=some a∧l[k]?=some a
 | [],i=> .inl ⟨rfl,rfl⟩
 |a::l,i=>by
  unfold qEK
  rw [List.find?_cons]
  cases p a with
  |true=>exact .inr ⟨0,a,rfl,rfl,rfl⟩
  |false=>
   rcases qTj p l (i+1) with h|⟨k,b,h1,h2,h3⟩
   ·exact .inl h
   ·exact .inr ⟨k+1,b,by rw [show i+(k+1)=i+1+k by omega];exact h1,h2,by simpa using h3⟩
theorem qSI (x:Int) (l:List (List PV)) (bs:List Br) (hb:bs.length≤140737488351232) (s:ByteArray):Ev (qDa · x l (bs.map qAN) s) (qV9 bs s):=by
 unfold qV9
 refine qGZ (qEF (R:=fun n=>qFD n x l (bs.map qAN) s) (qDI (r:=qGa (fun b:Br=>b.1.toList==s.toList) bs) (qGZ (qEF (F:=fun n=>qq n (bs.map qAN) s) (R:=fun n=>qp n (bs.map qAN) s) (qS4 (fun b:Br=>b.1.toList==s.toList) (l:=bs) ⟨bs.length+2,fun m hm=>?_⟩ (fun _ _=>rfl) fun _ _=>rfl) fun n=>rfl)) (qAU rfl)) fun n=>rfl)
 obtain ⟨q,rfl⟩:∃q,m=q+1:=⟨m-1,by omega⟩
 have h:=qQ4 (B:=qm (q+1)) (fun i=>(bs.map qAN,s,((bs.map qAN).length:Int),(i:Int))) bs (fun i v=>if (v.1.toList==s.toList)=true then some (Sum.inl (β:=Unit) (i:Int)) else none) (.inr ())
  (fun i c he=>by
   have hi:=(List.getElem?_eq_some_iff.1 he).1
   obtain ⟨a1,a2⟩:=qGN rfl (qJy (enc:=qAN) he)
   have w:IntKind.i64.wrap ((i:Int)+1)=((i+1:Nat):Int):=by rw [qT (by omega)];omega
   refine qD (decide_eq_true (by simpa using hi)) (qD a1 (qA a2 (qD rfl (qA rfl (qA rfl (qA (rfl:_=some (c.1.toList==s.toList)) ?_))))))
   by_cases hc:(c.1.toList==s.toList)=true
   ·rw [if_pos hc];exact qD hc rfl
   ·rw [if_neg hc]
    refine qO (Bool.eq_false_iff.2 hc) ?_
    dsimp only
    rw [w]
    rfl)
  (qO (decide_eq_false (by simp)) rfl) (q+1) (by omega)
 exact h
theorem qSJ {R:Type} (s:ByteArray) (g:Int→R):∀(l:List Br) (i:Nat),qEK (fun _ (b:Br)=>if (b.1.toList==s.toList)=true then some (g b.2) else none) i l=(l.find? fun b=>b.1.toList==s.toList).map fun b=>g b.2
 | [],i=>rfl
 |a::l,i=>by
  unfold qEK
  rw [List.find?_cons]
  cases a.1.toList==s.toList with
  |true=>rfl
  |false=>exact qSJ s g l (i+1)
theorem qT3 (x:Int) (l:List (List PV)) (bs:List Br) (hb:bs.length≤140737488351232) (s:ByteArray):Ev (qG2 · x l (bs.map qAN) s) (qTi bs s):=by
 refine qGZ (qEF (R:=fun n=>qG1 n x l (bs.map qAN) s) (qDI (r:=((bs.find? fun b=>b.1.toList==s.toList).map fun b=>Sum.inl (β:=Unit) b.2).getD (.inr ())) ⟨bs.length+2,fun m hm=>?_⟩ ?_) fun n=>rfl)
 ·have h:=qQ4 (B:=qE3 m) (fun i=>(s,(i:Int),x,l,bs.map qAN)) bs (fun _ v=>if (v.1.toList==s.toList)=true then some (Sum.inl (β:=Unit) v.2) else none) (.inr ())
   (fun i c he=>by
    have hi:=(List.getElem?_eq_some_iff.1 he).1
    obtain ⟨a1,a2⟩:=qGN rfl (qJy (enc:=qAN) he)
    have w:IntKind.i64.wrap ((i:Int)+1)=((i+1:Nat):Int):=by rw [qT (by omega)];omega
    refine qD (decide_eq_true (by simpa using hi)) (qD a1 (qA a2 (qD rfl (qA rfl ?_))))
    by_cases hc:(c.1.toList==s.toList)=true
    ·rw [if_pos hc];exact qD hc (qD a1 (qA a2 (qD rfl (qA rfl rfl))))
    ·rw [if_neg hc]
     refine qO (Bool.eq_false_iff.2 hc) ?_
     dsimp only
     rw [w]
     rfl)
   (qO (decide_eq_false (by simp)) rfl) m (by omega)
  rw [qSJ] at h
  exact h
 ·unfold qTi
  cases bs.find? fun b=>b.1.toList==s.toList with
  |some b=>exact qMk (qAU rfl)
  |none=>exact qMj (qAU rfl)
theorem qQ7 (x:Int) (l:List Vs) (bs:List Br) (s:ByteArray) (hl:l.length≤140737488351232) (hv:∀v∈l,qLn v) (hb:bs.length≤140737488351232) (hs:∀b∈bs,b.1.size≤140737488351232):Ev (qIA · x (l.map qAp) (bs.map qAN) s) (if qTh x l bs=true then qTi bs s else 0):=by
 refine qGZ (qEF (R:=fun n=>qH9 n x (l.map qAp) (bs.map qAN) s) (qDI (qRs x l bs hl hv hb hs) ?_) fun n=>rfl)
 cases qTh x l bs with
 |false=>exact qIS rfl (qAU rfl)
 |true=>exact qHY rfl (qDI (qT3 x _ bs hb s) (qAU rfl))
theorem qQ8 (x:Int) (l:List Vs) (bs:List Br) (s:ByteArray) (hl:l.length≤140737488351232) (hv:∀v∈l,qLn v) (hb:bs.length≤140737488351232) (hs:∀b∈bs,b.1.size≤140737488351232):Ev (qIL · x (l.map qAp) (bs.map qAN) s) (if qTh x l bs=true then qTi bs s else 0):=by
 refine qGZ (qEF (R:=fun n=>qIK n x (l.map qAp) (bs.map qAN) s) (qDI (qRp x l bs hl hv hb hs) ?_) fun n=>rfl)
 cases qTh x l bs with
 |false=>exact qIS rfl (qAU rfl)
 |true=>
  refine qHY rfl (qDI (qSI x _ bs hb s) ?_)
  rw [if_pos rfl]
  have hbr:=qSI x (l.map qAp) bs hb s
  unfold qV9 qGa at hbr⊢
  unfold qTi
  rcases qTj (fun b:Br=>b.1.toList==s.toList) bs 0 with ⟨e1,e2⟩|⟨k,b,e1,e2,e3⟩
  ·rw [e1,e2]
   exact qIS rfl (qAU rfl)
  ·rw [e1] at hbr⊢
   rw [e2]
   rw [Nat.zero_add] at hbr⊢
   obtain ⟨a1,a2⟩:=qGN (k:=(k:Int)) rfl (qJy (enc:=qAN) e3)
   exact qHY (decide_eq_false (show ¬(k:Int)<0 by omega)) (qDI hbr (qIS a1 (qUP a2 (qIS rfl (qUP rfl (qAU rfl))))))
theorem law (x:Int) (vr br:List (List PV)) (s:ByteArray) (wx:(Lit.int .i64 x).wf=true) (wv:vr.length*56≤140737488351232∧∀r∈vr,okR [.i .i64,.sl 8 [.i .i64],.sl 32 [.i .i64,.i .i64,.s]] r) (wb:br.length*24≤140737488351232∧∀r∈br,okR [.s,.i .i64] r) (ws:s.size≤140737488351232):Ev (qFy · x vr br s) true:=by
 obtain ⟨l,rfl,hv⟩:=qVg wv.2
 obtain ⟨bs,rfl,hs⟩:=qVh wb.2
 have hl:l.length*56≤140737488351232:=by simpa using wv.1
 have hb:bs.length*24≤140737488351232:=by simpa using wb.1
 obtain ⟨n1,h1⟩:=qVB x l bs hl hv hb
 obtain ⟨n2,h2⟩:=qQ7 x l bs s (by omega) hv (by omega) hs
 obtain ⟨n3,h3⟩:=qQ8 x l bs s (by omega) hv (by omega) hs
 obtain ⟨n4,h4⟩:=qVE x l bs (by omega) hv (by omega)
 obtain ⟨n5,h5⟩:=qVD x l bs (by omega) hv (by omega) 1048576
 refine ⟨n1+n2+n3+n4+n5+1,fun n hn=>?_⟩
 obtain ⟨m,rfl,hm⟩:=up1 hn
 obtain ⟨r,hr⟩:=h5 m (by omega)
 have h1:=h1 m (by omega)
 have h2:=h2 m (by omega)
 have h3:=h3 m (by omega)
 have h4:=h4 m (by omega)
 by_cases hz:(s.size:Int)>1048576
 ·exact qD (decide_eq_true hz) rfl
 refine qO (decide_eq_false hz) (qA hr ?_)
 by_cases h0:r<0
 ·exact qD (decide_eq_true h0) rfl
 ·exact qO (decide_eq_false h0) (qA h1 (qA h2 (qA h1 (qA h3 (qO (bne_self_eq_false _) (qA h1 (qA h4 (qO rfl rfl))))))))
inductive Rch (sc:Nat→List Nat) (a:Nat):Nat→Prop
 |one {j:Nat}:j∈sc a→Rch sc a j
 |more {i j:Nat}:Rch sc a i→j∈sc i→Rch sc a j
def qJX (Q:List Nat):List Nat→List Nat
 | []=>Q
 |x::M=>qJX (if Q.contains x=true then Q else Q++ [x]) M
theorem qFd {x:Nat}:∀(M Q:List Nat),x∈qJX Q M↔x∈Q∨x∈M
 | [],Q=>by simp [qJX]
 |y::M,Q=>by
  unfold qJX
  rw [qFd M]
  by_cases h:Q.contains y=true
  ·rw [if_pos h]
   have hy:y∈Q:=by simpa using h
   rw [List.mem_cons]
   constructor
   ·rintro (h|h)
    ·exact .inl h
    ·exact .inr (.inr h)
   ·rintro (h|rfl|h)
    ·exact .inl h
    ·exact .inl hy
    ·exact .inr h
  ·rw [if_neg h,List.mem_append,List.mem_singleton,List.mem_cons,or_assoc]
theorem qNl:∀(M Q:List Nat),Q.Nodup→(qJX Q M).Nodup
 | [],Q,h=>h
 |y::M,Q,h=>by
  unfold qJX
  refine qNl M _ ?_
  by_cases hy:Q.contains y=true
  ·rw [if_pos hy];exact h
  ·rw [if_neg hy]
   have hy':y∉Q:=by simpa using hy
   rw [List.nodup_append]
   refine ⟨h,by simp,fun a ha b hb=>?_⟩
   rw [List.mem_singleton] at hb
   subst hb
   rintro rfl
   exact hy' ha
theorem qMl:∀(M Q:List Nat) (k:Nat),k<Q.length→(qJX Q M)[k]?=Q[k]?
 | [],Q,k,h=>rfl
 |y::M,Q,k,h=>by
  unfold qJX
  by_cases hy:Q.contains y=true
  ·rw [if_pos hy];exact qMl M Q k h
  ·rw [if_neg hy,qMl M _ k (by simp;omega),List.getElem?_append_left h]
theorem qT4:∀(n:Nat) (l:List Nat),l.Nodup→(∀x∈l,x<n)→l.length≤n
 |0,l,_,h=>by
  cases l with
  |nil=>simp
  |cons a l=>exact absurd (h a (List.mem_cons_self ..)) (Nat.not_lt_zero a)
 |n+1,l,hd,h=>by
  by_cases hn:n∈l
  ·have h1:=qT4 n (l.erase n) (hd.erase n) fun x hx=>by
    have h2:=(hd.mem_erase_iff).1 hx
    have:=h x h2.2
    omega
   rw [List.length_erase_of_mem hn] at h1
   omega
  ·have:=qT4 n l hd fun x hx=>by
    have h2:=h x hx
    have h3:x≠n:=fun e=>hn (e▸hx)
    omega
   omega
structure QI (sc:Nat→List Nat) (a n:Nat) (Q:List Nat) (k:Nat):Prop where
 nd:Q.Nodup
 lt:∀x∈Q,x<n
 rc:∀x∈Q,Rch sc a x
 st:∀j∈sc a,j∈Q
 dn:∀i q,i<k→Q[i]?=some q→q≠a∧∀j∈sc q,j∈Q
theorem QI.len {sc:Nat→List Nat} {a n:Nat} {Q:List Nat} {k:Nat} (h:QI sc a n Q k):Q.length≤n:=qT4 n Q h.nd h.lt
theorem QI.all {sc:Nat→List Nat} {a n:Nat} {Q:List Nat} (h:QI sc a n Q Q.length):¬Rch sc a a:=by
 have key:∀x,Rch sc a x→x∈Q:=fun x hx=>by
  induction hx with
  |one h1=>exact h.st _ h1
  |more h1 h2 ih=>
   obtain ⟨i,hi,e⟩:=List.mem_iff_getElem.1 ih
   exact (h.dn i _ hi (by rw [List.getElem?_eq_getElem hi,e])).2 _ h2
 intro hr
 obtain ⟨i,hi,e⟩:=List.mem_iff_getElem.1 (key a hr)
 exact (h.dn i _ hi (by rw [List.getElem?_eq_getElem hi,e])).1 rfl
theorem QI.next {sc:Nat→List Nat} {a n:Nat} {Q:List Nat} {k q:Nat} (h:QI sc a n Q k) (hq:Q[k]?=some q) (hne:q≠a) (hs:∀j∈sc q,j<n):QI sc a n (qJX Q (sc q)) (k+1):=by
 have hk:=(List.getElem?_eq_some_iff.1 hq).1
 have hm:=List.mem_of_getElem? hq
 refine ⟨qNl _ _ h.nd,fun x hx=>?_,fun x hx=>?_,fun j hj=>(qFd _ _).2 (.inl (h.st j hj)),fun i r hi hr=>?_⟩
 ·rcases (qFd _ _).1 hx with hx|hx
  ·exact h.lt x hx
  ·exact hs x hx
 ·rcases (qFd _ _).1 hx with hx|hx
  ·exact h.rc x hx
  ·exact .more (h.rc q hm) hx
 ·rw [qMl _ _ i (by omega)] at hr
  by_cases e:i=k
  ·subst e
   rw [hq] at hr
   cases hr
   exact ⟨hne,fun j hj=>(qFd _ _).2 (.inr hj)⟩
  ·obtain ⟨h1,h2⟩:=h.dn i r (by omega) hr
   exact ⟨h1,fun j hj=>(qFd _ _).2 (.inl (h2 j hj))⟩
theorem QI.start {sc:Nat→List Nat} {a n:Nat} (hd:(sc a).Nodup) (hs:∀j∈sc a,j<n):QI sc a n (sc a) 0:=⟨hd,hs,fun x hx=> .one hx,fun j hj=>hj,fun i q hi=>absurd hi (Nat.not_lt_zero i)⟩
structure MI (sc:Nat→List Nat) (a n:Nat) (met:List Bool) (Q:List Nat) (k:Nat):Prop where
 ln:met.length=n
 kl:k≤Q.length
 lt:∀x∈Q,x<n
 rc:∀x∈Q,Rch sc a x
 st:∀j∈sc a,j∈Q
 mt:∀i,met[i]?=some true→∀j∈sc i,j∈Q
 dn:∀i q,i<k→Q[i]?=some q→q≠a∧met[q]?=some true
theorem MI.all {sc:Nat→List Nat} {a n:Nat} {met:List Bool} {Q:List Nat} (h:MI sc a n met Q Q.length):¬Rch sc a a:=by
 have key:∀x,Rch sc a x→x∈Q:=fun x hx=>by
  induction hx with
  |one h1=>exact h.st _ h1
  |more h1 h2 ih=>
   obtain ⟨i,hi,e⟩:=List.mem_iff_getElem.1 ih
   exact h.mt _ (h.dn i _ hi (by rw [List.getElem?_eq_getElem hi,e])).2 _ h2
 intro hr
 obtain ⟨i,hi,e⟩:=List.mem_iff_getElem.1 (key a hr)
 exact (h.dn i _ hi (by rw [List.getElem?_eq_getElem hi,e])).1 rfl
theorem MI.start {sc:Nat→List Nat} {a n:Nat} (hs:∀j∈sc a,j<n):MI sc a n (List.replicate n false) (sc a) 0:=⟨by simp,Nat.zero_le _,hs,fun x hx=> .one hx,fun j hj=>hj,fun i hi=>by
 obtain ⟨h1,h2⟩:=List.getElem?_eq_some_iff.1 hi
 simp at h2,fun i q hi=>absurd hi (Nat.not_lt_zero i)⟩
inductive Tch (bs:Nat→Prop) (sc:Nat→List Nat):Nat→Prop
 |zero {i:Nat}:bs i→Tch bs sc i
 |lean {i k:Nat}:k∈sc i→Tch bs sc k→Tch bs sc i
structure TI (bs:Nat→Prop) (sc:Nat→List Nat) (n:Nat) (o:List Bool):Prop where
 ln:o.length=n
 ok:∀i,o[i]?=some true→Tch bs sc i
 st:∀i,i<n→bs i→o[i]?=some true
theorem TI.set {bs:Nat→Prop} {sc:Nat→List Nat} {n:Nat} {o:List Bool} (h:TI bs sc n o) {i k:Nat} (hk:k∈sc i) (ho:o[k]?=some true):TI bs sc n (o.set i true):=by
 refine ⟨by rw [List.length_set];exact h.ln,fun j hj=>?_,fun j hj hb=>?_⟩
 ·by_cases e:i=j
  ·subst e;exact .lean hk (h.ok k ho)
  ·rw [List.getElem?_set_ne e] at hj;exact h.ok j hj
 ·by_cases e:i=j
  ·subst e;exact List.getElem?_set_self (by rw [h.ln];exact hj)
  ·rw [List.getElem?_set_ne e];exact h.st j hj hb
theorem TI.all {bs:Nat→Prop} {sc:Nat→List Nat} {n:Nat} {o:List Bool} (h:TI bs sc n o) (hn:∀i,∀k∈sc i,k<n) (hc:∀i,i<n→∀k∈sc i,o[k]?=some true→o[i]?=some true) {i:Nat} (hi:i<n):o[i]?=some true↔Tch bs sc i:=by
 refine ⟨h.ok i,fun ht=>?_⟩
 induction ht with
 |zero hb=>exact h.st _ hi hb
 |lean hk _ ih=>exact hc _ hi _ hk (ih (hn _ _ hk))
structure SI (hr b2:Nat→Bool) (sc:Nat→List Nat) (n:Nat) (A:List Nat):Prop where
 nd:A.Nodup
 lt:∀a∈A,a<n
 ok:∀a∈A,Tch (fun i=>hr i=true∨b2 i=true) sc a
theorem SI.add {hr b2:Nat→Bool} {sc:Nat→List Nat} {n:Nat} {A:List Nat} {i:Nat} (h:SI hr b2 sc n A) (hi:i<n) (h1:¬(hr i||A.contains i)=true) (h2:(b2 i||A.any fun k=>(sc i).contains k)=true):SI hr b2 sc n (A++ [i]):=by
 have hn:i∉A:=fun hi=>h1 (by rw [Bool.or_eq_true];exact .inr (by simpa using hi))
 refine ⟨?_,fun a ha=>?_,fun a ha=>?_⟩
 ·rw [List.nodup_append]
  refine ⟨h.nd,by simp,fun a ha b hb=>?_⟩
  rw [List.mem_singleton] at hb
  subst hb
  rintro rfl
  exact hn ha
 ·rcases List.mem_append.1 ha with ha|ha
  ·exact h.lt a ha
  ·rw [List.mem_singleton] at ha;omega
 ·rcases List.mem_append.1 ha with ha|ha
  ·exact h.ok a ha
  ·rw [List.mem_singleton] at ha
   subst ha
   rcases Bool.or_eq_true_iff.1 h2 with hb|hb
   ·exact .zero (.inr hb)
   ·obtain ⟨k,hk,hc⟩:=List.any_eq_true.1 hb
    exact .lean (by simpa using hc) (h.ok k hk)
theorem SI.all {hr b2:Nat→Bool} {sc:Nat→List Nat} {n:Nat} {A:List Nat} (h:SI hr b2 sc n A) (hn:∀i,∀k∈sc i,k<n) (hb:∀i,∀k∈sc i,hr k=true→b2 i=true)
  (hc:∀i,i<n→(b2 i||A.any fun k=>(sc i).contains k)=true→(hr i||A.contains i)=true) {i:Nat} (hi:i<n):(hr i||A.contains i)=true↔Tch (fun i=>hr i=true∨b2 i=true) sc i:=by
 constructor
 ·intro h1
  rcases Bool.or_eq_true_iff.1 h1 with h1|h1
  ·exact .zero (.inl h1)
  ·exact h.ok i (by simpa using h1)
 ·intro ht
  induction ht with
  |zero hq=>
   rcases hq with hq|hq
   ·rw [hq];rfl
   ·exact hc _ hi (by rw [hq];rfl)
  | @lean i k hk _ ih=>
   refine hc i hi ?_
   rw [Bool.or_eq_true]
   rcases Bool.or_eq_true_iff.1 (ih (hn _ _ hk)) with h1|h1
   ·exact .inl (hb i k hk h1)
   ·exact .inr (List.any_eq_true.2 ⟨k,by simpa using h1,by simpa using hk⟩)
end Go.Proofs.YtkkkfjgagjdcoaaGreatDoor.KFnExactHeadOf

