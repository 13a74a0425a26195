import Derived.Test.YtkkkfjgagjdcoaaGreatDoorTFnExactDagOk
import Derived.Test.YtkkkfjgagjdcoaaGreatDoorE32
import Derived.Lib.Strings
import Derived.Test.YtkkkfjgagjdcoaaGreatDoorSFnExactDagOkp1
namespace Go.Proofs.YtkkkfjgagjdcoaaGreatDoor.KFnExactDagOk
open Go.Eng
set_option linter.unusedVariables false
set_option linter.unusedSimpArgs false
theorem qUr (N:Nat) (hA:qUo N) (hT:∀M,M≤N→qUp M):qUJ N:=by
 intro p q deep k f g hk hl hN hd hdN hf hg
 obtain ⟨g5,hg5,ht⟩:=qSm (G:=20*N+5) hl.2.1 k hk g (by omega)
 cases f with
 |zero=>omega
 |succ f=>
  simp only [pP]
  have ha:=hA p q deep f g5 hl hN hd hdN (by omega) hg5
  have hlen:=qDi f (.un deep) p
  generalize pP f (.un deep) p=A at ha hlen⊢
  generalize sP g5 (.row 5) q=B at ha ht
  rcases ha with ⟨h1,h2⟩|⟨h1,h2⟩
  ·have hM:(tb A.2.1).length≤N:=by omega
   refine hT _ hM 4 (by omega) A.2 B.2 deep (5-(k:Int)) A.1 f _ h2 rfl (by omega) hd (by omega) (by omega) (.inr ?_) ?_
   ·have:=(qTC (op:=qAs (tb A.2.1))).2;omega
   ·rw [h1];exact qOI (by omega) 4 ht
  ·exact .inr ⟨qM7 4 h1 ht,qCy f _ _ h2⟩
theorem qUs (H:RdOK) (N:Nat) (hB:qUJ N) (hC:∀M,M<N→qUq M):qUq N:=by
 intro p q deep op kids f g hl hN hd hdN hf hg
 cases f with
 |zero=>omega
 |succ f=>
 cases g with
 |zero=>omega
 |succ g=>
 cases g with
 |zero=>omega
 |succ g=>
 have hpq:=hl.2.2.2
 have hpb:¬p.2.1=true:=by rw [hl.1];simp
 have hqb:¬q.2.1=true:=by rw [hl.2.1];simp
 have harg:Sim (qEZ (qBG p) (fun p=>pP f (.bin 1 (deep+1)) p)) (sP (g+1) .arg q)∧(tb (qEZ (qBG p) (fun p=>pP f (.bin 1 (deep+1)) p)).2.1).length≤N:=by
  refine ⟨?_,?_⟩
  ·have hw:Lk (wr (tb p.1),p.2) (wr (tb q.1),q.2):=⟨hl.1,hl.2.1,hl.2.2.1,by rw [hpq]⟩
   obtain ⟨e1,e2⟩:=qKo (c:=58) (by decide) hw
   simp only [sP]
   unfold qEZ qBG
   simp only
   rw [hpq] at e1 e2⊢
   by_cases hc:(qA2 (BR (wd (tb q.1)))).2.2.2.2=true∧(qX [58] (wr (tb q.1),p.2)).1=true
   ·rw [if_pos hc,if_pos ⟨hc.1,e1▸hc.2⟩]
    simp only
    rw [e2.2.2.2]
    by_cases h2:(qA2 (BR (wd (tb (sIs [58] (wr (tb q.1),q.2)).2.1)))).2.2.2.2=true
    ·rw [if_pos h2,h2]
     simp only [Bool.not_true,Bool.or_false]
     exact qI8 ⟨e2.1,e2.2.1,e2.2.2.1,rfl⟩
    ·rw [if_neg h2]
     refine .inr ⟨rfl,qCm (.inl ?_)⟩
     simp only
     have h2:(qA2 (BR (wd (tb (sIs [58] (wr (tb q.1),q.2)).2.1)))).2.2.2.2=false:=by simpa using h2
     rw [h2];simp
   ·rw [if_neg hc,if_neg (fun e=>hc ⟨e.1,e1.symm▸e.2⟩)]
    simp only
    have:=hB p (tb q.1,q.2) (deep+1) 4 f g (by omega) ⟨hl.1,hl.2.1,hl.2.2.1,by simp only;rw [qCX];exact hpq⟩ hN (by omega) (by omega) (by omega) (by omega)
    exact this.sim
  ·unfold qEZ
   split
   ·rw [qA0];have:=qIW p;omega
   ·have h1:=qDi f (.bin 1 (deep+1)) (qBG p).2
    have h2:=qIW p
    exact Nat.le_trans h1 (by omega)
 obtain ⟨harg,hal⟩:=harg
 simp only [pP]
 rw [if_neg hpb]
 have hs:sP (g+1+1) (.call op kids) q=(if (sIs [41] (sP (g+1) .arg q).2).1=true then qD9 (ndK 6 op (kids++ [(sP (g+1) .arg q).1])) (sIs [41] (sP (g+1) .arg q).2).2
  else sP (g+1) (.call op (kids++ [(sP (g+1) .arg q).1])) (if (sIs [44] (sIs [41] (sP (g+1) .arg q).2).2).1=true then (sIs [44] (sIs [41] (sP (g+1) .arg q).2).2).2 else qMJ (sIs [44] (sIs [41] (sP (g+1) .arg q).2).2).2)):=by
  rw [sP]
  rw [if_neg hqb]
 rw [hs]
 generalize qEZ (qBG p) (fun p=>pP f (.bin 1 (deep+1)) p)=Q at harg hal⊢
 generalize sP (g+1) .arg q=A at harg⊢
 rcases harg with ⟨h1,h2⟩|⟨h1,h2⟩
 ·have hb2:=h2.2.1
  obtain ⟨c1,c2⟩:=qKo (c:=44) (by decide) h2
  have i41:=qM8 (c:=41) hb2
  have i44:=qM8 (c:=44) hb2
  by_cases hc:(qX [44] Q.2).1=true
  ·rw [if_pos hc]
   have hh:=i44.1 (c1▸hc)
   have n41:¬(sIs [41] A.2).1=true:=fun e=>by rw [i41.1 e] at hh;cases hh
   rw [if_neg n41]
   have e41:(sIs [41] A.2).2=(tb A.2.1,A.2.2):=by
    unfold sIs at n41⊢
    rw [if_neg (by rw [hb2];simp)] at n41⊢
    split
    ·rename_i hx;rw [if_pos hx] at n41;exact absurd rfl n41
    ·rfl
   rw [e41]
   have e44:sIs [44] (tb A.2.1,A.2.2)=sIs [44] A.2:=by unfold sIs;simp only [qCX]
   rw [e44,if_pos (c1▸hc),h1]
   have hlt:=qDh (w:= [44]) (by simp) hc
   have htb:=qAA (qX [44] Q.2).2.1
   exact hC _ (by omega) (qX [44] Q.2).2 (sIs [44] A.2).2 deep op _ f (g+1) c2 rfl hd (by omega) (by omega) (by omega)
  ·rw [if_neg hc]
   have et:(qX [44] Q.2).2=(tb Q.2.1,Q.2.2):=by
    unfold qX at hc⊢
    split
    ·rename_i hx;rw [if_pos hx] at hc;exact absurd rfl hc
    ·rfl
   rw [et]
   have hl2:Lk (tb Q.2.1,Q.2.2) A.2:=⟨h2.1,h2.2.1,h2.2.2.1,by simp only;rw [qCX];exact h2.2.2.2⟩
   have hm:=qSl (c:=41) (by decide) (a:=(A.1,(tb Q.2.1,Q.2.2))) (b:=(A.1,A.2)) (.inl ⟨rfl,hl2⟩)
   by_cases h41:(sIs [41] A.2).1=true
   ·rw [if_pos h41]
    simp only [h41,if_true] at hm
    have:=qSk (fun _=>ndK 6 op (kids++ [A.1])) hm
    rw [h1]
    exact this
   ·rw [if_neg h41]
    have e41:(sIs [41] A.2).2=(tb A.2.1,A.2.2):=by
     unfold sIs at h41⊢
     rw [if_neg (by rw [hb2];simp)] at h41⊢
     split
     ·rename_i hx;rw [if_pos hx] at h41;exact absurd rfl h41
     ·rfl
    have e44:sIs [44] (tb A.2.1,A.2.2)=sIs [44] A.2:=by unfold sIs;simp only [qCX]
    rw [e41,e44,if_neg (c1▸hc)]
    refine .inr ⟨qOH _ _ _ rfl,qCm ?_⟩
    simp only [if_neg h41] at hm
    rcases hm with ⟨_,_,hb,_⟩|⟨_,hdm⟩
    ·simp [qMJ] at hb
    ·exact hdm
 ·have e41:sIs [41] A.2=(false,tb A.2.1,A.2.2):=qI7 h1
  have e44:sIs [44] (tb A.2.1,A.2.2)=(false,tb (tb A.2.1),A.2.2):=qI7 h1
  rw [e41]
  simp only [Bool.false_eq_true,if_false]
  rw [e44]
  simp only [Bool.false_eq_true,if_false]
  refine .inr ⟨qOH _ _ _ rfl,?_⟩
  split
  ·exact qCy f _ _ (qEa h2)
  ·exact qCm (qIV (qEa h2))
theorem qSo {c d:UInt8} (h:c≠d) {r:List UInt8} (hr:r.head?=some c):¬r.head?=some d:=by rw [hr];simpa using h
theorem qUt (H:RdOK) (N:Nat) (hA:∀M,M<N→qUo M) (hB:∀M,M<N→qUJ M) (hC:∀M,M<N→qUq M):qUo N:=by
 intro p q deep f g hl hN hd hdN hf hg
 cases f with
 |zero=>omega
 |succ f=>
 cases f with
 |zero=>omega
 |succ f=>
 cases g with
 |zero=>omega
 |succ g=>
 cases g with
 |zero=>omega
 |succ g=>
 have hpq:=hl.2.2.2
 have hpb:¬p.2.1=true:=by rw [hl.1];simp
 have hqb:¬q.2.1=true:=by rw [hl.2.1];simp
 have hq0:=hl.2.1
 have hs:sP (g+1+1) (.row 5) q=sP (g+1) .one q:=by
  rw [sP,if_neg hqb,if_pos rfl]
 rw [hs]
 obtain ⟨e1,e2⟩:=qKo (c:=45) (by decide) hl
 rw [pP]
 rw [if_neg (by intro e;rcases e with e|e;omega;exact hpb e)]
 by_cases hc:(qX [45] p).1=true
 ·rw [if_pos hc]
  simp only [sP]
  rw [if_pos (e1▸hc)]
  have hlt:=qDh (w:= [45]) (by simp) hc
  have htb:=qAA (qX [45] p).2.1
  exact qSk (fun k=>ndK 4 0 [k]) (hA _ (by omega) _ _ (deep+1) (f+1) g e2 rfl (by omega) (by omega) (by omega) (by omega))
 ·rw [if_neg hc]
  have hp':(qX [45] p).2=(tb p.1,p.2):=by
   unfold qX at hc⊢
   split
   ·rename_i hx;rw [if_pos hx] at hc;exact absurd rfl hc
   ·rfl
  have hq':(sIs [45] q).2=(tb q.1,q.2):=by
   have hc:¬(sIs [45] q).1=true:=e1▸hc
   unfold sIs at hc⊢
   rw [if_neg hqb] at hc⊢
   split
   ·rename_i hx;rw [if_pos hx] at hc;exact absurd rfl hc
   ·rfl
  rw [hp']
  simp only [sP]
  rw [if_neg (e1▸hc),hq']
  simp only [pP,qCX]
  have hl2:Lk (tb p.1,p.2) (tb q.1,q.2):=⟨hl.1,hl.2.1,hl.2.2.1,by simp only [qCX];exact hpq⟩
  obtain ⟨f1,f2⟩:=qKo (c:=40) (by decide) hl2
  have i40:=qM8 (c:=40) (q:=(tb q.1,q.2)) hq0
  have i34:=qM8 (c:=34) (q:=(tb q.1,q.2)) hq0
  have i35:=qM8 (c:=35) (q:=(tb q.1,q.2)) hq0
  simp only [qCX] at i40 i34 i35
  rw [hpq] at hN f1 f2⊢
  by_cases h34:(tb q.1).head?=some 34
  ·rw [if_pos h34,if_neg (fun e=>qSo (by decide) h34 (i40.1 e)),if_pos (i34.2 h34)]
   have es:(sIs [34] (tb q.1,q.2)).2.1=(tb q.1).tail:=by
    have:=i34.2 h34
    unfold sIs at this⊢
    rw [if_neg hqb] at this⊢
    simp only [qCX] at this⊢
    split
    ·simp
    ·rename_i hx;rw [if_neg hx] at this;cases this
   rw [es]
   cases hqr:qCC [] (tb q.1).tail with
   |none=>exact .inr ⟨rfl,.inl rfl⟩
   |some st=>
    obtain ⟨s,t⟩:=st
    exact qI8 ⟨hl.1,hl.2.1,hl.2.2.1,rfl⟩
  ·rw [if_neg h34]
   by_cases h35:(tb q.1).head?=some 35
   ·rw [if_pos h35,if_neg (fun e=>qSo (by decide) h35 (i40.1 e)),if_neg (fun e=>h34 (i34.1 e)),if_pos (i35.2 h35)]
    have es:(sIs [35] (tb q.1,q.2)).2.1=(tb q.1).tail:=by
     have:=i35.2 h35
     unfold sIs at this⊢
     rw [if_neg hqb] at this⊢
     simp only [qCX] at this⊢
     split
     ·simp
     ·rename_i hx;rw [if_neg hx] at this;cases this
    rw [es,qUI H h35 5 1 (by omega) (by omega)]
    cases he:qJc (tb q.1) 1 5 with
    |some n=>
     simp only
     obtain ⟨t,ht⟩:=H.n n (by have:=qSn 5 1 he;omega)
     have hsz:(qe n).size=t.length+1:=by rw [←qAT,ht];rfl
     refine qI8 ⟨hl.1,hl.2.1,hl.2.2.1,?_⟩
     simp only
     rw [hsz]
     cases hr:tb q.1 with
     |nil=>rw [hr] at h35;cases h35
     |cons c r=>rfl
    |none=>
     simp only
     rw [if_neg (fun e=>e.1 h35)]
     have hw:wd (tb q.1)= []:=by
      cases hr:tb q.1 with
      |nil=>rw [hr] at h35;cases h35
      |cons c r=>
       rw [hr] at h35
       simp only [List.head?_cons,Option.some.injEq] at h35
       subst h35
       rfl
     rw [hw,if_neg (fun e=>H.v0 e.2),if_neg (by rw [H.p0];simp),H.f0]
     exact .inr ⟨rfl,qFo _⟩
   ·rw [if_neg h35]
    simp only
    by_cases h40:(qX [40] (tb q.1,p.2)).1=true
    ·rw [if_pos ⟨h35,h40⟩,if_pos (f1▸h40)]
     have hlt:=qDh (w:= [40]) (by simp) h40
     simp only [qCX] at hlt
     have htb:=qAA (qX [40] (tb q.1,p.2)).2.1
     have hb:=(hB _ (by omega) _ _ (deep+1) 4 f g (by omega) f2 rfl (by omega) (by omega) (by omega) (by omega)).sim
     have e5:(5-((4:Nat):Int))=1:=by omega
     rw [e5] at hb
     exact qSl (by decide) hb
    ·have n40:¬(sIs [40] (tb q.1,q.2)).1=true:=f1▸h40
     have n34:¬(sIs [34] (tb q.1,q.2)).1=true:=fun e=>h34 (i34.1 e)
     have n35:¬(sIs [35] (tb q.1,q.2)).1=true:=fun e=>h35 (i35.1 e)
     rw [if_neg (fun e=>h40 e.2),if_neg n40,if_neg n34,if_neg n35]
     have hl3:Lk (wr (tb q.1),p.2) (wr (tb q.1),q.2):=⟨hl.1,hl.2.1,hl.2.2.1,rfl⟩
     cases hfn:qGS (wd (tb q.1)) 1 10 with
     |some op=>
      simp only
      obtain ⟨z1,z2⟩:=H.f _ _ hfn
      rw [if_neg (by rw [z1];simp),if_neg (by rw [z2];simp)]
      have hne:1≤(wd (tb q.1)).length:=by
       cases hw:wd (tb q.1) with
       |nil=>rw [hw,H.f0] at hfn;cases hfn
       |cons c t=>simp
      have hlen:(wr (tb q.1)).length+1≤N:=by
       have:=congrArg List.length (wdr (tb q.1))
       simp only [List.length_append] at this
       omega
      obtain ⟨k1,k2⟩:=qKo (c:=40) (by decide) hl3
      cases f with
      |zero=>omega
      |succ f=>
       simp only [pP]
       by_cases ht:(sIs [40] (wr (tb q.1),q.2)).1=true
       ·rw [if_pos ht]
        have em:qCR [40] (wr (tb q.1),p.2)=(qX [40] (wr (tb q.1),p.2)).2:=by
         unfold qCR
         rw [if_neg hpb,if_pos (k1▸ht)]
        rw [em]
        have hlt:=qDh (w:= [40]) (by simp) (k1.symm▸ht)
        have h2:=qAA (wr (tb q.1))
        have h3:=qAA (qX [40] (wr (tb q.1),p.2)).2.1
        simp only at hlt
        exact hC _ (by omega) _ _ deep op [] f g k2 rfl hd (by omega) (by omega) (by omega)
       ·rw [if_neg ht]
        have em:qCR [40] (wr (tb q.1),p.2)=qTB (qX [40] (wr (tb q.1),p.2)).2:=by
         unfold qCR
         rw [if_neg hpb,if_neg (k1▸ht)]
        rw [em]
        exact .inr ⟨rfl,qCy f _ _ (qFo _)⟩
     |none=>
      simp only
      by_cases hw0:wd (tb q.1)= []
      ·rw [hw0,if_neg (fun e=>H.v0 e.2),if_neg (by rw [H.p0];simp),if_neg (fun e=>e.2 rfl),if_neg (by rw [H.p0];simp)]
       exact .inr ⟨rfl,qFo _⟩
      ·by_cases hv:(qh (BR (wd (tb q.1)))).2.2.2=true
       ·rw [if_pos ⟨hv,H.v _ (qTD _) hw0 hv⟩,if_pos ⟨hv,hw0⟩]
        exact qI8 hl3
       ·have nv1:¬((qh (BR (wd (tb q.1)))).2.2.2=true∧((qh (BR (wd (tb q.1)))).1=1∨(qh (BR (wd (tb q.1)))).1=3)):=fun e=>hv e.1
        have nv2:¬((qh (BR (wd (tb q.1)))).2.2.2=true∧wd (tb q.1)≠ []):=fun e=>hv e.1
        rw [if_neg nv1,if_neg nv2]
        by_cases hp:(qA2 (BR (wd (tb q.1)))).2.2.2.2=true
        ·rw [if_pos hp,if_pos hp]
         exact qI8 hl3
        ·rw [if_neg hp,if_neg hp]
         exact .inr ⟨rfl,qFo _⟩
theorem qUu (H:RdOK) (N:Nat):qUo N∧qUp N∧qUJ N∧qUq N:=by
 induction N using Nat.strongRecOn with
 |ind N ih=>
  have hA:=qUt H N (fun M h=>(ih M h).1) (fun M h=>(ih M h).2.2.1) (fun M h=>(ih M h).2.2.2)
  have hT:=qVn N (fun M h=>(ih M h).2.2.1) (fun M h=>(ih M h).2.1)
  have hB:=qUr N hA (fun M h=>(Nat.lt_or_eq_of_le h).elim (fun h=>(ih M h).2.1) (fun h=>h▸hT))
  exact ⟨hA,hT,hB,qUs H N hB (fun M h=>(ih M h).2.2.2)⟩
theorem qAM (r:List UInt8):(BR r).toList=r:=qB3 r
theorem qb (r:List UInt8):(BR r).size=r.length:=by rw [←qAT,qAM]
theorem qJd (s:ByteArray):BR s.toList=s:=qE4 (qAM _)
theorem qF7 (r:List UInt8) (a b:Nat):(BR r).extract a b=BR ((r.take b).drop a):=by
 refine qE4 ?_
 rw [qAM,Go.Lib.toList_data,ByteArray.data_extract,Array.toList_extract]
 simp [BR,List.extract_eq_take_drop,List.drop_take]
theorem qOJ (a b:List UInt8):BR a++BR b=BR (a++b):=by
 refine qE4 ?_
 rw [qAM,Go.Lib.toList_data]
 simp [BR]
theorem qVD:∀i:Fin 256,((⟨#[32]⟩:ByteArray).data.toList.contains (UInt8.ofNat i.val))=(UInt8.ofNat i.val==32):=by decide+kernel
def wcS:ByteArray:=⟨#[65,66,67,68,69,70,71,72,73,74,75,76,77,78,79,80,81,82,83,84,85,86,87,88,89,90,48,49,50,51,52,53,54,55,56,57,36]⟩
theorem qVE:∀i:Fin 256,(wcS.data.toList.contains (UInt8.ofNat i.val))=wch (UInt8.ofNat i.val):=by decide+kernel
theorem qSD {f g:UInt8→Bool} (h:∀i:Fin 256,f (UInt8.ofNat i.val)=g (UInt8.ofNat i.val)) (c:UInt8):f c=g c:=by
 have h:=h ⟨c.toNat,UInt8.toNat_lt c⟩
 have e:UInt8.ofNat c.toNat=c:=by simp
 simp only [e] at h
 exact h
theorem qTu (r:List UInt8):Ev (qBM · (BR r) ⟨#[32]⟩) (BR (tb r)):=by
 refine ⟨1,fun n hn=>?_⟩
 obtain ⟨m,rfl,hm⟩:=up1 hn
 show zN (BR r) ⟨#[32]⟩=_
 unfold zN
 rw [if_pos ⟨by decide,by decide+kernel⟩]
 unfold Lib.trimLeftS tb
 have:(fun c=>(⟨#[32]⟩:ByteArray).data.toList.contains c)=(fun c=>c==32):=funext (qSD qVD)
 rw [this]
 rfl
theorem qTv (r:List UInt8):Ev (qBM · (BR r) ⟨#[65,66,67,68,69,70,71,72,73,74,75,76,77,78,79,80,81,82,83,84,85,86,87,88,89,90,48,49,50,51,52,53,54,55,56,57,36]⟩) (BR (wr r)):=by
 refine ⟨1,fun n hn=>?_⟩
 obtain ⟨m,rfl,hm⟩:=up1 hn
 show zN (BR r) wcS=_
 unfold zN
 rw [if_pos ⟨by decide,by decide+kernel⟩]
 unfold Lib.trimLeftS wr
 have:(fun c=>wcS.data.toList.contains c)=wch:=funext (qSD qVE)
 rw [this]
 rfl
theorem qHc (r:List UInt8) (m:Nat) (b:Bool) (rows:List (List PV)):Ev (qAx · (BR r) m b rows) (BR (tb r),m,b,rows):=by
 obtain ⟨n1,h1⟩:=qTu r
 refine ⟨n1+1,fun n hn=>?_⟩
 obtain ⟨m,rfl,hm⟩:=up1 hn
 have h1:=h1 m (by omega)
 dsimp only at h1
 simp only [qAx,qDY,qC,qE,qG,qH,qJ,qK,Option.bind_some,qF,qM,qN,h1]
theorem qBb (m:Nat) (s w:List UInt8):qm (m+2) (BR s) (BR w)=some (w.isPrefixOf s):=by
 simp only [qm,qB8,qAB,qAv,qC,qE,qG,qH,qJ,qK,Option.bind_some,qF,qM,qN,qb,qF7,qAM]
 by_cases h:w.length≤s.length
 ·have h1:((s.length:Nat):Int)≥((w.length:Nat):Int):=by omega
  simp [h1,h,List.isPrefixOf_iff_prefix,List.prefix_iff_eq_take]
  by_cases e:w=s.take w.length
  ·simp [←e,List.isPrefixOf_iff_prefix.2 (List.prefix_iff_eq_take.2 e)]
  ·have e2:¬s.take w.length=w:=fun h=>e h.symm
   have e3:w.isPrefixOf s=false:=by
    rw [Bool.eq_false_iff]
    intro hp
    exact e (List.prefix_iff_eq_take.1 (List.isPrefixOf_iff_prefix.1 hp))
   simp [e2,e3]
 ·have h1:¬((s.length:Nat):Int)≥((w.length:Nat):Int):=by omega
  have e3:w.isPrefixOf s=false:=by
   rw [Bool.eq_false_iff]
   intro hp
   exact h (List.isPrefixOf_iff_prefix.1 hp).length_le
  simp [h1,e3]
theorem qTE (s w:List UInt8):Ev (qm · (BR s) (BR w)) (w.isPrefixOf s):=by
 refine ⟨2,fun n hn=>?_⟩
 obtain ⟨m,rfl,hm⟩:=up1 hn
 obtain ⟨m,rfl,hm⟩:=up1 hm
 exact qBb m s w
def qSp:List (List PV):=qEX.map fun w=> [PV.s (BR w)]
theorem qRa {n:Nat} {r:List UInt8} (m:Nat) (b:Bool) (rows:List (List PV)) (h:∀w∈qEX,qm n (BR r) (BR w)=some (w.isPrefixOf r)):
  ∀(k i M:Nat),i+k=15→k+1≤M→zD (qCT n) M (15,15,(i:Int),qSp,BR r,m,b,rows)=some (match (qEX.drop i).find? (fun w=>w.isPrefixOf r) with|some w=> .inl (BR w,BR r,m,b,rows)|none=> .inr (BR r,m,b,rows))
 |k,i,0,h1,h2=>by omega
 |0,i,M+1,h1,h2=>by
  have hi:i=15:=by omega
  subst hi
  rw [qP (r:= .inr (BR r,m,b,rows)) (by simp [qCT,qC,qE,qG,qH,qJ,qK,Option.bind_some,qF,qM,qN])]
  rfl
 |k+1,i,M+1,h1,h2=>by
  have hi:i<qEX.length:=by simp [qEX];omega
  obtain ⟨w,hw⟩:∃w,qEX[i]?=some w:=⟨_,List.getElem?_eq_getElem hi⟩
  have hR:qSp[i]?=some [PV.s (BR w)]:=by simp [qSp,List.getElem?_map,hw]
  have hl:qSp.length=15:=rfl
  have hc:zR [PV.s (BR w)] 0=some (BR w):=rfl
  have hp:=h w (List.mem_of_getElem? hw)
  have hd:qEX.drop i=w::qEX.drop (i+1):=qDN hw
  have w5:IntKind.i64.wrap ((i:Int)+1)=((i+1:Nat):Int):=by rw [qT (by omega)];omega
  rw [hd]
  simp only [List.find?_cons]
  cases hq:w.isPrefixOf r with
  |true=>
   rw [qP (r:= .inl (BR w,BR r,m,b,rows)) (by
    refine qD (by simp;omega) (qD (by simp [hl];omega) (qA hR (qA hc (qA (hp.trans (congrArg some hq)) (qD rfl rfl))))))]
  |false=>
   rw [qU (v':=(15,15,((i+1:Nat):Int),qSp,BR r,m,b,rows)) (by
    refine qD (by simp;omega) (qD (by simp [hl];omega) (qA hR (qA hc (qA (hp.trans (congrArg some hq)) (qO rfl ?_)))))
    rw [w5];rfl)]
   exact qRa m b rows h k (i+1) M (by omega) (by omega)
theorem qOK (r:List UInt8) (m:Nat) (b:Bool) (rows:List (List PV)):Ev (qBo · (BR r) m b rows) (BR (sgn (tb r)),BR (tb r),m,b,rows):=by
 obtain ⟨n1,h1⟩:=qHc r m b rows
 obtain ⟨n2,h2⟩:=qAl (F:=fun w n=>qm n (BR (tb r)) (BR w)) (f:=fun w=>w.isPrefixOf (tb r)) qEX (fun w _=>qTE (tb r) w)
 refine ⟨n1+n2+30,fun n hn=>?_⟩
 obtain ⟨k,rfl,hm⟩:=up1 hn
 have h1:=h1 k (by omega)
 have lp:=qRa m b rows (h2 k (by omega)) 15 0 k rfl (by omega)
 refine qA h1 (qA lp ?_)
 simp only [List.drop_zero]
 unfold sgn
 cases hq:qEX.find? (fun w=>w.isPrefixOf (tb r)) with
 |some w=>rfl
 |none=>rfl
theorem qTc (r:List UInt8):sgn r<+:r:=by
 unfold sgn
 split
 ·rename_i w hw
  have:=List.find?_some hw
  exact List.isPrefixOf_iff_prefix.1 (by simpa using this)
 ·exact List.nil_prefix
theorem qRb (w r:List UInt8) (m:Nat) (b:Bool) (rows:List (List PV)):Ev (qo · (BR w) (BR r) m b rows) (decide (sgn (tb r)=w),BR (if sgn (tb r)=w then (tb r).drop w.length else tb r),m,b,rows):=by
 obtain ⟨n1,h1⟩:=qOK r m b rows
 refine ⟨n1+1,fun n hn=>?_⟩
 obtain ⟨k,rfl,hm⟩:=up1 hn
 refine qA (h1 k (by omega)) ?_
 by_cases h:sgn (tb r)=w
 ·have hp:=(qTc (tb r)).length_le
  rw [h] at hp
  refine qO (by simp [qAM,h]) (qD (by simp [qb];omega) ?_)
  rw [qC,qb,qb,qF7]
  simp [h]
 ·refine qD (by simp [qAM,h]) ?_
  rw [qC]
  simp [h]
theorem qTw (r:List UInt8) (m:Nat) (b:Bool) (rows:List (List PV)) (hr:r.length≤1000):Ev (qBN · (BR r) m b rows) (BR (wd (tb r)),BR (wr (tb r)),m,b,rows):=by
 obtain ⟨n1,h1⟩:=qHc r m b rows
 obtain ⟨n2,h2⟩:=qTv (tb r)
 refine ⟨n1+n2+1,fun n hn=>?_⟩
 obtain ⟨k,rfl,hm⟩:=up1 hn
 have hb:=qAA r
 have hw:=qG8 (tb r)
 have hsum:=congrArg List.length (wdr (tb r))
 simp only [List.length_append] at hsum
 have e:IntKind.i64.wrap (((tb r).length:Int)-((wr (tb r)).length:Int))=((wd (tb r)).length:Int):=by rw [qT (by omega)];omega
 refine qA (h1 k (by omega)) (qA (h2 k (by omega)) ?_)
 simp only [qb,e]
 refine qD (by simp;omega) (qD (by simp;omega) ?_)
 rw [qC]
 have t1:(wd (tb r)++wr (tb r)).take (wd (tb r)).length=wd (tb r):=List.take_left ..
 have t2:(wd (tb r)++wr (tb r)).drop (wd (tb r)).length=wr (tb r):=List.drop_left ..
 rw [wdr] at t1 t2
 simp [qF7,t1,t2]
def qFp (p:PS):ByteArray×Nat×Bool×List (List PV):=(BR p.1,p.2.2.length,p.2.1,p.2.2.map qa)
def qHF (r:Int×PS):Int×ByteArray×Nat×Bool×List (List PV):=(r.1,BR r.2.1,r.2.2.2.length,r.2.2.1,r.2.2.2.map qa)
def qQ9 (c:Nd):Prop:=(kd c).length≤2000∧c.2.2.2.2.1.size≤2000
structure Gd (p:PS):Prop where
 r:p.1.length≤1000
 n:p.2.2.length≤60
 s:∀x∈p.2.2,qQ9 x
theorem qOL (x:Nd) (p:PS) (h:p.2.2.length≤60):Ev (qp · x.1 x.2.1 x.2.2.1 x.2.2.2.1 x.2.2.2.2.1 x.2.2.2.2.2.1 x.2.2.2.2.2.2.1 x.2.2.2.2.2.2.2.1 x.2.2.2.2.2.2.2.2.1 x.2.2.2.2.2.2.2.2.2.1 x.2.2.2.2.2.2.2.2.2.2.1 x.2.2.2.2.2.2.2.2.2.2.2.1 x.2.2.2.2.2.2.2.2.2.2.2.2.1 ((kd x).map q9) (BR p.1) p.2.2.length p.2.1 (p.2.2.map qa)) (qHF (qDM x p)):=by
 obtain ⟨r,b,l⟩:=p
 refine ⟨1,fun n hn=>?_⟩
 obtain ⟨m,rfl,hm⟩:=up1 hn
 replace h:l.length≤60:=h
 show qp (m+1) _ _ _ _ _ _ _ _ _ _ _ _ _ _ (BR r) l.length b (l.map qa)=_
 unfold qDM
 have w1:IntKind.i64.wrap (((l.length:Nat):Int)-1)=(l.length:Int)-1:=qT (by omega)
 have w2:IntKind.i64.wrap ((((l.length+1):Nat):Int)-1)=(l.length:Int):=by rw [qT (by omega)];omega
 cases b with
 |true=>
  rw [if_pos (.inl rfl)]
  refine qD rfl (qO rfl ?_)
  rw [qC,w1]
  rfl
 |false=>
  by_cases h6:60≤l.length
  ·rw [if_pos (.inr h6)]
   have d:decide (((l.length:Nat):Int)≥60)=true:=decide_eq_true (by omega)
   refine qO rfl (qO (by rw [d];rfl) ?_)
   rw [qC,w1,d]
   rfl
  ·have hn:¬(((r,false,l):PS).2.1=true∨60≤((r,false,l):PS).2.2.length):=by
    intro hh
    rcases hh with hh|hh
    ·exact absurd hh (by simp)
    ·exact h6 hh
   rw [if_neg hn]
   have d:decide (((l.length:Nat):Int)≥60)=false:=decide_eq_false (by omega)
   refine qO rfl (qD (by rw [d];rfl) (qD rfl (qD (decide_eq_true ⟨by simp,by decide,by decide,by simp;omega,rfl⟩) ?_)))
   rw [qC,w2,d]
   simp only [qHF,List.map_append,List.length_append]
   rfl
theorem qKe (v:V3) (p:PS) (h:p.2.2.length≤60):Ev (qi · v.1 v.2.1 v.2.2 (BR p.1) p.2.2.length p.2.1 (p.2.2.map qa)) (qHF (qDM (nd1 v) p)):=by
 obtain ⟨n1,h1⟩:=qOL (nd1 v) p h
 refine ⟨n1+1,fun n hn=>?_⟩
 obtain ⟨k,rfl,hm⟩:=up1 hn
 exact qA (h1 k (by omega)) rfl
theorem qG9 {x:Nd} {p:PS} (h:Gd p) (hx:qQ9 x):Gd (qDM x p).2:=by
 unfold qDM
 split
 ·exact ⟨h.r,h.n,h.s⟩
 ·rename_i hh
  refine ⟨h.r,?_,fun y hy=>?_⟩
  ·have:¬60≤p.2.2.length:=fun e=>hh (.inr e)
   simp;omega
  ·simp at hy
   rcases hy with hy|rfl
   ·exact h.s _ hy
   ·exact hx
theorem qCn {w:List UInt8} {p:PS} (h:Gd p):Gd (qX w p).2:=by
 have:=qI6 w p
 have h2:=qAA p.1
 have h3:=h.r
 refine ⟨by omega,?_,?_⟩
 ·unfold qX;split<;>exact h.n
 ·unfold qX;split<;>exact h.s
theorem qGT (w:List UInt8) (p:PS):Ev (qo · (BR w) (BR p.1) p.2.2.length p.2.1 (p.2.2.map qa)) ((qX w p).1,qFp (qX w p).2):=by
 obtain ⟨n1,h1⟩:=qRb w p.1 p.2.2.length p.2.1 (p.2.2.map qa)
 refine ⟨n1,fun n hn=>?_⟩
 have h1:=h1 n hn
 unfold qX
 by_cases h:sgn (tb p.1)=w
 ·simp only [h,if_true,decide_true] at h1
  rw [if_pos h];exact h1
 ·simp only [h,if_false,decide_false] at h1
  rw [if_neg h];exact h1
theorem qSE (p:PS) (h:p.1.length≤1000):Ev (qBN · (BR p.1) p.2.2.length p.2.1 (p.2.2.map qa)) (BR (wd (tb p.1)),qFp (wr (tb p.1),p.2)):=qTw p.1 _ _ _ h
theorem qSF (r:List UInt8):(wd r).length≤r.length:=by
 have:=congrArg List.length (wdr r)
 simp only [List.length_append] at this
 omega
theorem qUK (r:List UInt8) (h:r.length≤1000):Ev (qAg · (BR (wd (tb r)))) (qA2 (BR (wd (tb r)))):=qM1 _ (by rw [qb];have:=qSF (tb r);have:=qAA r;omega)
theorem qVg (r:List UInt8) (h:r.length≤1000):Ev (qd · (BR (wd (tb r)))) (qh (BR (wd (tb r)))):=qHY _ (by rw [qb];have:=qSF (tb r);have:=qAA r;omega)
theorem qSq (c:UInt8) (t:List UInt8):Lib.cut (c::t) [34]=if c=34 then ([],t,true) else (c::(Lib.cut t [34]).1,(Lib.cut t [34]).2.1,(Lib.cut t [34]).2.2):=by
 by_cases h:c=34
 ·subst h
  rw [if_pos rfl]
  simp [Lib.cut,Lib.index,List.isPrefixOf]
 ·rw [if_neg h]
  have h':¬34=c:=fun e=>h e.symm
  have g:=Lib.index_ge t [34]
  unfold Lib.cut
  by_cases e:Lib.index t [34]= -1
  ·have:Lib.index (c::t) [34]= -1:=by simp [Lib.index,List.isPrefixOf,h',e]
   simp [this,e]
  ·have:Lib.index (c::t) [34]=Lib.index t [34]+1:=by simp [Lib.index,List.isPrefixOf,h',e]
   have p:0≤Lib.index t [34]:=by omega
   have p1:0≤Lib.index t [34]+1:=by omega
   have q:(Lib.index t [34]+1).toNat=(Lib.index t [34]).toNat+1:=by omega
   simp [this,p,p1,q]
theorem qVF (acc t:List UInt8):qCC acc (34::34::t)=qCC (acc++ [34]) t:=(qCC.eq_def acc _).trans (by simp)
theorem qVG (acc t:List UInt8) (h:t.head?≠some 34):qCC acc (34::t)=some (acc,t):=by
 refine (qCC.eq_def acc _).trans ?_
 cases t with
 |nil=>simp
 |cons d t=>
  have:¬d=34:=fun e=>h (by rw [e];rfl)
  simp [this]
theorem qVH (acc t:List UInt8) {c:UInt8} (h:¬c=34):qCC acc (c::t)=qCC (acc++ [c]) t:=(qCC.eq_def acc _).trans (by simp only [if_neg h])
theorem up3 {n n0:Nat} (h:n0+3≤n):∃m,n=m+3∧n0≤m:=⟨n-3,by omega,by omega⟩
theorem qRc:∀(r acc:List UInt8),qCC acc r=if (Lib.cut r [34]).2.2=true then (if (Lib.cut r [34]).2.1.head?=some 34 then qCC (acc++(Lib.cut r [34]).1++ [34]) (Lib.cut r [34]).2.1.tail else some (acc++(Lib.cut r [34]).1,(Lib.cut r [34]).2.1)) else none
 | [],acc=>by simp [qCC,Lib.cut,Lib.index]
 |c::t,acc=>by
  rw [qSq]
  by_cases h:c=34
  ·subst h
   rw [if_pos rfl]
   by_cases e:t.head?=some 34
   ·obtain ⟨u,rfl⟩:∃u,t=34::u:=by
     cases t with
     |nil=>cases e
     |cons d u=>simp at e;subst e;exact ⟨u,rfl⟩
    rw [qVF];simp
   ·rw [qVG acc t e];simp [e]
  ·simp only [if_neg h]
   rw [qVH acc t h,qRc t (acc++ [c])]
   simp
theorem qTd:∀r:List UInt8,(Lib.cut r [34]).1.length+(Lib.cut r [34]).2.1.length≤r.length∧((Lib.cut r [34]).2.2=true→(Lib.cut r [34]).2.1.length<r.length)
 | []=>by simp [Lib.cut,Lib.index]
 |c::t=>by
  rw [qSq]
  have ih:=qTd t
  split
  ·simp
  ·simp only [List.length_cons]
   exact ⟨by omega,fun h=>by have:=ih.2 h;omega⟩
theorem qHA:∀(k:Nat) (acc r:List UInt8) {s t:List UInt8},r.length≤k→qCC acc r=some (s,t)→s.length≤acc.length+r.length+1
 |k,acc,[],s,t,hk,h=>by simp [qCC] at h
 |0,acc,c::r,s,t,hk,h=>by simp at hk
 |k+1,acc,c::r,s,t,hk,h=>by
  simp only [List.length_cons] at hk
  unfold qCC at h
  split at h
  ·cases r with
   |nil=>
    simp at h
    rw [←h.1];simp;omega
   |cons d r'=>
    simp only at h
    split at h
    ·have:=qHA k _ r' (by simp at hk;omega) h
     simp at this⊢;omega
    ·simp at h
     rw [←h.1];simp;omega
  ·have:=qHA k _ r (by omega) h
   simp at this⊢;omega
theorem qVI (m:Nat) (r:List UInt8) (h:r.length≤1000):qHt (m+1) (BR r) ⟨#[34]⟩=some (BR (Lib.cut r [34]).1,BR (Lib.cut r [34]).2.1,(Lib.cut r [34]).2.2):=by
 show zAS (BR r) ⟨#[34]⟩=_
 unfold zAS
 rw [if_pos (by rw [qb];omega),←Go.Lib.toList_data (BR r),qAM]
 rfl
theorem qOZ (n:Nat) (orig:ByteArray) (m:Nat) (b:Bool) (rows:List (List PV)):∀(k:Nat) (r acc:List UInt8) (M:Nat),r.length≤k→acc.length+r.length≤1000→k+1≤M→
  zD (qC8 (n+2)) M (BR acc,BR r,orig,m,b,rows)=some (match qCC acc r with
   |none=> .inl (-1,orig,m,true,rows)
   |some (s,t)=> .inr (BR s,BR t,orig,m,b,rows))
 |k,r,acc,0,h1,h2,h3=>by omega
 |k,r,acc,M+1,h1,h2,h3=>by
  have hc:=qVI (n+1) r (by omega)
  have hl:=qTd r
  have hp:=qBb n (Lib.cut r [34]).2.1 [34]
  rw [qRc]
  cases hf:(Lib.cut r [34]).2.2 with
  |false=>
   rw [if_neg (by simp)]
   refine (qP (r:= .inl (-1,orig,m,true,rows)) ?_).trans rfl
   refine qA hc (qD (by simp [hf]) rfl)
  |true=>
   rw [if_pos rfl]
   have hlt:=hl.2 hf
   by_cases hh:(Lib.cut r [34]).2.1.head?=some 34
   ·rw [if_pos hh]
    have hb:List.isPrefixOf [34] (Lib.cut r [34]).2.1=true:=(qE7 34 _).2 hh
    obtain ⟨u,hu⟩:∃u,(Lib.cut r [34]).2.1=34::u:=by
     cases e:(Lib.cut r [34]).2.1 with
     |nil=>rw [e] at hh;cases hh
     |cons c u=>rw [e] at hh;simp at hh;subst hh;exact ⟨u,rfl⟩
    rw [hb] at hp
    rw [qU (v':=(BR (acc++(Lib.cut r [34]).1++ [34]),BR (Lib.cut r [34]).2.1.tail,orig,m,b,rows)) (by
     refine qA hc (qO (by simp [hf]) (qD (decide_eq_true (by rw [qb,qb];omega)) (qA hp (qO rfl (qD (decide_eq_true (by rw [qOJ,qb,List.length_append];show _+1≤9223372036854775807;omega)) (qD (decide_eq_true ⟨by decide,by simp only [qb];rw [hu];simp;omega,by simp [qb]⟩) ?_))))))
     rw [qC]
     simp only [qOJ,qb,qF7]
     rw [hu]
     simp
     exact (qOJ (acc++(Lib.cut r [34]).1) [34]).trans (by rw [List.append_assoc]))]
    rw [hu] at hl hlt⊢
    simp only [List.length_cons] at hl hlt
    refine qOZ n orig m b rows (k-1) _ _ M (by simp;omega) (by simp;omega) (by omega)
   ·rw [if_neg hh]
    have hb:List.isPrefixOf [34] (Lib.cut r [34]).2.1=false:=by
     rw [Bool.eq_false_iff];intro e;exact hh ((qE7 34 _).1 e)
    rw [hb] at hp
    refine (qP (r:= .inr (BR (acc++(Lib.cut r [34]).1),BR (Lib.cut r [34]).2.1,orig,m,b,rows)) ?_).trans rfl
    refine qA hc (qO (by simp [hf]) (qD (decide_eq_true (by rw [qb,qb];omega)) (qA hp (qD rfl ?_))))
    rw [qC,qOJ]
theorem qTx (t:List UInt8) (b:Bool) (l:List Nd) (h:t.length≤999) (hl:l.length≤60):Ev (qDZ · (BR (34::t)) l.length b (l.map qa)) (qHF (match qCC [] t with
   |none=>(-1,34::t,true,l)
   |some (s,t')=>qDM (nd1 (2,0,BR s)) (t',b,l))):=by
 have lp:=fun n M (hM:t.length+1≤M)=>qOZ n (BR (34::t)) l.length b (l.map qa) t.length t [] M (Nat.le_refl _) (by simp;omega) hM
 cases hq:qCC [] t with
 |none=>
  refine ⟨t.length+1+3,fun n hn=>?_⟩
  obtain ⟨m,rfl,hm⟩:=up3 hn
  have lp:=lp m (m+2) (by omega)
  rw [hq] at lp
  refine qD (decide_eq_true ⟨by decide,by rw [qb];simp;omega,Int.le_refl _⟩) ?_
  have e:(BR (34::t)).extract ((1:Int)).toNat ((((BR (34::t)).size:Nat):Int)).toNat=BR t:=by rw [qF7,qb];simp
  rw [e]
  exact qA lp rfl
 |some st=>
  obtain ⟨s,t'⟩:=st
  obtain ⟨n1,h1⟩:=qKe (2,0,BR s) (t',b,l) hl
  refine ⟨n1+t.length+1+3,fun n hn=>?_⟩
  obtain ⟨m,rfl,hm⟩:=up3 hn
  have lp:=lp m (m+2) (by omega)
  rw [hq] at lp
  refine qD (decide_eq_true ⟨by decide,by rw [qb];simp;omega,Int.le_refl _⟩) ?_
  have e:(BR (34::t)).extract ((1:Int)).toNat ((((BR (34::t)).size:Nat):Int)).toNat=BR t:=by rw [qF7,qb];simp
  rw [e]
  exact qA lp (qA (h1 (m+2) (by omega)) rfl)
theorem qUv (m:Nat) (r:List UInt8) (w:ByteArray):qAH (m+1) (BR r) w=some (BR (if w.toList.isPrefixOf r=true then r.drop w.size else r),w.toList.isPrefixOf r):=by
 show zY (BR r) w=_
 unfold zY Lib.trimPrefix Lib.hasPrefix
 rw [←Go.Lib.toList_data (BR r),←Go.Lib.toList_data w,qAM,qAT]
 rfl
theorem qSr {n:Nat} (deep:Int) (r:List UInt8) (b:Bool) (l:List Nd)
  (h1:∀i,0≤i∧i≤5→qAf n i=some (qe i)) (h2:∀i,1≤i∧i≤5→qBv n i=some (4,i,em))
  (h3:∀w,qAH n (BR r) w=some (BR (if w.toList.isPrefixOf r=true then r.drop w.size else r),w.toList.isPrefixOf r))
  (h4:∀i,1≤i∧i≤5→qi n 4 i em (BR (r.drop (qe i).size)) l.length b (l.map qa)=some (qHF (qDM (nd1 (4,i,em)) (r.drop (qe i).size,b,l)))):
  ∀(k:Nat) (i:Int) (M:Nat),1≤i→i+k=6→k+1≤M→zD (qCD n) M (deep,i,BR r,l.length,b,l.map qa)=some (match qJc r i k with
   |some e=> .inl (qHF (qDM (nd1 (4,e,em)) (r.drop (qe e).size,b,l)))
   |none=> .inr (deep,BR r,l.length,b,l.map qa))
 |k,i,0,_,_,h=>by omega
 |0,i,M+1,hi,hk,h=>by
  rw [qP (r:= .inr (deep,BR r,l.length,b,l.map qa)) (by exact qO (decide_eq_false (show ¬i≤5 by omega)) rfl)]
  rfl
 |k+1,i,M+1,hi,hk,h=>by
  have hi5:1≤i∧i≤5:=⟨hi,by omega⟩
  have c:=h3 (qe i)
  cases hq:(qe i).toList.isPrefixOf r with
  |true=>
   rw [hq,if_pos rfl] at c
   unfold qJc
   rw [if_pos hq]
   refine qP (qD (decide_eq_true (show i≤5 by omega)) (qA (h1 i ⟨by omega,by omega⟩) (qA c (qD rfl (qA (h2 i hi5) (qA (h4 i hi5) rfl))))))
  |false=>
   rw [hq,if_neg (by simp)] at c
   unfold qJc
   rw [if_neg (by rw [hq];simp)]
   have w1:IntKind.i64.wrap (i+1)=i+1:=qT (by omega)
   rw [qU (v':=(deep,i+1,BR r,l.length,b,l.map qa)) (by refine qD (decide_eq_true (show i≤5 by omega)) (qA (h1 i ⟨by omega,by omega⟩) (qA c (qO rfl ?_)));rw [qC,w1])]
   exact qSr deep r b l h1 h2 h3 h4 k (i+1) M (by omega) (by omega) (by omega)
theorem qVJ (deep:Int) (r:List UInt8) (b:Bool) (l:List Nd) (hl:l.length≤60):∃n0,∀n,n0≤n→∀M,n0≤M→zD (qCD n) M (deep,1,BR r,l.length,b,l.map qa)=some (match qJc r 1 5 with
   |some e=> .inl (qHF (qDM (nd1 (4,e,em)) (r.drop (qe e).size,b,l)))
   |none=> .inr (deep,BR r,l.length,b,l.map qa)):=by
 obtain ⟨n1,h1⟩:=qGQ (F:=qAf) (f:=qe) (lo:=0) (by decide) qE5
 obtain ⟨n2,h2⟩:=qGQ (F:=qBv) (f:=fun i=>(4,i,em)) (lo:=1) (by decide) (fun i _=>qLY i)
 obtain ⟨n4,h4⟩:=qGQ (F:=fun n i=>qi n 4 i em (BR (r.drop (qe i).size)) l.length b (l.map qa)) (f:=fun i=>qHF (qDM (nd1 (4,i,em)) (r.drop (qe i).size,b,l))) (lo:=1) (by decide) (fun i _=>qKe (4,i,em) (r.drop (qe i).size,b,l) hl)
 refine ⟨n1+n2+n4+7,fun n hn M hM=>?_⟩
 exact qSr deep r b l (h1 n (by omega)) (h2 n (by omega)) (fun w=>by
  obtain ⟨m,rfl,_⟩:=up1 (show n1+1≤n by omega)
  exact qUv m r w) (h4 n (by omega)) 5 1 M (by omega) (by omega) (by omega)
theorem qTe {g:G_impl_reader_binary} {n:Nat} (deep:Int) (w:List UInt8) (p:PS) (res:Int→Int×PS) (h1:∀i,1≤i∧i≤10→qCG n i=some (fnS i)):
  ∀(k:Nat) (i:Int) (M:Nat),1≤i→i+k=11→k+1≤M→(∀op,qGS w i k=some op→g.impl_reader_call op deep (BR p.1) p.2.2.length p.2.1 (p.2.2.map qa)=some (qHF (res op)))→
   zD (qAj g n) M (deep,BR w,i,BR p.1,p.2.2.length,p.2.1,p.2.2.map qa)=some (match qGS w i k with
   |some op=> .inl (qHF (res op))
   |none=> .inr (qFp p))
 |k,i,0,_,_,h,_=>by omega
 |0,i,M+1,hi,hk,h,_=>by
  rw [qP (r:= .inr (qFp p)) (by exact qO (decide_eq_false (show ¬i≤10 by omega)) rfl)]
  rfl
 |k+1,i,M+1,hi,hk,h,hc=>by
  unfold qGS at hc⊢
  by_cases hq:(fnS i).toList=w
  ·rw [if_pos hq] at hc⊢
   refine qP (qD (decide_eq_true (show i≤10 by omega)) (qA (h1 i ⟨hi,by omega⟩) (qD (by simp [qAM,hq]) (qA (hc i rfl) rfl))))
  ·rw [if_neg hq] at hc⊢
   have w1:IntKind.i64.wrap (i+1)=i+1:=qT (by omega)
   have hq':¬w=(fnS i).toList:=fun e=>hq e.symm
   rw [qU (v':=(deep,BR w,i+1,BR p.1,p.2.2.length,p.2.1,p.2.2.map qa)) (by refine qD (decide_eq_true (show i≤10 by omega)) (qA (h1 i ⟨hi,by omega⟩) (qO (by simp [qAM,hq']) ?_));rw [qC,w1])]
   exact qTe deep w p res h1 k (i+1) M (by omega) (by omega) (by omega) hc
theorem qVK:∃n0,∀n,n0≤n→∀i,1≤i∧i≤10→qCG n i=some (fnS i):=by
 obtain ⟨n1,h1⟩:=qAl (F:=fun (i:Nat) n=>qCG n ((i:Int)+1)) (f:=fun i=>fnS ((i:Int)+1)) (List.range 10) (fun i hi=>qKb _ (by have:=List.mem_range.1 hi;omega))
 refine ⟨n1,fun n hn i hi=>?_⟩
 have:=h1 n hn (i-1).toNat (List.mem_range.2 (by omega))
 rwa [show (((i-1).toNat:Nat):Int)+1=i by omega] at this
theorem qVL:∃n0,∀n,n0≤n→∀i,1≤i∧i≤11→qBT n i=some (qAP i):=by
 obtain ⟨n1,h1⟩:=qAl (F:=fun (i:Nat) n=>qBT n ((i:Int)+1)) (f:=fun i=>qAP ((i:Int)+1)) (List.range 11) (fun i hi=>qG7 _ (by have:=List.mem_range.1 hi;omega))
 refine ⟨n1,fun n hn i hi=>?_⟩
 have:=h1 n hn (i-1).toNat (List.mem_range.2 (by omega))
 rwa [show (((i-1).toNat:Nat):Int)+1=i by omega] at this
def opF (s:List UInt8):Int→Int→Nat→Int
 |op,_,0=>op
 |op,i,k+1=>opF s (if s=(qAP i).toList then i else op) (i+1) k
theorem qVM (r:List UInt8):opF (sgn r) 0 1 11=qAs r:=by
 unfold qAs
 generalize sgn r=s
 by_cases h1:s= [43]; · subst h1;decide+kernel
 by_cases h2:s= [45]; · subst h2;decide+kernel
 by_cases h3:s= [42]; · subst h3;decide+kernel
 by_cases h4:s= [47]; · subst h4;decide+kernel
 by_cases h5:s= [38]; · subst h5;decide+kernel
 by_cases h6:s= [61]; · subst h6;decide+kernel
 by_cases h7:s= [60,62]; · subst h7;decide+kernel
 by_cases h8:s= [60]; · subst h8;decide+kernel
 by_cases h9:s= [60,61]; · subst h9;decide+kernel
 by_cases h10:s= [62]; · subst h10;decide+kernel
 by_cases h11:s= [62,61]; · subst h11;decide+kernel
 rw [if_neg h1,if_neg h2,if_neg h3,if_neg h4,if_neg h5,if_neg h6,if_neg h7,if_neg h8,if_neg h9,if_neg h10,if_neg h11]
 rw [←sg1] at h1;rw [←sg2] at h2;rw [←sg3] at h3;rw [←sg4] at h4;rw [←sg5] at h5;rw [←sg6] at h6;rw [←sg7] at h7;rw [←sg8] at h8;rw [←sg9] at h9;rw [←qUG] at h10;rw [←qUH] at h11
 simp only [opF,if_neg h1]
 simp only [show (1:Int)+1=2 from rfl,if_neg h2,show (2:Int)+1=3 from rfl,if_neg h3,show (3:Int)+1=4 from rfl,if_neg h4,show (4:Int)+1=5 from rfl,if_neg h5,show (5:Int)+1=6 from rfl,if_neg h6,show (6:Int)+1=7 from rfl,if_neg h7,show (7:Int)+1=8 from rfl,if_neg h8,show (8:Int)+1=9 from rfl,if_neg h9,show (9:Int)+1=10 from rfl,if_neg h10,show (10:Int)+1=11 from rfl,if_neg h11]
theorem qSs {n:Nat} (least deep a op i:Int) (r R:List UInt8) (m:Nat) (b:Bool) (rows:List (List PV)) (hi:1≤i∧i≤11)
  (h1:qBo n (BR r) m b rows=some (BR (sgn R),BR R,m,b,rows)) (h2:qBT n i=some (qAP i)):
  (qBE n (least,deep,a,op,i,BR r,m,b,rows)).run=some (.inl (least,deep,a,if sgn R=(qAP i).toList then i else op,i+1,BR R,m,b,rows)):=by
 have w1:IntKind.i64.wrap (i+1)=i+1:=qT (by omega)
 refine qD (decide_eq_true (show i≤11 by omega)) (qA h1 (qA h2 ?_))
 by_cases hq:sgn R=(qAP i).toList
 ·rw [if_pos hq]
  exact qD (by simp [qAM,hq]) (by rw [qC,w1])
 ·rw [if_neg hq]
  exact qO (by simp [qAM,hq]) (by rw [qC,w1])
theorem qSt {n:Nat} (least deep a:Int) (R:List UInt8) (m:Nat) (b:Bool) (rows:List (List PV))
  (h1:qBo n (BR R) m b rows=some (BR (sgn R),BR R,m,b,rows)) (h2:∀i,1≤i∧i≤11→qBT n i=some (qAP i)):
  ∀(k:Nat) (op i:Int) (M:Nat),1≤i→i+k=12→k+1≤M→zD (qBE n) M (least,deep,a,op,i,BR R,m,b,rows)=some (least,deep,a,opF (sgn R) op i k,BR R,m,b,rows)
 |k,op,i,0,_,_,h=>by omega
 |0,op,i,M+1,hi,hk,h=>by
  rw [qP (r:=(least,deep,a,op,BR R,m,b,rows)) (by exact qO (decide_eq_false (show ¬i≤11 by omega)) rfl)]
  rfl
 |k+1,op,i,M+1,hi,hk,h=>by
  rw [qU (qSs least deep a op i R R m b rows ⟨hi,by omega⟩ h1 (h2 i ⟨hi,by omega⟩))]
  exact qSt least deep a R m b rows h1 h2 k _ (i+1) M (by omega) (by omega) (by omega)
theorem qUw (least deep a:Int) (r:List UInt8) (m:Nat) (b:Bool) (rows:List (List PV)):∃n0,∀n,n0≤n→∀M,n0≤M→zD (qBE n) M (least,deep,a,0,1,BR r,m,b,rows)=some (least,deep,a,qAs (tb r),BR (tb r),m,b,rows):=by
 obtain ⟨n1,h1⟩:=qOK r m b rows
 obtain ⟨n2,h2⟩:=qOK (tb r) m b rows
 obtain ⟨n3,h3⟩:=qVL
 refine ⟨n1+n2+n3+20,fun n hn M hM=>?_⟩
 obtain ⟨M,rfl,hM⟩:=up1 hM
 have h2:=h2 n (by omega)
 rw [qCX] at h2
 rw [qU (qSs least deep a 0 1 r (tb r) m b rows (by omega) (h1 n (by omega)) (h3 n (by omega) 1 (by omega)))]
 rw [show (1:Int)+1=2 from rfl,qSt least deep a (tb r) m b rows h2 (h3 n (by omega)) 10 _ 2 M (by omega) (by omega) (by omega),←qVM]
 rfl
theorem qTf {p:PS} (h:Gd p):Gd (qBG p).2∧(qBG p).2.1.length≤p.1.length∧∀x,(qBG p).1=some x→qQ9 x:=by
 have h1:=qAA p.1
 have h2:=qG8 (tb p.1)
 have h0:=h.r
 unfold qBG
 simp only
 split
 ·have h3:=qI6 [58] (wr (tb p.1),p.2)
  have h4:=qAA (qX [58] (wr (tb p.1),p.2)).2.1
  have h5:=qG8 (tb (qX [58] (wr (tb p.1),p.2)).2.1)
  have h6:=qAA (wr (tb p.1))
  have e:(qX [58] (wr (tb p.1),p.2)).2.2.2=p.2.2:=by unfold qX;split<;>rfl
  simp only at h3
  refine ⟨⟨by simp only;omega,by rw [e];exact h.n,by rw [e];exact h.s⟩,by simp only;omega,fun x hx=>?_⟩
  cases hx
  exact ⟨by simp [kd,ndA],by simp [ndA,em];decide⟩
 ·exact ⟨h,Nat.le_refl _,fun x hx=>by cases hx⟩
theorem qUx (p:PS) (h:p.1.length≤1000):∃x:Nd,(∀y,(qBG p).1=some y→x=y)∧Ev (qDE · (BR p.1) p.2.2.length p.2.1 (p.2.2.map qa)) (x.1,x.2.1,x.2.2.1,x.2.2.2.1,x.2.2.2.2.1,x.2.2.2.2.2.1,x.2.2.2.2.2.2.1,x.2.2.2.2.2.2.2.1,x.2.2.2.2.2.2.2.2.1,x.2.2.2.2.2.2.2.2.2.1,x.2.2.2.2.2.2.2.2.2.2.1,x.2.2.2.2.2.2.2.2.2.2.2.1,x.2.2.2.2.2.2.2.2.2.2.2.2.1,(kd x).map q9,(qBG p).1.isSome,qFp (qBG p).2):=by
 have l1:=qAA p.1
 have l2:=qG8 (tb p.1)
 have l3:=qI6 [58] (wr (tb p.1),p.2)
 have l6:=qAA (wr (tb p.1))
 simp only at l3
 obtain ⟨n1,h1⟩:=qSE p h
 obtain ⟨n2,h2⟩:=qUK p.1 h
 obtain ⟨n3,h3⟩:=qGT [58] (wr (tb p.1),p.2)
 have hle:(qX [58] (wr (tb p.1),p.2)).2.1.length≤1000:=by omega
 obtain ⟨n4,h4⟩:=qSE (qX [58] (wr (tb p.1),p.2)).2 hle
 obtain ⟨n5,h5⟩:=qUK (qX [58] (wr (tb p.1),p.2)).2.1 hle
 have e:(qX [58] (wr (tb p.1),p.2)).2.2=p.2:=by unfold qX;split<;>rfl
 unfold qBG
 simp only
 by_cases hc:(qA2 (BR (wd (tb p.1)))).2.2.2.2=true∧(qX [58] (wr (tb p.1),p.2)).1=true
 ·rw [if_pos hc]
  refine ⟨_,fun y hy=>by cases hy;rfl,n1+n2+n3+n4+n5+1,fun n hn=>?_⟩
  obtain ⟨k,rfl,hm⟩:=up1 hn
  refine qA (h1 k (by omega)) (qA (h2 k (by omega)) (qD hc.1 (qA (h3 k (by omega)) (qO (by simp only;rw [hc.2];rfl) (qA (h4 k (by omega)) (qA (h5 k (by omega)) ?_))))))
  cases hb:(qX [58] (wr (tb p.1),p.2)).2.2.1 with
  |true=>
   refine qD hb ?_
   rw [qC];rfl
  |false=>
   refine qO hb ?_
   rw [qC];rfl
 ·rw [if_neg hc]
  refine ⟨(0,0,0,0,⟨#[]⟩,0,0,false,false,0,0,false,false,[]),fun y hy=>(by cases hy),n1+n2+n3+1,fun n hn=>?_⟩
  obtain ⟨k,rfl,hm⟩:=up1 hn
  cases hr:(qA2 (BR (wd (tb p.1)))).2.2.2.2 with
  |false=>exact qA (h1 k (by omega)) (qA (h2 k (by omega)) (qO hr rfl))
  |true=>
   have ht:(qX [58] (wr (tb p.1),p.2)).1=false:=by
    rw [Bool.eq_false_iff];exact fun e=>hc ⟨hr,e⟩
   refine qA (h1 k (by omega)) (qA (h2 k (by omega)) (qD hr (qA (h3 k (by omega)) (qD (by simp only;rw [ht];rfl) ?_))))
   rw [qC]
   simp only [qFp,e]
   rfl
theorem qKf {s:ByteArray} (h:(qh s).2.2.2=true) (hk:(qh s).1=1∨(qh s).1=3):(qh s).2.2.1.size≤2000:=by
 unfold qh at h hk⊢
 split at h
 ·rename_i hc
  rw [if_pos hc] at hk⊢
  have h1:=hc.1
  unfold okV at h1
  have h2:¬(qBJ s).1=2:=by
   simp only at hk
   omega
  rw [if_neg h2] at h1
  simp only [Bool.and_eq_true,beq_iff_eq] at h1
  have:=congrArg List.length h1.1
  rw [qAT] at this
  have h0:(qBJ s).2.2.size=0:=this
  show (qBJ s).2.2.size≤2000
  omega
 ·cases h
def Kj:PJ→PS→Prop
 | .args _ _ kids,p=>kids.length+p.1.length≤1500
 |_,_=>True
theorem qKp {w:List UInt8} {p:PS} (h:Gd p):Gd (qCR w p)∧(qCR w p).1.length≤p.1.length:=by
 have h1:=qI6 w p
 have h2:=qAA p.1
 unfold qCR
 split
 ·exact ⟨h,Nat.le_refl _⟩
 ·split
  ·exact ⟨qCn h,by omega⟩
  ·exact ⟨⟨(qCn h).r,(qCn h).n,(qCn h).s⟩,by show (qX w p).2.1.length≤_;omega⟩
theorem qM9 {p:PS} {r:List UInt8} (h:Gd p) (hr:r.length≤p.1.length):Gd (r,p.2):=⟨by have:=h.r;simp only;omega,h.n,h.s⟩
theorem qFB:∀(f:Nat) (j:PJ) (p:PS),Gd p→Kj j p→Gd (pP f j p).2∧(pP f j p).2.1.length≤p.1.length
 |0,j,p,h,_=>⟨h,Nat.le_refl _⟩
 |f+1,.bin least deep,p,h,_=>by
  unfold pP
  have a:=qFB f (.un deep) p h trivial
  have b:=qFB f (.loop least deep (pP f (.un deep) p).1) (pP f (.un deep) p).2 a.1 trivial
  exact ⟨b.1,Nat.le_trans b.2 a.2⟩
 |f+1,.loop least deep a,p,h,_=>by
  have h1:=qAA p.1
  unfold pP
  split
  ·exact ⟨h,Nat.le_refl _⟩
  ·split
   ·exact ⟨qM9 h h1,h1⟩
   ·have l1:((tb p.1).drop (sgn (tb p.1)).length).length≤p.1.length:=by simp;omega
    have b:=qFB f (.bin (lvl (qAs (tb p.1))+1) deep) ((tb p.1).drop (sgn (tb p.1)).length,p.2) (qM9 h l1) trivial
    simp only
    have c:=qG9 (x:=ndK 5 (qAs (tb p.1)) [a,(pP f (.bin (lvl (qAs (tb p.1))+1) deep) ((tb p.1).drop (sgn (tb p.1)).length,p.2)).1]) b.1 ⟨by simp [kd,ndK],by simp [ndK,em];decide⟩
    have d:=qFB f (.loop least deep (qDM (ndK 5 (qAs (tb p.1)) [a,(pP f (.bin (lvl (qAs (tb p.1))+1) deep) ((tb p.1).drop (sgn (tb p.1)).length,p.2)).1]) (pP f (.bin (lvl (qAs (tb p.1))+1) deep) ((tb p.1).drop (sgn (tb p.1)).length,p.2)).2).1) _ c trivial
    refine ⟨d.1,Nat.le_trans d.2 ?_⟩
    rw [qA0]
    exact Nat.le_trans b.2 l1
 |f+1,.un deep,p,h,_=>by
  have h1:=qAA p.1
  have h2:=qI6 [45] p
  unfold pP
  split
  ·exact ⟨⟨h.r,h.n,h.s⟩,Nat.le_refl _⟩
  ·split
   ·simp only
    have b:=qFB f (.un (deep+1)) (qX [45] p).2 (qCn h) trivial
    refine ⟨qG9 b.1 ⟨by simp [kd,ndK],by simp [ndK,em];decide⟩,?_⟩
    rw [qA0]
    exact Nat.le_trans b.2 (by omega)
   ·have b:=qFB f (.at deep) (qX [45] p).2 (qCn h) trivial
    exact ⟨b.1,Nat.le_trans b.2 (by omega)⟩
 |f+1,.at deep,p,h,_=>by
  have h1:=qAA p.1
  have h2:=qI6 [40] p
  have h3:=qG8 (tb p.1)
  have h4:=h.r
  have g2:Gd (wr (tb p.1),p.2):=qM9 h (by omega)
  unfold pP
  simp only
  split
  ·split
   ·exact ⟨⟨by simp only;omega,h.n,h.s⟩,h1⟩
   ·rename_i hh _ s t hq
    have a:=qKn _ _ hq
    have b:=qHA _ _ _ (Nat.le_refl _) hq
    simp only [List.length_tail,List.length_nil] at a b
    refine ⟨qG9 (qM9 h (by omega)) ⟨by simp [kd,nd1],by simp only [nd1,qb];omega⟩,?_⟩
    rw [qA0];simp only;omega
  ·split
   ·refine ⟨qG9 (qM9 h (by simp;omega)) ⟨by simp [kd,nd1],by simp [nd1,em];decide⟩,?_⟩
    rw [qA0];simp;omega
   ·split
    ·have b:=qFB f (.bin 1 (deep+1)) (qX [40] p).2 (qCn h) trivial
     have c:=qKp (w:= [41]) b.1
     exact ⟨c.1,Nat.le_trans c.2 (Nat.le_trans b.2 (by omega))⟩
    ·split
     ·rename_i hv
      refine ⟨qG9 g2 ⟨by simp [kd,nd1],qKf hv.1 hv.2⟩,?_⟩
      rw [qA0];simp only;omega
     ·split
      ·refine ⟨qG9 g2 ⟨by simp [kd,ndC],by simp [ndC,em];decide⟩,?_⟩
       rw [qA0];simp only;omega
      ·split
       ·rename_i op _
        have b:=qFB f (.call op deep) (wr (tb p.1),p.2) g2 trivial
        exact ⟨b.1,Nat.le_trans b.2 (by simp only;omega)⟩
       ·exact ⟨⟨g2.r,g2.n,g2.s⟩,by show (wr (tb p.1)).length≤_;omega⟩
 |f+1,.call op deep,p,h,_=>by
  unfold pP
  have a:=qKp (w:= [40]) h
  have b:=qFB f (.args op deep []) (qCR [40] p) a.1 (by have:=a.1.r;show 0+_≤_;omega)
  exact ⟨b.1,Nat.le_trans b.2 a.2⟩
 |f+1,.args op deep kids,p,h,hk=>by
  replace hk:kids.length+p.1.length≤1500:=hk
  unfold pP
  split
  ·refine ⟨qG9 h ⟨by simp [kd,ndK];omega,by simp [ndK,em];decide⟩,?_⟩
   rw [qA0];exact Nat.le_refl _
  ·simp only
   have a:=qTf h
   have qg:Gd (qEZ (qBG p) (fun p=>pP f (.bin 1 (deep+1)) p)).2∧(qEZ (qBG p) (fun p=>pP f (.bin 1 (deep+1)) p)).2.1.length≤p.1.length:=by
    unfold qEZ
    split
    ·rename_i x hx
     refine ⟨qG9 a.1 (a.2.2 x hx),?_⟩
     rw [qA0];exact a.2.1
    ·have b:=qFB f (.bin 1 (deep+1)) (qBG p).2 a.1 trivial
     exact ⟨b.1,Nat.le_trans b.2 a.2.1⟩
   generalize qEZ (qBG p) (fun p=>pP f (.bin 1 (deep+1)) p)=q at qg⊢
   have t0:=qg.2
   have t1:=qAA q.2.1
   have t2:=qI6 [44] q.2
   split
   ·rename_i ht
    have t3:=qDh (by simp) ht
    have b:=qFB f (.args op deep (kids++ [q.1])) (qX [44] q.2).2 (qCn qg.1) (by show (kids++ [q.1]).length+_≤_;simp;omega)
    exact ⟨b.1,Nat.le_trans b.2 (by omega)⟩
   ·have c:=qKp (w:= [41]) (qCn (w:= [44]) qg.1)
    refine ⟨qG9 c.1 ⟨by simp [kd,ndK];omega,by simp [ndK,em];decide⟩,?_⟩
    rw [qA0]
    exact Nat.le_trans c.2 (by omega)
def Ad (f:Nat):PJ→PS→Prop
 | .bin _ _,p=>20*(tb p.1).length+6≤f
 | .loop _ _ _,p=>20*(tb p.1).length+5≤f
 | .un _,p=>20*(tb p.1).length+4≤f
 | .at _,p=>20*(tb p.1).length+3≤f∧p.2.1=false
 | .call _ _,p=>20*(tb p.1).length+9≤f
 | .args _ _ _,p=>20*(tb p.1).length+8≤f
def Jd:PJ→Prop
 | .bin _ d=>0≤d∧d≤401
 | .loop _ d _=>0≤d∧d≤401
 | .un d=>0≤d∧d≤401
 | .at d=>0≤d∧d≤400
 | .call _ d=>0≤d∧d≤400
 | .args _ d _=>0≤d∧d≤400
def Wk:PJ→PS→Int×PS→Prop
 | .bin least deep,p,r=>Ev (qCi · least deep (BR p.1) p.2.2.length p.2.1 (p.2.2.map qa)) (qHF r)
 | .loop least deep a,p,r=>∃n0,∀n,n0≤n→∀M,n0≤M→zD (qC9 (qR n) n) M (least,deep,a,qFp p)=some (qHF r)
 | .un deep,p,r=>Ev (qGF · deep (BR p.1) p.2.2.length p.2.1 (p.2.2.map qa)) (qHF r)
 | .at deep,p,r=>Ev (qGw · deep (BR p.1) p.2.2.length p.2.1 (p.2.2.map qa)) (qHF r)
 | .call op deep,p,r=>Ev (qCP · op deep (BR p.1) p.2.2.length p.2.1 (p.2.2.map qa)) (qHF r)
 | .args op deep kids,p,r=>∃(ks:List Int) (p':PS),r=qDM (ndK 6 op ks) p'∧Gd p'∧ks.length≤1501∧∃n0,∀n,n0≤n→∀M,n0≤M→
   zD (qCU (qR n) n) M (op,deep,kids.length,kids.map q9,qFp p)=some (op,ks.length,ks.map q9,qFp p')
theorem qNA (w:List UInt8) {p:PS} (h:p.2.1=false):(BR (qX w p).2.1,(qX w p).2.2.2.length,!(qX w p).1,(qX w p).2.2.2.map qa)=qFp (qCR w p):=by
 have e:(qX w p).2.2=p.2:=by unfold qX;split<;>rfl
 unfold qCR
 rw [if_neg (by rw [h];simp)]
 cases hc:(qX w p).1 with
 |true=>rw [if_pos rfl];simp only [qFp,e,h];rfl
 |false=>rw [if_neg (by simp)];rfl
theorem qSG {r w:List UInt8} (hw:w≠ []) (h:w<+:r):(tb (r.drop w.length)).length<r.length:=by
 have h1:=qAA (r.drop w.length)
 have h2:=h.length_le
 have h3:0<w.length:=List.length_pos_iff.2 hw
 simp only [List.length_drop] at h1
 omega
theorem qVh {r:List UInt8} (h:qAs r≠0):1≤qAs r∧qAs r≤11∧sgn r=(qAP (qAs r)).toList∧sgn r≠ []:=by
 rcases qTb r with e|⟨a,b,c⟩
 ·exact absurd e h
 ·refine ⟨a,b,c,fun e=>h ?_⟩
  unfold qAs;rw [e];decide
def qUL (f:Nat) (deep:Int) (w:List UInt8) (p2:PS):Int×PS:=
 if (qh (BR w)).2.2.2=true∧((qh (BR w)).1=1∨(qh (BR w)).1=3) then qDM (nd1 ((qh (BR w)).1,(qh (BR w)).2.1,(qh (BR w)).2.2.1)) p2
 else if (qA2 (BR w)).2.2.2.2=true then qDM (ndC (qA2 (BR w))) p2
 else match qGS w 1 10 with
 |some op=>pP f (.call op deep) p2
 |none=>(-1,qTB p2)
def qTF (g:G_impl_reader_binary) (n:Nat) (deep:Int) (w:ByteArray) (c:ByteArray×Nat×Bool×List (List PV)):Tr (Int×ByteArray×Nat×Bool×List (List PV)):=
 (.opt (qAg n w) fun r=>(.ask r.2.2.2.2
  (.opt (qp n 2 0 0 0 ⟨#[]⟩ r.1 r.2.1 r.2.2.1 r.2.2.2.1 0 0 false false [] c.1 c.2.1 c.2.2.1 c.2.2.2) fun s=> .done (s.1,s.2.1,s.2.2.1,s.2.2.2.1,s.2.2.2.2))
  (.opt (zD (qAj g n) n (deep,w,1,c.1,c.2.1,c.2.2.1,c.2.2.2)) fun s=>(.alt s (fun t=> .done (t.1,t.2.1,t.2.2.1,t.2.2.2.1,t.2.2.2.2)) (fun t=> .done (-1,t.1,t.2.1,true,t.2.2.2))))))
def qU9 (g:G_impl_reader_binary) (n:Nat) (deep:Int) (w:ByteArray) (c:ByteArray×Nat×Bool×List (List PV)):Tr (Int×ByteArray×Nat×Bool×List (List PV)):=
 (.opt (qd n w) fun r=>(.ask r.2.2.2
  (.ask (r.1==1) (.opt (qi n r.1 r.2.1 r.2.2.1 c.1 c.2.1 c.2.2.1 c.2.2.2) fun s=> .done (s.1,s.2.1,s.2.2.1,s.2.2.2.1,s.2.2.2.2))
   (.ask (r.1==3) (.opt (qi n r.1 r.2.1 r.2.2.1 c.1 c.2.1 c.2.2.1 c.2.2.2) fun s=> .done (s.1,s.2.1,s.2.2.1,s.2.2.2.1,s.2.2.2.2))
    (qTF g n deep w c)))
  (qTF g n deep w c)))
theorem qTy (f:Nat) (deep:Int) (r:List UInt8) (p2:PS) (hr:r.length≤1000) (hp:p2.2.2.length≤60) (hc:∀op,qGS (wd (tb r)) 1 10=some op→Ev (qCP · op deep (BR p2.1) p2.2.2.length p2.2.1 (p2.2.2.map qa)) (qHF (pP f (.call op deep) p2))):
  ∃n0,∀n,n0≤n→(qTF (qR n) n deep (BR (wd (tb r))) (qFp p2)).run=some (qHF (if (qA2 (BR (wd (tb r)))).2.2.2.2=true then qDM (ndC (qA2 (BR (wd (tb r))))) p2 else match qGS (wd (tb r)) 1 10 with
   |some op=>pP f (.call op deep) p2
   |none=>(-1,qTB p2))):=by
 obtain ⟨n1,h1⟩:=qUK r hr
 obtain ⟨n2,h2⟩:=qOL (ndC (qA2 (BR (wd (tb r))))) p2 hp
 obtain ⟨n3,h3⟩:=qVK
 obtain ⟨n4,h4⟩:∃n4,∀n,n4≤n→∀op,qGS (wd (tb r)) 1 10=some op→qCP n op deep (BR p2.1) p2.2.2.length p2.2.1 (p2.2.2.map qa)=some (qHF (pP f (.call op deep) p2)):=by
  cases hf:qGS (wd (tb r)) 1 10 with
  |none=>exact ⟨0,fun n _ op h=>by cases h⟩
  |some op=>obtain ⟨n4,h4⟩:=hc op hf;exact ⟨n4,fun n hn op' h=>by cases h;exact h4 n hn⟩
 refine ⟨n1+n2+n3+n4+12,fun n hn=>?_⟩
 have lp:=qTe (g:=qR n) deep (wd (tb r)) p2 (fun op=>pP f (.call op deep) p2) (h3 n (by omega)) 10 1 n (by omega) (by omega) (by omega) (h4 n (by omega))
 cases hb:(qA2 (BR (wd (tb r)))).2.2.2.2 with
 |true=>
  rw [if_pos rfl]
  exact qA (h1 n (by omega)) (qD hb (qA (h2 n (by omega)) rfl))
 |false=>
  rw [if_neg (by simp)]
  refine qA (h1 n (by omega)) (qO hb (qA lp ?_))
  cases qGS (wd (tb r)) 1 10<;>rfl
theorem qUM (f:Nat) (deep:Int) (r:List UInt8) (p2:PS) (hr:r.length≤1000) (hp:p2.2.2.length≤60) (hc:∀op,qGS (wd (tb r)) 1 10=some op→Ev (qCP · op deep (BR p2.1) p2.2.2.length p2.2.1 (p2.2.2.map qa)) (qHF (pP f (.call op deep) p2))):
  ∃n0,∀n,n0≤n→(qU9 (qR n) n deep (BR (wd (tb r))) (qFp p2)).run=some (qHF (qUL f deep (wd (tb r)) p2)):=by
 obtain ⟨n1,h1⟩:=qVg r hr
 obtain ⟨n2,h2⟩:=qKe ((qh (BR (wd (tb r)))).1,(qh (BR (wd (tb r)))).2.1,(qh (BR (wd (tb r)))).2.2.1) p2 hp
 obtain ⟨n3,h3⟩:=qTy f deep r p2 hr hp hc
 refine ⟨n1+n2+n3,fun n hn=>?_⟩
 have h2:=h2 n (by omega)
 have h3:=h3 n (by omega)
 unfold qUL
 refine qA (h1 n (by omega)) ?_
 by_cases ho:(qh (BR (wd (tb r)))).2.2.2=true
 ·refine qD ho ?_
  by_cases k1:(qh (BR (wd (tb r)))).1=1
  ·rw [if_pos ⟨ho,.inl k1⟩]
   exact qD (by rw [k1];rfl) (qA h2 rfl)
  ·refine qO (beq_eq_false_iff_ne.2 k1) ?_
   by_cases k3:(qh (BR (wd (tb r)))).1=3
   ·rw [if_pos ⟨ho,.inr k3⟩]
    exact qD (by rw [k3];rfl) (qA h2 rfl)
   ·rw [if_neg (fun h=>h.2.elim k1 k3)]
    exact qO (beq_eq_false_iff_ne.2 k3) h3
 ·rw [if_neg (fun h=>ho h.1)]
  exact qO (by rw [Bool.eq_false_iff];exact ho) h3
theorem qVi (w:List UInt8) (p:PS):qX w (tb p.1,p.2)=qX w p:=by unfold qX;simp only [qCX]
theorem qKq {c:UInt8} {r:List UInt8} (h:r.head?=some c):∃t,r=c::t:=by
 cases r with
 |nil=>cases h
 |cons d t=>simp at h;subst h;exact ⟨t,rfl⟩
theorem qFP:∀(f:Nat) (j:PJ) (p:PS),Ad f j p→Jd j→Gd p→Kj j p→Wk j p (pP f j p)
 |0,j,p,ha,_,_,_=>by cases j<;>simp [Ad] at ha
 |f+1,.bin least deep,p,ha,hj,hg,_=>by
  replace ha:20*(tb p.1).length+6≤f+1:=ha
  obtain ⟨n1,h1⟩:=qFP f (.un deep) p (by show 20*_+4≤f;omega) hj hg trivial
  have hl:=qDi f (.un deep) p
  obtain ⟨n2,h2⟩:=qFP f (.loop least deep (pP f (.un deep) p).1) (pP f (.un deep) p).2 (by show 20*_+5≤f;omega) hj (qFB f (.un deep) p hg trivial).1 trivial
  refine ⟨n1+n2+1,fun n hn=>?_⟩
  obtain ⟨k,rfl,hm⟩:=up1 hn
  exact qA (h1 k (by omega)) (qA (h2 k (by omega) k (by omega)) rfl)
 |f+1,.loop least deep a,(r,b,l),ha,hj,hg,_=>by
  replace ha:20*(tb r).length+5≤f+1:=ha
  have hn60:l.length≤60:=hg.n
  have hr1:r.length≤1000:=hg.r
  have ht:=qAA r
  unfold pP
  cases b with
  |true=>
   rw [if_pos rfl]
   refine ⟨1,fun n hn M hM=>?_⟩
   obtain ⟨M,rfl,hM⟩:=up1 hM
   exact qP (qO rfl rfl)
  |false=>
   rw [if_neg (by simp)]
   simp only
   obtain ⟨n1,h1⟩:=qUw least deep a r l.length false (l.map qa)
   by_cases h0:qAs (tb r)=0
   ·rw [if_pos (.inl h0)]
    refine ⟨n1+1,fun n hn M hM=>?_⟩
    obtain ⟨M,rfl,hM⟩:=up1 hM
    exact qP (qD rfl (qA (h1 n (by omega) n (by omega)) (qD (by simp only;rw [h0];rfl) rfl)))
   ·obtain ⟨o1,o2,o3,o4⟩:=qVh h0
    obtain ⟨n2,h2⟩:=qLc (qAs (tb r)) ⟨o1,o2⟩
    by_cases hl:lvl (qAs (tb r))<least
    ·rw [if_pos (.inr hl)]
     refine ⟨n1+n2+1,fun n hn M hM=>?_⟩
     obtain ⟨M,rfl,hM⟩:=up1 hM
     exact qP (qD rfl (qA (h1 n (by omega) n (by omega)) (qO (beq_eq_false_iff_ne.2 h0) (qA (h2 n (by omega)) (qD (decide_eq_true hl) rfl)))))
    ·rw [if_neg (fun h=>h.elim h0 hl)]
     have lv:=qTC (op:=qAs (tb r))
     have hlt:=qSG o4 (qTc (tb r))
     have hp1:Gd ((tb r).drop (sgn (tb r)).length,false,l):=⟨by simp;omega,hn60,hg.s⟩
     obtain ⟨n3,h3⟩:=qG7 (qAs (tb r)) ⟨o1,o2⟩
     obtain ⟨n4,h4⟩:=qRb (qAP (qAs (tb r))).toList (tb r) l.length false (l.map qa)
     obtain ⟨n5,h5⟩:=qFP f (.bin (lvl (qAs (tb r))+1) deep) ((tb r).drop (sgn (tb r)).length,false,l) (by show 20*_+6≤f;simp only;omega) hj hp1 trivial
     have g5:=qFB f (.bin (lvl (qAs (tb r))+1) deep) ((tb r).drop (sgn (tb r)).length,false,l) hp1 trivial
     have l5:=qDi f (.bin (lvl (qAs (tb r))+1) deep) ((tb r).drop (sgn (tb r)).length,false,l)
     simp only at l5
     generalize pP f (.bin (lvl (qAs (tb r))+1) deep) ((tb r).drop (sgn (tb r)).length,false,l)=q at h5 g5 l5⊢
     obtain ⟨n6,h6⟩:=qOL (ndK 5 (qAs (tb r)) [a,q.1]) q.2 g5.1.n
     have g6:=qG9 (x:=ndK 5 (qAs (tb r)) [a,q.1]) g5.1 ⟨by simp [kd,ndK],by simp [ndK,em];decide⟩
     have e6:=qA0 (ndK 5 (qAs (tb r)) [a,q.1]) q.2
     generalize qDM (ndK 5 (qAs (tb r)) [a,q.1]) q.2=c at h6 g6 e6⊢
     obtain ⟨n7,h7⟩:=qFP f (.loop least deep c.1) c.2 (by show 20*(tb c.2.1).length+5≤f;rw [e6];omega) hj g6 trivial
     refine ⟨n1+n2+n3+n4+n5+n6+n7+1,fun n hn M hM=>?_⟩
     obtain ⟨M,rfl,hM⟩:=up1 hM
     have w1:IntKind.i64.wrap (lvl (qAs (tb r))+1)=lvl (qAs (tb r))+1:=qT (by omega)
     have h3:=h3 n (by omega)
     have h4:=h4 n (by omega)
     have h5:=h5 n (by omega)
     rw [qJd,qCX,←o3,if_pos rfl] at h4
     rw [←w1] at h5
     rw [qU (v':=(least,deep,c.1,qFp c.2)) (by
      exact qD rfl (qA (h1 n (by omega) n (by omega)) (qO (beq_eq_false_iff_ne.2 h0) (qA (h2 n (by omega)) (qO (decide_eq_false hl) (qA h3 (qA h4 (qA (h2 n (by omega)) (qA h5 (qD rfl (qA (h6 n (by omega)) rfl)))))))))))]
     exact h7 n (by omega) M (by omega)
 |f+1,.un deep,p,ha,hj,hg,_=>by
  replace ha:20*(tb p.1).length+4≤f+1:=ha
  replace hj:0≤deep∧deep≤401:=hj
  unfold pP
  by_cases hd:deep>400
  ·rw [if_pos (.inl hd)]
   refine ⟨1,fun n hn=>?_⟩
   obtain ⟨k,rfl,hm⟩:=up1 hn
   exact qD (decide_eq_true hd) (qD rfl rfl)
  ·cases hb:p.2.1 with
   |true=>
    rw [if_pos (.inr rfl)]
    refine ⟨1,fun n hn=>?_⟩
    obtain ⟨k,rfl,hm⟩:=up1 hn
    refine qO (decide_eq_false hd) (qD hb ?_)
    rw [qC,hb];rfl
   |false=>
    rw [if_neg (fun h=>h.elim hd (by simp))]
    obtain ⟨n1,h1⟩:=qGT [45] p
    have t1:=qDv [45] p
    cases hc:(qX [45] p).1 with
    |true=>
     rw [if_pos rfl]
     simp only
     have t2:=qDh (by simp) hc
     have t3:=qAA (qX [45] p).2.1
     obtain ⟨n2,h2⟩:=qFP f (.un (deep+1)) (qX [45] p).2 (by show 20*_+4≤f;omega) (by show 0≤deep+1∧deep+1≤401;omega) (qCn hg) trivial
     have g2:=qFB f (.un (deep+1)) (qX [45] p).2 (qCn hg) trivial
     generalize pP f (.un (deep+1)) (qX [45] p).2=q at h2 g2⊢
     obtain ⟨n3,h3⟩:=qOL (ndK 4 0 [q.1]) q.2 g2.1.n
     refine ⟨n1+n2+n3+1,fun n hn=>?_⟩
     obtain ⟨k,rfl,hm⟩:=up1 hn
     have w1:IntKind.i64.wrap (deep+1)=deep+1:=qT (by omega)
     have h2:=h2 k (by omega)
     rw [←w1] at h2
     exact qO (decide_eq_false hd) (qO hb (qA (h1 k (by omega)) (qD hc (qA h2 (qD rfl (qA (h3 k (by omega)) rfl))))))
    |false=>
     rw [if_neg (by simp)]
     have e:(qX [45] p).2.2=p.2:=by unfold qX;split<;>rfl
     obtain ⟨n2,h2⟩:=qFP f (.at deep) (qX [45] p).2 ⟨by omega,by rw [e];exact hb⟩ (by show 0≤deep∧deep≤400;omega) (qCn hg) trivial
     refine ⟨n1+n2+1,fun n hn=>?_⟩
     obtain ⟨k,rfl,hm⟩:=up1 hn
     exact qO (decide_eq_false hd) (qO hb (qA (h1 k (by omega)) (qO hc (qA (h2 k (by omega)) rfl))))
 |f+1,.at deep,(r0,b,l),ha,hj,hg,_=>by
  obtain ⟨ha,hb⟩:=ha
  replace ha:20*(tb r0).length+3≤f+1:=ha
  replace hb:b=false:=hb
  subst hb
  replace hj:0≤deep∧deep≤400:=hj
  have hn60:l.length≤60:=hg.n
  have hr1:r0.length≤1000:=hg.r
  have ht:=qAA r0
  have ett:=qCX r0
  have eit:=qVi [40] (r0,false,l)
  obtain ⟨n1,h1⟩:=qHc r0 l.length false (l.map qa)
  have wdec:∀op,qGS (wd (tb r0)) 1 10=some op→(wr (tb r0)).length<(tb r0).length:=fun op h=>by
   have e:=congrArg List.length (wdr (tb r0))
   simp only [List.length_append] at e
   have:wd (tb r0)≠ []:=fun e=>by
    rw [e,show qGS [] 1 10=none by decide+kernel] at h
    cases h
   have:=List.length_pos_iff.2 this
   omega
  unfold pP
  simp only at eit⊢
  rw [←eit]
  generalize tb r0=r at*
  have hw:=qG8 r
  have wordEv:∃n0,∀n,n0≤n→(qU9 (qR n) n deep (BR (wd r)) (qFp (wr r,false,l))).run=some (qHF (qUL f deep (wd r) (wr r,false,l))):=by
   have:=qUM f deep r (wr r,false,l) (by omega) hn60 (by
    rw [ett]
    intro op h
    exact qFP f (.call op deep) (wr r,false,l) (by have:=wdec op h;have:=qAA (wr r);show 20*(tb (wr r)).length+9≤f;omega) hj ⟨by simp only;omega,hn60,hg.s⟩ trivial)
   rwa [ett] at this
  obtain ⟨n9,h9⟩:=wordEv
  obtain ⟨n8,h8⟩:=qSE (r,false,l) (by simp only;omega)
  simp only [ett] at h8
  by_cases hq:r.head?=some 34
  ·rw [if_pos hq]
   obtain ⟨t,rfl⟩:=qKq hq
   simp only [List.length_cons] at ht
   obtain ⟨n2,h2⟩:=qTx t false l (by omega) hn60
   refine ⟨n1+n2+3,fun n hn=>?_⟩
   obtain ⟨k,rfl,hm⟩:=up3 hn
   refine qA (h1 (k+2) (by omega)) (qA (qBb k (34::t) [34]) (qD rfl (qA (h2 (k+2) (by omega)) ?_)))
   rw [qC]
   simp only [List.tail_cons]
   all_goals (cases qCC [] t<;>rfl)
  ·rw [if_neg hq]
   have p34:List.isPrefixOf [34] r=false:=by rw [Bool.eq_false_iff];exact fun e=>hq ((qE7 34 r).1 e)
   by_cases hh:r.head?=some 35
   ·have p35:List.isPrefixOf [35] r=true:=(qE7 35 r).2 hh
    simp only [if_pos hh]
    obtain ⟨n2,h2⟩:=qVJ deep r false l hn60
    cases he:qJc r 1 5 with
    |some e=>
     simp only
     refine ⟨n1+n2+3,fun n hn=>?_⟩
     obtain ⟨k,rfl,hm⟩:=up3 hn
     have h2:=h2 (k+2) (by omega) (k+2) (by omega)
     rw [he] at h2
     exact qA (h1 (k+2) (by omega)) (qA (qBb k r [34]) (qO p34 (qA (qBb k r [35]) (qD p35 (qA h2 rfl)))))
    |none=>
     simp only
     rw [if_neg (fun h=>h.1 hh)]
     refine ⟨n1+n2+n8+n9+3,fun n hn=>?_⟩
     obtain ⟨k,rfl,hm⟩:=up3 hn
     have h2:=h2 (k+2) (by omega) (k+2) (by omega)
     rw [he] at h2
     exact qA (h1 (k+2) (by omega)) (qA (qBb k r [34]) (qO p34 (qA (qBb k r [35]) (qD p35 (qA h2 (qA (h8 (k+2) (by omega)) (h9 (k+2) (by omega))))))))
   ·have p35:List.isPrefixOf [35] r=false:=by rw [Bool.eq_false_iff];exact fun e=>hh ((qE7 35 r).1 e)
    simp only [if_neg hh]
    obtain ⟨n2,h2⟩:=qGT [40] (r,false,l)
    cases hc:(qX [40] (r,false,l)).1 with
    |true=>
     rw [if_pos ⟨hh,rfl⟩]
     have t2:=qDh (by simp) hc
     have t3:=qAA (qX [40] (r,false,l)).2.1
     simp only [ett] at t2
     have g1:Gd (r,false,l):=⟨by simp only;omega,hn60,hg.s⟩
     obtain ⟨n3,h3⟩:=qFP f (.bin 1 (deep+1)) (qX [40] (r,false,l)).2 (by show 20*_+6≤f;omega) (by show 0≤deep+1∧deep+1≤401;omega) (qCn g1) trivial
     generalize pP f (.bin 1 (deep+1)) (qX [40] (r,false,l)).2=q at h3⊢
     obtain ⟨n4,h4⟩:=qGT [41] q.2
     refine ⟨n1+n2+n3+n4+3,fun n hn=>?_⟩
     obtain ⟨k,rfl,hm⟩:=up3 hn
     have w1:IntKind.i64.wrap (deep+1)=deep+1:=qT (by omega)
     have h3:=h3 (k+2) (by omega)
     rw [←w1] at h3
     cases hbb:q.2.2.1 with
     |true=>
      refine qA (h1 (k+2) (by omega)) (qA (qBb k r [34]) (qO p34 (qA (qBb k r [35]) (qO p35 (qA (h2 (k+2) (by omega)) (qD hc (qA h3 (qD hbb ?_))))))))
      rw [qC]
      unfold qCR
      rw [if_pos hbb]
      simp only [qHF,hbb]
     |false=>
      refine qA (h1 (k+2) (by omega)) (qA (qBb k r [34]) (qO p34 (qA (qBb k r [35]) (qO p35 (qA (h2 (k+2) (by omega)) (qD hc (qA h3 (qO hbb (qA (h4 (k+2) (by omega)) ?_)))))))))
      rw [qC]
      exact congrArg (fun x=>some (q.1,x)) (qNA [41] hbb)
    |false=>
     rw [if_neg (fun h=>by simp at h)]
     have e:(qX [40] (r,false,l)).2=(r,false,l):=by
      unfold qX at hc⊢
      split at hc
      ·cases hc
      ·rename_i hne
       rw [if_neg hne];simp only [ett]
     rw [hc,e] at h2
     refine ⟨n1+n2+n8+n9+3,fun n hn=>?_⟩
     obtain ⟨k,rfl,hm⟩:=up3 hn
     exact qA (h1 (k+2) (by omega)) (qA (qBb k r [34]) (qO p34 (qA (qBb k r [35]) (qO p35 (qA (h2 (k+2) (by omega)) (qO rfl (qA (h8 (k+2) (by omega)) (h9 (k+2) (by omega)))))))))
 |f+1,.call op deep,p,ha,hj,hg,_=>by
  replace ha:20*(tb p.1).length+9≤f+1:=ha
  unfold pP
  have gm:=qKp (w:= [40]) hg
  have rm:=qKm [40] p
  obtain ⟨ks,p',e1,e2,e3,n2,h2⟩:=qFP f (.args op deep []) (qCR [40] p) (by show 20*_+8≤f;omega) hj gm.1 (by have:=gm.1.r;show 0+_≤_;omega)
  obtain ⟨n1,h1⟩:=qGT [40] p
  obtain ⟨n3,h3⟩:=qOL (ndK 6 op ks) p' e2.n
  rw [e1]
  refine ⟨n1+n2+n3+1,fun n hn=>?_⟩
  obtain ⟨k,rfl,hm⟩:=up1 hn
  have h2:=h2 k (by omega) k (by omega)
  by_cases hb:p.2.1=true
  ·have em:qFp (qCR [40] p)=(BR p.1,p.2.2.length,true,p.2.2.map qa):=by
    unfold qCR;rw [if_pos hb];simp only [qFp,hb]
   rw [em] at h2
   exact qD hb (qA h2 (qD (decide_eq_true (by simp)) (qA (h3 k (by omega)) rfl)))
  ·have hb:p.2.1=false:=by rw [Bool.eq_false_iff];exact hb
   have em:=qNA [40] hb
   rw [←em] at h2
   exact qO hb (qA (h1 k (by omega)) (qA h2 (qD (decide_eq_true (by simp)) (qA (h3 k (by omega)) rfl))))
 |f+1,.args op deep kids,p,ha,hj,hg,hk=>by
  replace ha:20*(tb p.1).length+8≤f+1:=ha
  replace hk:kids.length+p.1.length≤1500:=hk
  replace hj:0≤deep∧deep≤400:=hj
  unfold pP
  cases hb:p.2.1 with
  |true=>
   rw [if_pos rfl]
   refine ⟨kids,p,rfl,hg,by omega,1,fun n hn M hM=>?_⟩
   obtain ⟨M,rfl,hM⟩:=up1 hM
   exact qP (qO (by show (!p.2.1)=false;rw [hb];rfl) rfl)
  |false=>
   rw [if_neg (by simp)]
   simp only
   obtain ⟨x,hx,n1,h1⟩:=qUx p hg.r
   have ga:=qTf hg
   have ra:=qIW p
   have tl0:=qAA p.1
   have nb:∀k:Nat,(!(qFp p).2.2.1)=true:=fun _=>by show (!p.2.1)=true;rw [hb];rfl
   cases hi:(qBG p).1 with
   |some y=>
    have hxy:=hx y hi
    subst hxy
    obtain ⟨n3,h3⟩:=qOL x (qBG p).2 ga.1.n
    have eo:qEZ (qBG p) (fun p=>pP f (.bin 1 (deep+1)) p)=qDM x (qBG p).2:=by unfold qEZ;rw [hi]
    rw [eo]
    have gq:Gd (qDM x (qBG p).2).2∧(qDM x (qBG p).2).2.1.length≤p.1.length∧(tb (qDM x (qBG p).2).2.1).length≤(tb p.1).length:=⟨qG9 ga.1 (ga.2.2 x hi),by rw [qA0];exact ga.2.1,by rw [qA0];exact ra⟩
    have n2:=0
    generalize qDM x (qBG p).2=Q at h3 gq⊢
    obtain ⟨n4,h4⟩:=qGT [44] Q.2
    cases hc:(qX [44] Q.2).1 with
    |true=>
     obtain ⟨ks,p',e1,e2,e3,n6,h6⟩:=qFP f (.args op deep (kids++ [Q.1])) (qX [44] Q.2).2 (by have:=qDh (by simp) hc;show 20*(tb (qX [44] Q.2).2.1).length+8≤f;have:=qAA (qX [44] Q.2).2.1;omega) ⟨hj.1,hj.2⟩ (qCn gq.1) (by have:=qDh (by simp) hc;have:=qAA Q.2.1;show (kids++ [Q.1]).length+_≤_;simp;omega)
     refine ⟨ks,p',by rw [if_pos rfl];exact e1,e2,e3,n1+n2+n3+n4+n6+1,fun k hn M hM=>?_⟩
     obtain ⟨M,rfl,hM⟩:=up1 hM
     rw [qU (v':=(op,deep,(kids++ [Q.1]).length,(kids++ [Q.1]).map q9,qFp (qX [44] Q.2).2)) (by
      have h1:=h1 k (by omega)
      rw [hi] at h1
      refine qD (nb 0) (qA h1 (qD rfl (qA (h3 k (by omega)) (qD rfl (qD (decide_eq_true ⟨by simp,by decide,by decide,by simp;omega,rfl⟩) (qA (h4 k (by omega)) ?_))))))
      refine qO (by simp only;rw [hc];rfl) ?_
      rw [qC]
      simp only [List.length_append,List.map_append]
      rfl)]
     exact h6 k (by omega) M (by omega)
    |false=>
     obtain ⟨n5,h5⟩:=qGT [41] (qX [44] Q.2).2
     refine ⟨kids++ [Q.1],qCR [41] (qX [44] Q.2).2,by rw [if_neg (by simp)],(qKp (qCn gq.1)).1,by simp;omega,n1+n2+n3+n4+n5+1,fun k hn M hM=>?_⟩
     obtain ⟨M,rfl,hM⟩:=up1 hM
     cases hbb:(qX [44] Q.2).2.2.1 with
     |true=>
      rw [qP (r:=(op,(kids++ [Q.1]).length,(kids++ [Q.1]).map q9,qFp (qCR [41] (qX [44] Q.2).2))) (by
       have h1:=h1 k (by omega)
       rw [hi] at h1
       refine qD (nb 0) (qA h1 (qD rfl (qA (h3 k (by omega)) (qD rfl (qD (decide_eq_true ⟨by simp,by decide,by decide,by simp;omega,rfl⟩) (qA (h4 k (by omega)) ?_))))))
       refine qD (by simp only;rw [hc];rfl) (qD hbb ?_)
       rw [qC]
       unfold qCR
       rw [if_pos hbb]
       simp only [List.length_append,List.map_append,qFp,hbb]
       rfl)]
     |false=>
      rw [qP (r:=(op,(kids++ [Q.1]).length,(kids++ [Q.1]).map q9,qFp (qCR [41] (qX [44] Q.2).2))) (by
       have h1:=h1 k (by omega)
       rw [hi] at h1
       refine qD (nb 0) (qA h1 (qD rfl (qA (h3 k (by omega)) (qD rfl (qD (decide_eq_true ⟨by simp,by decide,by decide,by simp;omega,rfl⟩) (qA (h4 k (by omega)) ?_))))))
       refine qD (by simp only;rw [hc];rfl) (qO hbb (qA (h5 k (by omega)) ?_))
       rw [qC]
       simp only [List.length_append,List.map_append]
       exact congrArg (fun x=>some (Sum.inr (op,kids.length+1,kids.map q9++ [[PV.i IntKind.i64 Q.1]],x))) (qNA [41] hbb))]
   |none=>
    have eo:qEZ (qBG p) (fun p=>pP f (.bin 1 (deep+1)) p)=pP f (.bin 1 (deep+1)) (qBG p).2:=by unfold qEZ;rw [hi]
    rw [eo]
    obtain ⟨n3,h3⟩:=qFP f (.bin 1 (deep+1)) (qBG p).2 (by show 20*_+6≤f;omega) (by show 0≤deep+1∧deep+1≤401;omega) ga.1 trivial
    have g3:=qFB f (.bin 1 (deep+1)) (qBG p).2 ga.1 trivial
    have l3:=qDi f (.bin 1 (deep+1)) (qBG p).2
    have w1:IntKind.i64.wrap (deep+1)=deep+1:=qT (by omega)
    have gq:Gd (pP f (.bin 1 (deep+1)) (qBG p).2).2∧(pP f (.bin 1 (deep+1)) (qBG p).2).2.1.length≤p.1.length∧(tb (pP f (.bin 1 (deep+1)) (qBG p).2).2.1).length≤(tb p.1).length:=⟨g3.1,Nat.le_trans g3.2 ga.2.1,Nat.le_trans l3 ra⟩
    rw [←w1] at h3
    have n2:=0
    rw [w1] at h3
    generalize pP f (.bin 1 (deep+1)) (qBG p).2=Q at h3 gq⊢
    obtain ⟨n4,h4⟩:=qGT [44] Q.2
    cases hc:(qX [44] Q.2).1 with
    |true=>
     obtain ⟨ks,p',e1,e2,e3,n6,h6⟩:=qFP f (.args op deep (kids++ [Q.1])) (qX [44] Q.2).2 (by have:=qDh (by simp) hc;show 20*(tb (qX [44] Q.2).2.1).length+8≤f;have:=qAA (qX [44] Q.2).2.1;omega) ⟨hj.1,hj.2⟩ (qCn gq.1) (by have:=qDh (by simp) hc;have:=qAA Q.2.1;show (kids++ [Q.1]).length+_≤_;simp;omega)
     refine ⟨ks,p',by rw [if_pos rfl];exact e1,e2,e3,n1+n2+n3+n4+n6+1,fun k hn M hM=>?_⟩
     obtain ⟨M,rfl,hM⟩:=up1 hM
     rw [qU (v':=(op,deep,(kids++ [Q.1]).length,(kids++ [Q.1]).map q9,qFp (qX [44] Q.2).2)) (by
      have h1:=h1 k (by omega)
      rw [hi] at h1
      have h3:=h3 k (by omega)
      rw [←w1] at h3
      refine qD (nb 0) (qA h1 (qO rfl (qA h3 (qD rfl (qD (decide_eq_true ⟨by simp,by decide,by decide,by simp;omega,rfl⟩) (qA (h4 k (by omega)) ?_))))))
      refine qO (by simp only;rw [hc];rfl) ?_
      rw [qC]
      simp only [List.length_append,List.map_append]
      rfl)]
     exact h6 k (by omega) M (by omega)
    |false=>
     obtain ⟨n5,h5⟩:=qGT [41] (qX [44] Q.2).2
     refine ⟨kids++ [Q.1],qCR [41] (qX [44] Q.2).2,by rw [if_neg (by simp)],(qKp (qCn gq.1)).1,by simp;omega,n1+n2+n3+n4+n5+1,fun k hn M hM=>?_⟩
     obtain ⟨M,rfl,hM⟩:=up1 hM
     cases hbb:(qX [44] Q.2).2.2.1 with
     |true=>
      rw [qP (r:=(op,(kids++ [Q.1]).length,(kids++ [Q.1]).map q9,qFp (qCR [41] (qX [44] Q.2).2))) (by
       have h1:=h1 k (by omega)
       rw [hi] at h1
       have h3:=h3 k (by omega)
       rw [←w1] at h3
       refine qD (nb 0) (qA h1 (qO rfl (qA h3 (qD rfl (qD (decide_eq_true ⟨by simp,by decide,by decide,by simp;omega,rfl⟩) (qA (h4 k (by omega)) ?_))))))
       refine qD (by simp only;rw [hc];rfl) (qD hbb ?_)
       rw [qC]
       unfold qCR
       rw [if_pos hbb]
       simp only [List.length_append,List.map_append,qFp,hbb]
       rfl)]
     |false=>
      rw [qP (r:=(op,(kids++ [Q.1]).length,(kids++ [Q.1]).map q9,qFp (qCR [41] (qX [44] Q.2).2))) (by
       have h1:=h1 k (by omega)
       rw [hi] at h1
       have h3:=h3 k (by omega)
       rw [←w1] at h3
       refine qD (nb 0) (qA h1 (qO rfl (qA h3 (qD rfl (qD (decide_eq_true ⟨by simp,by decide,by decide,by simp;omega,rfl⟩) (qA (h4 k (by omega)) ?_))))))
       refine qD (by simp only;rw [hc];rfl) (qO hbb (qA (h5 k (by omega)) ?_))
       rw [qC]
       simp only [List.length_append,List.map_append]
       exact congrArg (fun x=>some (Sum.inr (op,kids.length+1,kids.map q9++ [[PV.i IntKind.i64 Q.1]],x))) (qNA [41] hbb))]
def pos (s r:List UInt8):Int:=((s.length-r.length:Nat):Int)
def qCv (s:List UInt8) (q:PS):ByteArray×Int×Bool×Nat×List (List PV):=(BR s,pos s q.1,q.2.1,q.2.2.length,q.2.2.map qa)
def qCY (s:List UInt8) (r:Int×PS):Int×ByteArray×Int×Bool×Nat×List (List PV):=(r.1,qCv s r.2)
theorem qSu {s r:List UInt8} (h:r<:+s):s.drop (s.length-r.length)=r:=by
 obtain ⟨t,rfl⟩:=h
 simp
theorem qTg (s r:List UInt8):(pos s r).toNat=s.length-r.length:=by unfold pos;simp
theorem qLe (s r:List UInt8):0≤pos s r:=by unfold pos;omega
theorem qDI {s r:List UInt8} (h:r<:+s):r.length≤s.length:=h.length_le
theorem qKr {s r t:List UInt8} {k:Nat} (h:r<:+s) (e:t=r.drop k) (hk:k≤r.length):pos s r+(k:Int)=pos s t:=by
 subst e
 have:=qDI h
 unfold pos
 simp only [List.length_drop]
 omega
theorem qNB {s r:List UInt8} (h:r<:+s):(BR s).toList[(pos s r).toNat]?=r.head?:=by
 rw [qAM,qTg,←List.head?_drop,qSu h]
theorem qTG {s r:List UInt8} (h:r<:+s):tb r<:+s:=(List.dropWhile_suffix _).trans h
theorem qQR {s t:List UInt8} {c:UInt8} (h:(c::t)<:+s):t<:+s:=(List.suffix_cons c t).trans h
theorem qPU {s r:List UInt8} {k:Nat} (h:r<:+s):(BR s).extract (pos s r).toNat (pos s r+(k:Int)).toNat=BR (r.take k):=by
 rw [qF7,qTg,show (pos s r+(k:Int)).toNat=(s.length-r.length)+k by unfold pos;omega,←List.take_drop,qSu h]
theorem qAr {b:Bool} (h:b=true):(!b)=false:=by rw [h];rfl
theorem qCo {b:Bool} (h:b=false):(!b)=true:=by rw [h];rfl
theorem qRd {s:List UInt8} (hs:s.length≤1000) (n:Nat) (b:Bool) (m:Nat) (rows:List (List PV)):∀(r:List UInt8) (M:Nat),r<:+s→r.length+1≤M→zD (qDV n) M (BR s,pos s r,b,m,rows)=some (BR s,pos s (tb r),b,m,rows)
 |r,0,_,h=>by omega
 | [],M+1,h,_=>by
  exact qP (qO (decide_eq_false (show ¬pos s []<((BR s).size:Int) by rw [qb];unfold pos;simp)) rfl)
 |c::t,M+1,h,hM=>by
  have hl:=qDI h
  simp only [List.length_cons] at hl hM
  have g:=qNB h
  have p1:pos s (c::t)<((BR s).size:Int):=by rw [qb];unfold pos;simp only [List.length_cons];omega
  by_cases hc:c=32
  ·subst hc
   have w1:IntKind.i64.wrap (pos s (32::t)+1)=pos s t:=by
    have:=qKr (k:=1) h (t:=t) rfl (by simp)
    rw [qT (by unfold pos;omega)];exact this
   rw [qU (v':=(BR s,pos s t,b,m,rows)) (by
    refine qD (decide_eq_true p1) (qD (decide_eq_true (qLe _ _)) (qA g (qD rfl ?_)))
    rw [qC,w1])]
   have e:tb (32::t)=tb t:=by simp [tb]
   rw [e]
   exact qRd hs n b m rows t M (qQR h) (by omega)
  ·have e:tb (c::t)=c::t:=by simp [tb,hc]
   rw [e]
   refine qP (qD (decide_eq_true p1) (qD (decide_eq_true (qLe _ _)) (qA g (qO ?_ rfl))))
   rw [beq_eq_false_iff_ne]
   intro e
   exact hc (UInt8.toNat_inj.1 (show c.toNat=32 by omega))
theorem qSH {s:List UInt8} (hs:s.length≤1000) (q:PS) (h:q.1<:+s):Ev (qBh · (BR s) (pos s q.1) q.2.1 q.2.2.length (q.2.2.map qa)) (qCv s (tb q.1,q.2)):=by
 have hl:=qDI h
 refine ⟨q.1.length+2,fun n hn=>?_⟩
 obtain ⟨k,rfl,hm⟩:=up1 hn
 exact qA (qRd hs k q.2.1 q.2.2.length (q.2.2.map qa) q.1 k h (by omega)) rfl
theorem qHB {s:List UInt8} (hs:s.length≤1000) (w:List UInt8) (hw:w.length≤1000) (q:PS) (h:q.1<:+s):Ev (qAG · (BR w) (BR s) (pos s q.1) q.2.1 q.2.2.length (q.2.2.map qa)) ((sIs w q).1,qCv s (sIs w q).2):=by
 obtain ⟨n1,h1⟩:=qSH hs q h
 have ht:=qTG h
 have hl:=qDI ht
 refine ⟨n1+1,fun n hn=>?_⟩
 obtain ⟨k,rfl,hm⟩:=up1 hn
 have w1:IntKind.i64.wrap (pos s (tb q.1)+((BR w).size:Int))=pos s (tb q.1)+(w.length:Int):=by rw [qb];exact qT (by unfold pos;omega)
 unfold sIs
 cases hb:q.2.1 with
 |true=>
  rw [if_pos rfl]
  have h1:=h1 k (by omega)
  rw [hb] at h1
  refine qA h1 (qD hb ?_)
  rw [qC]
 |false=>
  have h1:=h1 k (by omega)
  rw [hb] at h1
  rw [if_neg (by simp)]
  by_cases hf:pos s (tb q.1)+(w.length:Int)>(s.length:Int)
  ·have hn:¬w.isPrefixOf (tb q.1)=true:=by
    intro e
    have:=(List.isPrefixOf_iff_prefix.1 e).length_le
    unfold pos at hf
    omega
   rw [if_neg hn]
   refine qA h1 (qO hb (qD (decide_eq_true (show IntKind.i64.wrap (pos s (tb q.1)+((BR w).size:Int))>((BR s).size:Int) by rw [w1,qb];exact hf)) ?_))
   rw [qC]
  ·have hx:=qPU (k:=w.length) ht
   have hwl:w.length≤(tb q.1).length:=by unfold pos at hf;omega
   have cmp:((BR s).extract (pos s (tb q.1)).toNat (IntKind.i64.wrap (pos s (tb q.1)+((BR w).size:Int))).toNat).toList==(BR w).toList↔w.isPrefixOf (tb q.1)=true:=by
    rw [w1,hx,qAM,qAM,beq_iff_eq,List.isPrefixOf_iff_prefix,List.prefix_iff_eq_take]
    exact ⟨fun e=>e.symm,fun e=>e.symm⟩
   refine qA h1 (qO hb (qO (decide_eq_false (show ¬IntKind.i64.wrap (pos s (tb q.1)+((BR w).size:Int))>((BR s).size:Int) by rw [w1,qb];exact hf)) (qD (decide_eq_true (show 0≤pos s (tb q.1)∧pos s (tb q.1)≤IntKind.i64.wrap (pos s (tb q.1)+((BR w).size:Int))∧IntKind.i64.wrap (pos s (tb q.1)+((BR w).size:Int))≤((BR s).size:Int) by rw [w1,qb];exact ⟨qLe _ _,by omega,by omega⟩)) ?_)))
   by_cases hp:w.isPrefixOf (tb q.1)=true
   ·rw [if_pos hp]
    refine qO (qAr (cmp.2 hp)) ?_
    rw [qC]
    show some (true,BR s,IntKind.i64.wrap (pos s (tb q.1)+((BR w).size:Int)),q.2.1,q.2.2.length,q.2.2.map qa)=_
    rw [w1,qKr ht rfl hwl]
    rfl
   ·rw [if_neg hp]
    refine qD (qCo (by rw [Bool.eq_false_iff];exact fun e=>hp (cmp.1 e))) ?_
    rw [qC]
theorem qKg {s:List UInt8} (x:Nd) (q:PS) (h:q.2.2.length≤5000) (hx:qQ9 x):Ev (qr · x.1 x.2.1 x.2.2.1 x.2.2.2.1 x.2.2.2.2.1 x.2.2.2.2.2.1 x.2.2.2.2.2.2.1 x.2.2.2.2.2.2.2.1 x.2.2.2.2.2.2.2.2.1 x.2.2.2.2.2.2.2.2.2.1 x.2.2.2.2.2.2.2.2.2.2.1 x.2.2.2.2.2.2.2.2.2.2.2.1 x.2.2.2.2.2.2.2.2.2.2.2.2.1 ((kd x).map q9) (BR s) (pos s q.1) q.2.1 q.2.2.length (q.2.2.map qa)) (qCY s (qD9 x q)):=by
 obtain ⟨n1,h1⟩:=qIT x (by have:=hx.2;omega)
 refine ⟨n1+1,fun n hn=>?_⟩
 obtain ⟨k,rfl,hm⟩:=up1 hn
 have w2:IntKind.i64.wrap ((((q.2.2.length+1):Nat):Int)-1)=(q.2.2.length:Int):=by rw [qT (by omega)];omega
 refine qD rfl (qD (decide_eq_true ⟨by simp,by decide,by decide,by simp;omega,rfl⟩) ?_)
 unfold qD9
 by_cases h6:60<q.2.2.length+1
 ·rw [if_pos (.inl h6)]
  refine qD (decide_eq_true (by omega)) ?_
  rw [qC,w2]
  simp only [qCY,qCv,List.map_append,List.length_append]
  rfl
 ·refine qO (decide_eq_false (by omega)) (qA (h1 k (by omega)) ?_)
  cases ho:qFA x with
  |true=>
   rw [if_neg (fun e=>e.elim h6 (by simp))]
   refine qO rfl ?_
   rw [qC,w2]
   simp only [qCY,qCv,List.map_append,List.length_append]
   rfl
  |false=>
   rw [if_pos (.inr rfl)]
   refine qD rfl ?_
   rw [qC,w2]
   simp only [qCY,qCv,List.map_append,List.length_append]
   rfl
theorem qOa {s:List UInt8} (hs:s.length≤1000) (n:Nat) (at0:Int) (b:Bool) (m:Nat) (rows:List (List PV)):∀(r:List UInt8) (M:Nat),r<:+s→r.length+1≤M→zD (qB6 n) M (at0,BR s,pos s r,b,m,rows)=some (at0,BR s,pos s (wr r),b,m,rows)
 |r,0,_,h=>by omega
 | [],M+1,h,_=>by
  exact qP (qO (decide_eq_false (show ¬pos s []<((BR s).size:Int) by rw [qb];unfold pos;simp)) rfl)
 |c::t,M+1,h,hM=>by
  have hl:=qDI h
  simp only [List.length_cons] at hl hM
  have g:=qNB h
  have p1:pos s (c::t)<((BR s).size:Int):=by rw [qb];unfold pos;simp only [List.length_cons];omega
  have p0:decide (0≤pos s (c::t))=true:=decide_eq_true (qLe _ _)
  have w1:IntKind.i64.wrap (pos s (c::t)+1)=pos s t:=by
   have:=qKr (k:=1) h (t:=t) rfl (by simp)
   rw [qT (by unfold pos;omega)];exact this
  have yes:(wch c=true)→(qB6 n (at0,BR s,pos s (c::t),b,m,rows)).run=some (.inl (at0,BR s,pos s t,b,m,rows)):=fun hc=>by
   have fin:some (Sum.inl (at0,BR s,IntKind.i64.wrap (pos s (c::t)+1),b,m,rows))=(some (Sum.inl (at0,BR s,pos s t,b,m,rows)):Option (_⊕(Int×ByteArray×Int×Bool×Nat×List (List PV)))):=by rw [w1]
   refine qD (decide_eq_true p1) (qD p0 (qA g ?_))
   by_cases a1:(c.toNat:Int)≥65
   ·refine qD (decide_eq_true a1) (qD p0 (qA g ?_))
    by_cases a2:(c.toNat:Int)≤90
    ·exact qD (decide_eq_true a2) fin
    ·refine qO (decide_eq_false a2) (qD p0 (qA g ?_))
     by_cases a3:(c.toNat:Int)≥48
     ·refine qD (decide_eq_true a3) (qD p0 (qA g ?_))
      by_cases a4:(c.toNat:Int)≤57
      ·exact qD (decide_eq_true a4) fin
      ·refine qO (decide_eq_false a4) (qD p0 (qA g ?_))
       have a5:c=36:=by
        unfold wch at hc
        simp only [Bool.or_eq_true,Bool.and_eq_true,decide_eq_true_eq,beq_iff_eq] at hc
        rcases hc with hc|hc|hc
        ·omega
        ·omega
        ·exact hc
       exact qD (by rw [a5];rfl) fin
     ·omega
   ·refine qO (decide_eq_false a1) (qD p0 (qA g ?_))
    by_cases a3:(c.toNat:Int)≥48
    ·refine qD (decide_eq_true a3) (qD p0 (qA g ?_))
     by_cases a4:(c.toNat:Int)≤57
     ·exact qD (decide_eq_true a4) fin
     ·refine qO (decide_eq_false a4) (qD p0 (qA g ?_))
      have a5:c=36:=by
       unfold wch at hc
       simp only [Bool.or_eq_true,Bool.and_eq_true,decide_eq_true_eq,beq_iff_eq] at hc
       rcases hc with hc|hc|hc
       ·omega
       ·omega
       ·exact hc
      exact qD (by rw [a5];rfl) fin
    ·refine qO (decide_eq_false a3) (qD p0 (qA g ?_))
     have a5:c=36:=by
      unfold wch at hc
      simp only [Bool.or_eq_true,Bool.and_eq_true,decide_eq_true_eq,beq_iff_eq] at hc
      rcases hc with hc|hc|hc
      ·omega
      ·omega
      ·exact hc
     exact qD (by rw [a5];rfl) fin
  have no:(wch c=false)→(qB6 n (at0,BR s,pos s (c::t),b,m,rows)).run=some (.inr (at0,BR s,pos s (c::t),b,m,rows)):=fun hc=>by
   have hc':¬((65≤c.toNat∧c.toNat≤90)∨(48≤c.toNat∧c.toNat≤57)∨c=36):=fun e=>by
    have:wch c=true:=by
     unfold wch
     simp only [Bool.or_eq_true,Bool.and_eq_true,decide_eq_true_eq,beq_iff_eq]
     exact e
    rw [hc] at this;cases this
   have a5:((c.toNat:Int)==36)=false:=by
    rw [beq_eq_false_iff_ne];intro e
    exact hc' (.inr (.inr (UInt8.toNat_inj.1 (show c.toNat=36 by omega))))
   refine qD (decide_eq_true p1) (qD p0 (qA g ?_))
   by_cases a1:(c.toNat:Int)≥65
   ·have a2:¬(c.toNat:Int)≤90:=fun e=>hc' (.inl ⟨by omega,by omega⟩)
    refine qD (decide_eq_true a1) (qD p0 (qA g (qO (decide_eq_false a2) ?_)))
    refine qD p0 (qA g (qD (decide_eq_true (show (c.toNat:Int)≥48 by omega)) ?_))
    exact qD p0 (qA g (qO (decide_eq_false (show ¬(c.toNat:Int)≤57 by omega)) (qD p0 (qA g (qO a5 rfl)))))
   ·refine qO (decide_eq_false a1) (qD p0 (qA g ?_))
    by_cases a3:(c.toNat:Int)≥48
    ·have a4:¬(c.toNat:Int)≤57:=fun e=>hc' (.inr (.inl ⟨by omega,by omega⟩))
     exact qD (decide_eq_true a3) (qD p0 (qA g (qO (decide_eq_false a4) (qD p0 (qA g (qO a5 rfl))))))
    ·exact qO (decide_eq_false a3) (qD p0 (qA g (qO a5 rfl)))
  cases hc:wch c with
  |true=>
   rw [qU (yes hc),show wr (c::t)=wr t by simp [wr,hc]]
   exact qOa hs n at0 b m rows t M (qQR h) (by omega)
  |false=>
   rw [qP (no hc),show wr (c::t)=c::t by simp [wr,hc]]
theorem qQS {s:List UInt8} (hs:s.length≤1000) (q:PS) (h:q.1<:+s):Ev (qC1 · (BR s) (pos s q.1) q.2.1 q.2.2.length (q.2.2.map qa)) (BR (wd q.1),qCv s (wr q.1,q.2)):=by
 have hl:=qDI h
 have hw:=qG8 q.1
 have hd:=congrArg List.length (wdr q.1)
 simp only [List.length_append] at hd
 refine ⟨q.1.length+2,fun n hn=>?_⟩
 obtain ⟨k,rfl,hm⟩:=up1 hn
 refine qA (qOa hs k (pos s q.1) q.2.1 q.2.2.length (q.2.2.map qa) q.1 k h (by omega)) (qD (decide_eq_true ⟨qLe _ _,by unfold pos;simp only;omega,by rw [qb];unfold pos;simp only;omega⟩) ?_)
 rw [qC]
 have e:(pos s (wr q.1))=pos s q.1+((wd q.1).length:Int):=by unfold pos;omega
 have x:=qPU (k:=(wd q.1).length) h
 rw [←e] at x
 have t:q.1.take (wd q.1).length=wd q.1:=by
  have:=List.take_left (l₁:=wd q.1) (l₂:=wr q.1)
  rwa [wdr] at this
 rw [t] at x
 show some ((BR s).extract (pos s q.1).toNat (pos s (wr q.1)).toNat,_)=_
 rw [x]
 rfl
theorem qHd {s:List UInt8} (hs:s.length≤1000) {n:Nat} (b:Bool) (l:List Nd) (res:Int×PS):∀(k:Nat) (r acc:List UInt8) (M:Nat),r.length≤k→r<:+s→acc.length+r.length≤1001→r.length+1≤M→
  (∀w t,qCC acc r=some (w,t)→qr n 1 0 2 0 (BR w) 0 0 false false 0 0 false false [] (BR s) (pos s t) b l.length (l.map qa)=some (qCY s res))→
  zD (qDx n) M (BR acc,BR s,pos s r,b,l.length,l.map qa)=some (match qCC acc r with
   |none=> .inr (BR s,pos s [],b,l.length,l.map qa)
   |some _=> .inl (qCY s res))
 |k,r,acc,0,_,_,_,h,_=>by omega
 |k,[],acc,M+1,_,h,_,_,_=>by
  exact qP (qO (decide_eq_false (show ¬pos s []<((BR s).size:Int) by rw [qb];unfold pos;simp)) rfl)
 |0,c::t,acc,M+1,hk,_,_,_,_=>by simp at hk
 |k+1,c::t,acc,M+1,hk,h,ha,hM,hr=>by
  have hl:=qDI h
  simp only [List.length_cons] at hl hM hk ha
  have g:=qNB h
  have p1:pos s (c::t)<((BR s).size:Int):=by rw [qb];unfold pos;simp only [List.length_cons];omega
  have p0:decide (0≤pos s (c::t))=true:=decide_eq_true (qLe _ _)
  have pa:=qKr (k:=1) h (t:=t) rfl (by simp)
  have w1:IntKind.i64.wrap (pos s (c::t)+1)=pos s t:=by rw [qT (by unfold pos;omega)];exact pa
  by_cases hc:c=34
  ·subst hc
   have ht:=qQR h
   by_cases hq:t.head?=some 34
   ·obtain ⟨u,rfl⟩:=qKq hq
    simp only [List.length_cons] at hl hM hk ha
    rw [qVF] at hr⊢
    have g2:=qNB ht
    have pb:=qKr (k:=1) ht (t:=u) rfl (by simp)
    have w2:IntKind.i64.wrap (pos s (34::u)+1)=pos s u:=by rw [qT (by unfold pos;omega)];exact pb
    rw [qU (v':=(BR (acc++ [34]),BR s,pos s u,b,l.length,l.map qa)) (by
     refine qD (decide_eq_true p1) (qD p0 (qA g (qO rfl (qO (decide_eq_false (show ¬IntKind.i64.wrap (pos s (34::34::u)+1)≥((BR s).size:Int) by rw [w1,qb];unfold pos;simp only [List.length_cons];omega)) (qD (decide_eq_true (show 0≤IntKind.i64.wrap (pos s (34::34::u)+1) by rw [w1];exact qLe _ _)) (qA (x:=34) (by show (BR s).toList[(IntKind.i64.wrap (pos s (34::34::u)+1)).toNat]?=_;rw [w1];exact g2) (qO rfl (qD (decide_eq_true (show (BR acc).size+1≤9223372036854775807 by rw [qb];omega)) ?_))))))))
     rw [qC]
     show some (Sum.inl (BR acc++BR [34],BR s,IntKind.i64.wrap (IntKind.i64.wrap (pos s (34::34::u)+1)+1),b,l.length,l.map qa))=_
     rw [w1,w2,qOJ])]
    exact qHd hs b l res k u _ M (by omega) (qQR ht) (by simp;omega) (by omega) hr
   ·rw [qVG acc t hq] at hr⊢
    have hr:=hr acc t rfl
    refine qP (qD (decide_eq_true p1) (qD p0 (qA g (qO rfl ?_))))
    cases t with
    |nil=>
     refine qD (decide_eq_true (show IntKind.i64.wrap (pos s [34]+1)≥((BR s).size:Int) by rw [w1,qb];unfold pos;simp)) ?_
     rw [←w1] at hr
     exact qA hr rfl
    |cons d u=>
     have g2:=qNB ht
     have hd:¬d=34:=fun e=>hq (by rw [e];rfl)
     refine qO (decide_eq_false (show ¬IntKind.i64.wrap (pos s (34::d::u)+1)≥((BR s).size:Int) by rw [w1,qb];unfold pos;simp only [List.length_cons] at hl⊢;omega)) (qD (decide_eq_true (show 0≤IntKind.i64.wrap (pos s (34::d::u)+1) by rw [w1];exact qLe _ _)) (qA (x:=d) (by show (BR s).toList[(IntKind.i64.wrap (pos s (34::d::u)+1)).toNat]?=_;rw [w1];exact g2) (qD ?_ ?_)))
     ·rw [bne_iff_ne]
      intro e
      exact hd (UInt8.toNat_inj.1 (show d.toNat=34 by omega))
     ·rw [←w1] at hr
      exact qA hr rfl
  ·rw [qVH acc t hc] at hr⊢
   have hx:=qPU (k:=1) h
   rw [show ((1:Nat):Int)=1 from rfl] at hx pa
   have hx:(BR s).extract (pos s (c::t)).toNat (IntKind.i64.wrap (pos s (c::t)+1)).toNat=BR [c]:=by
    rw [w1,←pa];exact hx
   rw [qU (v':=(BR (acc++ [c]),BR s,pos s t,b,l.length,l.map qa)) (by
    refine qD (decide_eq_true p1) (qD p0 (qA g (qD ?_ (qD (decide_eq_true (show 0≤pos s (c::t)∧pos s (c::t)≤IntKind.i64.wrap (pos s (c::t)+1)∧IntKind.i64.wrap (pos s (c::t)+1)≤((BR s).size:Int) by rw [w1,qb];exact ⟨qLe _ _,by unfold pos;simp only [List.length_cons];omega,by unfold pos;omega⟩)) (qD (decide_eq_true (show (BR acc).size+((BR s).extract (pos s (c::t)).toNat (IntKind.i64.wrap (pos s (c::t)+1)).toNat).size≤9223372036854775807 by rw [hx,qb,qb];simp;omega)) ?_)))))
    ·rw [bne_iff_ne]
     intro e
     exact hc (UInt8.toNat_inj.1 (show c.toNat=34 by omega))
    ·rw [qC]
     show some (Sum.inl (BR acc++(BR s).extract (pos s (c::t)).toNat (IntKind.i64.wrap (pos s (c::t)+1)).toNat,BR s,IntKind.i64.wrap (pos s (c::t)+1),b,l.length,l.map qa))=_
     rw [hx,qOJ,w1])]
   exact qHd hs b l res k t _ M (by omega) (qQR h) (by simp;omega) (by omega) hr
theorem qUN {s:List UInt8} (hs:s.length≤1000) (q:PS) (h:q.1<:+s) (hn:q.2.2.length≤5000):Ev (qFI · (BR s) (pos s q.1) q.2.1 q.2.2.length (q.2.2.map qa)) (qCY s (match qCC [] q.1 with
  |none=>(0,[],true,q.2.2)
  |some (w,t)=>qD9 (nd1 (2,0,BR w)) (t,q.2))):=by
 have hl:=qDI h
 cases hq:qCC [] q.1 with
 |none=>
  refine ⟨q.1.length+2,fun n hn=>?_⟩
  obtain ⟨k,rfl,hm⟩:=up1 hn
  have lp:=qHd hs (n:=k) q.2.1 q.2.2 (0,q) q.1.length q.1 [] k (Nat.le_refl _) h (by simp;omega) (by omega) (fun w t e=>by rw [hq] at e;cases e)
  rw [hq] at lp
  exact qA lp rfl
 |some wt=>
  obtain ⟨w,t⟩:=wt
  have hw:=qHA _ _ _ (Nat.le_refl _) hq
  simp only [List.length_nil] at hw
  obtain ⟨n1,h1⟩:=qKg (s:=s) (nd1 (2,0,BR w)) (t,q.2) hn ⟨by simp [kd,nd1],by simp only [nd1,qb];omega⟩
  refine ⟨n1+q.1.length+2,fun n hn=>?_⟩
  obtain ⟨k,rfl,hm⟩:=up1 hn
  have lp:=qHd hs (n:=k) q.2.1 q.2.2 (qD9 (nd1 (2,0,BR w)) (t,q.2)) q.1.length q.1 [] k (Nat.le_refl _) h (by simp;omega) (by omega) (fun w' t' e=>by rw [hq] at e;cases e;exact h1 k (by omega))
  rw [hq] at lp
  exact qA lp rfl
theorem qSI:∀o∈qCF,(qAP o).toList≠ []∧(qAP o).size≤2:=by decide+kernel
theorem qUO:∀o∈qCF,1≤o∧o≤11:=by decide
def opR:List (List PV):=qCF.map q9
def rsL (level:Int) (r:List UInt8):List Int→List UInt8
 | []=>r
 |o::l=>if lvl o=level then rsL level (tb r) l else rsL level r l
theorem qOM {s:List UInt8} (hs:s.length≤1000) {n:Nat} (level:Int) (R:List UInt8) (hR:tb R=R) (m:Nat) (rows:List (List PV))
  (h1:∀o∈qCF,qCM n o=some (lvl o)) (h2:∀o∈qCF,qCp n o=some (qAP o)):
  ∀(k i:Nat) (r:List UInt8) (M:Nat),i+k=11→k+1≤M→tb r=R→
  (∀r',tb r'=R→(r'=r∨r'=R)→∀o∈qCF,qAG n (qAP o) (BR s) (pos s r') false m rows=some (if (qAP o).toList.isPrefixOf R=true then (true,BR s,pos s (R.drop (qAP o).size),false,m,rows) else (false,BR s,pos s R,false,m,rows)))→
  zD (qEl n) M (level,11,(i:Int),opR,BR s,pos s r,false,m,rows)=some (if qDu level R (qCF.drop i)=0 then .inr (BR s,pos s (rsL level r (qCF.drop i)),false,m,rows) else .inl (qDu level R (qCF.drop i),BR s,pos s (R.drop (qAP (qDu level R (qCF.drop i))).size),false,m,rows))
 |k,i,r,0,_,h,_,_=>by omega
 |0,i,r,M+1,hk,_,_,_=>by
  have hi:i=11:=by omega
  subst hi
  exact qP (qO rfl rfl)
 |k+1,i,r,M+1,hk,hM,hr,h3=>by
  have hi:i<qCF.length:=by simp [qCF];omega
  obtain ⟨o,ho⟩:∃o,qCF[i]?=some o:=⟨_,List.getElem?_eq_getElem hi⟩
  have hin:=List.mem_of_getElem? ho
  have hR2:opR[i]?=some [PV.i .i64 o]:=by simp [opR,List.getElem?_map,ho,q9]
  have hc:zC .i64 [PV.i .i64 o] 0=some o:=rfl
  have hd:qCF.drop i=o::qCF.drop (i+1):=qDN ho
  have w5:IntKind.i64.wrap ((i:Int)+1)=((i+1:Nat):Int):=by rw [qT (by omega)];omega
  have g1:decide ((i:Int)<((11:Nat):Int))=true:=decide_eq_true (by omega)
  have g2:decide (11=opR.length∧0≤(i:Int)∧(i:Int)<((11:Nat):Int))=true:=decide_eq_true ⟨rfl,by omega,by omega⟩
  have h0:o≠0:=by have:=qUO o hin;omega
  rw [hd]
  by_cases hl:lvl o=level
  ·have is:=h3 r hr (.inl rfl) o hin
   by_cases hp:(qAP o).toList.isPrefixOf R=true
   ·have e:qDu level R (o::qCF.drop (i+1))=o:=by unfold qDu;rw [if_pos ⟨hl,hp⟩]
    rw [e,if_neg h0]
    rw [if_pos hp] at is
    exact qP (qD g1 (qD g2 (qA hR2 (qA hc (qA (h1 o hin) (qD (beq_iff_eq.2 hl) (qD g2 (qA hR2 (qA hc (qA (h2 o hin) (qA is (qD rfl (qD g2 (qA hR2 (qA hc rfl)))))))))))))))
   ·have e:qDu level R (o::qCF.drop (i+1))=qDu level R (qCF.drop (i+1)):=by
     conv=>lhs;unfold qDu
     rw [if_neg (fun h=>hp h.2)]
    have e2:rsL level r (o::qCF.drop (i+1))=rsL level R (qCF.drop (i+1)):=by
     conv=>lhs;unfold rsL
     rw [if_pos hl,hr]
    rw [e,e2]
    rw [if_neg hp] at is
    rw [qU (v':=(level,11,((i+1:Nat):Int),opR,BR s,pos s R,false,m,rows)) (by
     refine qD g1 (qD g2 (qA hR2 (qA hc (qA (h1 o hin) (qD (beq_iff_eq.2 hl) (qD g2 (qA hR2 (qA hc (qA (h2 o hin) (qA is (qO rfl ?_)))))))))))
     rw [qC,w5])]
    exact qOM hs level R hR m rows h1 h2 k (i+1) R M (by omega) (by omega) hR (fun r' a b=>h3 r' a (.inr (b.elim id id)))
  ·have e:qDu level R (o::qCF.drop (i+1))=qDu level R (qCF.drop (i+1)):=by
    conv=>lhs;unfold qDu
    rw [if_neg (fun h=>hl h.1)]
   have e2:rsL level r (o::qCF.drop (i+1))=rsL level r (qCF.drop (i+1)):=by
    conv=>lhs;unfold rsL
    rw [if_neg hl]
   rw [e,e2]
   rw [qU (v':=(level,11,((i+1:Nat):Int),opR,BR s,pos s r,false,m,rows)) (by
    refine qD g1 (qD g2 (qA hR2 (qA hc (qA (h1 o hin) (qO (beq_eq_false_iff_ne.2 hl) ?_)))))
    rw [qC,w5])]
   exact qOM hs level R hR m rows h1 h2 k (i+1) r M (by omega) (by omega) hr h3
theorem qVN {level:Int} (h:1≤level∧level≤4) (r:List UInt8):rsL level r qCF=tb r:=by
 have c:level=1∨level=2∨level=3∨level=4:=by omega
 rcases c with rfl|rfl|rfl|rfl<;>simp [rsL,qCF,lvl,qCX]
theorem qVO {s:List UInt8} (hs:s.length≤1000) {level:Int} (hl:1≤level∧level≤4) (q:PS) (hb:q.2.1=false) (h:q.1<:+s):Ev (qEm · level (BR s) (pos s q.1) q.2.1 q.2.2.length (q.2.2.map qa)) (qCY s (sOp level q)):=by
 obtain ⟨n1,h1⟩:=qAl (F:=fun o n=>qCM n o) (f:=lvl) qCF (fun o _=>qJb o)
 obtain ⟨n2,h2⟩:=qAl (F:=fun o n=>qCp n o) (f:=qAP) qCF (fun o ho=>qKa o (qUO o ho))
 obtain ⟨n3,h3⟩:=qAl (F:=fun o n=>qAG n (qAP o) (BR s) (pos s q.1) q.2.1 q.2.2.length (q.2.2.map qa)) (f:=fun o=>((sIs (qAP o).toList q).1,qCv s (sIs (qAP o).toList q).2)) qCF (fun o ho=>by
  have:=qHB hs (qAP o).toList (by rw [qAT];have:=(qSI o ho).2;omega) q h
  rwa [qJd] at this)
 obtain ⟨n4,h4⟩:=qAl (F:=fun o n=>qAG n (qAP o) (BR s) (pos s (tb q.1)) q.2.1 q.2.2.length (q.2.2.map qa)) (f:=fun o=>((sIs (qAP o).toList (tb q.1,q.2)).1,qCv s (sIs (qAP o).toList (tb q.1,q.2)).2)) qCF (fun o ho=>by
  have:=qHB hs (qAP o).toList (by rw [qAT];have:=(qSI o ho).2;omega) (tb q.1,q.2) (qTG h)
  rwa [qJd] at this)
 refine ⟨n1+n2+n3+n4+13,fun n hn=>?_⟩
 obtain ⟨k,rfl,hm⟩:=up1 hn
 have lp:=qOM hs (n:=k) level (tb q.1) (qCX q.1) q.2.2.length (q.2.2.map qa) (h1 k (by omega)) (h2 k (by omega)) 11 0 q.1 k (by omega) (by omega) rfl (fun r' _ hr' o ho=>by
  rcases hr' with rfl|rfl
  ·have:=h3 k (by omega) o ho
   rw [hb] at this
   refine this.trans ?_
   unfold sIs
   rw [if_neg (by rw [hb];simp)]
   by_cases hp:(qAP o).toList.isPrefixOf (tb q.1)=true
   ·rw [if_pos hp,if_pos hp,qAT];simp only [qCv,hb]
   ·rw [if_neg hp,if_neg hp];simp only [qCv,hb]
  ·have:=h4 k (by omega) o ho
   rw [hb] at this
   refine this.trans ?_
   unfold sIs
   rw [if_neg (by rw [hb];simp)]
   simp only [qCX]
   by_cases hp:(qAP o).toList.isPrefixOf (tb q.1)=true
   ·rw [if_pos hp,if_pos hp,qAT];simp only [qCv,hb]
   ·rw [if_neg hp,if_neg hp];simp only [qCv,hb])
 rw [List.drop_zero,qVN hl] at lp
 unfold sOp
 rw [if_neg (by rw [hb];simp)]
 show qEm (k+1) level (BR s) (pos s q.1) q.2.1 q.2.2.length (q.2.2.map qa)=_
 rw [hb]
 by_cases h0:qDu level (tb q.1) qCF=0
 ·rw [if_pos h0] at lp
  rw [if_pos h0]
  refine qA lp ?_
  simp only [qCY,qCv,hb,h0]
  rfl
 ·rw [if_neg h0] at lp
  rw [if_neg h0]
  refine qA lp ?_
  simp only [qCY,qCv,hb]
  rfl
theorem qQT {s:List UInt8} (hs:s.length≤1000) {n:Nat} (r:List UInt8) (hr:r<:+s) (b:Bool) (l:List Nd)
  (h1:∀i,1≤i∧i≤5→qBS n i=some (qe i)) (h2:∀i,1≤i∧i≤5→qC0 n i=some (4,i,em))
  (h4:∀i,1≤i∧i≤5→qr n 1 0 4 i em 0 0 false false 0 0 false false [] (BR s) (pos s (r.drop ((qe i).size-1))) b l.length (l.map qa)=some (qCY s (qD9 (nd1 (4,i,em)) (r.drop ((qe i).size-1),b,l)))):
  ∀(k:Nat) (i:Int) (M:Nat),1≤i→i+k=6→k+1≤M→zD (qCd n) M (i,BR s,pos s r,b,l.length,l.map qa)=some (match qSj r i k with
   |some e=> .inl (qCY s (qD9 (nd1 (4,e,em)) (r.drop ((qe e).size-1),b,l)))
   |none=> .inr (BR s,pos s r,b,l.length,l.map qa))
 |k,i,0,_,_,h=>by omega
 |0,i,M+1,hi,hk,h=>by
  exact qP (qO (decide_eq_false (show ¬i≤5 by omega)) rfl)
 |k+1,i,M+1,hi,hk,h=>by
  have hi5:1≤i∧i≤5:=⟨hi,by omega⟩
  have hsz:1≤(qe i).size∧(qe i).size≤7:=by
   have c:i=1∨i=2∨i=3∨i=4∨i=5:=by omega
   rcases c with rfl|rfl|rfl|rfl|rfl<;>decide+kernel
  have hx:(qe i).extract ((1:Int)).toNat (((qe i).size:Nat):Int).toNat=BR (qe i).toList.tail:=by
   conv=>lhs;rw [←qJd (qe i)]
   rw [qF7,qb,qAT]
   congr 1
   rw [Int.toNat_natCast,List.take_of_length_le (by rw [qAT];omega)]
   exact List.drop_one
  have hxs:((qe i).extract ((1:Int)).toNat (((qe i).size:Nat):Int).toNat).size=(qe i).size-1:=by
   rw [hx,qb,List.length_tail,qAT]
  have hl:=qDI hr
  have w1:IntKind.i64.wrap (pos s r+(((qe i).extract ((1:Int)).toNat (((qe i).size:Nat):Int).toNat).size:Int))=pos s r+(((qe i).size-1:Nat):Int):=by
   rw [hxs];exact qT (by unfold pos;omega)
  have w2:IntKind.i64.wrap (i+1)=i+1:=qT (by omega)
  have ih:=qQT hs r hr b l h1 h2 h4 k (i+1) M (by omega) (by omega) (by omega)
  unfold qSj
  by_cases hf:pos s r+(((qe i).size-1:Nat):Int)≤(s.length:Int)
  ·have hk2:(qe i).size-1≤r.length:=by unfold pos at hf;omega
   have cmp:(((BR s).extract (pos s r).toNat (IntKind.i64.wrap (pos s r+(((qe i).extract ((1:Int)).toNat (((qe i).size:Nat):Int).toNat).size:Int))).toNat).toList==((qe i).extract ((1:Int)).toNat (((qe i).size:Nat):Int).toNat).toList)=true↔(qe i).toList.tail.isPrefixOf r=true:=by
    rw [w1,qPU hr,hx,qAM,qAM,beq_iff_eq,List.isPrefixOf_iff_prefix,List.prefix_iff_eq_take,List.length_tail,qAT]
    exact ⟨fun e=>e.symm,fun e=>e.symm⟩
   have g1:decide (IntKind.i64.wrap (pos s r+(((qe i).extract ((1:Int)).toNat (((qe i).size:Nat):Int).toNat).size:Int))≤((BR s).size:Int))=true:=decide_eq_true (by rw [w1,qb];exact hf)
   have g2:decide (0≤pos s r∧pos s r≤IntKind.i64.wrap (pos s r+(((qe i).extract ((1:Int)).toNat (((qe i).size:Nat):Int).toNat).size:Int))∧IntKind.i64.wrap (pos s r+(((qe i).extract ((1:Int)).toNat (((qe i).size:Nat):Int).toNat).size:Int))≤((BR s).size:Int))=true:=decide_eq_true (by rw [w1,qb];exact ⟨qLe _ _,by omega,hf⟩)
   by_cases hp:(qe i).toList.tail.isPrefixOf r=true
   ·rw [if_pos hp]
    have h4:=h4 i hi5
    rw [←qKr hr rfl hk2,←w1] at h4
    exact qP (qD (decide_eq_true (show i≤5 by omega)) (qA (h1 i hi5) (qD (decide_eq_true ⟨by decide,by omega,Int.le_refl _⟩) (qD g1 (qD g2 (qD (cmp.2 hp) (qA (h2 i hi5) (qA h4 rfl))))))))
   ·rw [if_neg hp]
    rw [qU (v':=(i+1,BR s,pos s r,b,l.length,l.map qa)) (by
     refine qD (decide_eq_true (show i≤5 by omega)) (qA (h1 i hi5) (qD (decide_eq_true ⟨by decide,by omega,Int.le_refl _⟩) (qD g1 (qD g2 (qO (by rw [Bool.eq_false_iff];exact fun e=>hp (cmp.1 e)) ?_)))))
     rw [qC,w2])]
    exact ih
  ·have hp:¬(qe i).toList.tail.isPrefixOf r=true:=by
    intro e
    have:=(List.isPrefixOf_iff_prefix.1 e).length_le
    rw [List.length_tail,qAT] at this
    unfold pos at hf
    omega
   rw [if_neg hp]
   rw [qU (v':=(i+1,BR s,pos s r,b,l.length,l.map qa)) (by
    refine qD (decide_eq_true (show i≤5 by omega)) (qA (h1 i hi5) (qD (decide_eq_true ⟨by decide,by omega,Int.le_refl _⟩) (qO (decide_eq_false (by rw [w1,qb];exact hf)) ?_)))
    rw [qC,w2])]
   exact ih
theorem qUy {s:List UInt8} (hs:s.length≤1000) (r:List UInt8) (hr:r<:+s) (b:Bool) (l:List Nd) (hl:l.length≤5000):∃n0,∀n,n0≤n→∀M,n0≤M→zD (qCd n) M (1,BR s,pos s r,b,l.length,l.map qa)=some (match qSj r 1 5 with
   |some e=> .inl (qCY s (qD9 (nd1 (4,e,em)) (r.drop ((qe e).size-1),b,l)))
   |none=> .inr (BR s,pos s r,b,l.length,l.map qa)):=by
 obtain ⟨n1,h1⟩:=qGQ (F:=qBS) (f:=qe) (lo:=1) (by decide) (fun i hi=>qG4 i ⟨by omega,hi.2⟩)
 obtain ⟨n2,h2⟩:=qGQ (F:=qC0) (f:=fun i=>(4,i,em)) (lo:=1) (by decide) (fun i _=>qPI i)
 obtain ⟨n4,h4⟩:=qGQ (F:=fun n i=>qr n 1 0 4 i em 0 0 false false 0 0 false false [] (BR s) (pos s (r.drop ((qe i).size-1))) b l.length (l.map qa)) (f:=fun i=>qCY s (qD9 (nd1 (4,i,em)) (r.drop ((qe i).size-1),b,l))) (lo:=1) (by decide) (fun i _=>qKg (s:=s) (nd1 (4,i,em)) (r.drop ((qe i).size-1),b,l) hl ⟨by simp [kd,nd1],by simp [nd1,em];decide⟩)
 exact ⟨n1+n2+n4+7,fun n hn M hM=>qQT hs r hr b l (h1 n (by omega)) (h2 n (by omega)) (h4 n (by omega)) 5 1 M (by omega) (by omega) (by omega)⟩
theorem qUz:∃n0,∀n,n0≤n→∀i,1≤i∧i≤10→qCb n i=some (fnS i):=by
 obtain ⟨n1,h1⟩:=qAl (F:=fun (i:Nat) n=>qCb n ((i:Int)+1)) (f:=fun i=>fnS ((i:Int)+1)) (List.range 10) (fun i hi=>qM3 _ (by have:=List.mem_range.1 hi;omega))
 refine ⟨n1,fun n hn i hi=>?_⟩
 have:=h1 n hn (i-1).toNat (List.mem_range.2 (by omega))
 rwa [show (((i-1).toNat:Nat):Int)+1=i by omega] at this
theorem qVP {i j:Int} (hi:1≤i∧i≤10) (hj:1≤j∧j≤10) (h:(fnS i).toList=(fnS j).toList):i=j:=by
 have t:∀a:Fin 10,∀b:Fin 10,(fnS (((a.val:Nat):Int)+1)).toList=(fnS (((b.val:Nat):Int)+1)).toList→a=b:=by decide+kernel
 have:=t ⟨(i-1).toNat,by omega⟩ ⟨(j-1).toNat,by omega⟩ (by
  simp only
  rw [show (((i-1).toNat:Nat):Int)+1=i by omega,show (((j-1).toNat:Nat):Int)+1=j by omega]
  exact h)
 have:=congrArg Fin.val this
 simp only at this
 omega
theorem qRe {g:G_spec_l3Rd_row} {n:Nat} {s:List UInt8} (w:List UInt8) (q:PS) (h1:∀i,1≤i∧i≤10→qCb n i=some (fnS i)):
  ∀(k:Nat) (i:Int) (M:Nat),1≤i→i+k=11→k+1≤M→(∀j,i≤j∧j≤10→(fnS j).toList≠w)→zD (qDC g n) M (BR w,i,qCv s q)=some (.inr (BR w,qCv s q))
 |k,i,0,_,_,h,_=>by omega
 |0,i,M+1,hi,hk,h,_=>qP (qO (decide_eq_false (show ¬i≤10 by omega)) rfl)
 |k+1,i,M+1,hi,hk,h,hn=>by
  have w1:IntKind.i64.wrap (i+1)=i+1:=qT (by omega)
  rw [qU (v':=(BR w,i+1,qCv s q)) (by
   refine qD (decide_eq_true (show i≤10 by omega)) (qA (h1 i ⟨hi,by omega⟩) (qO (by rw [beq_eq_false_iff_ne];show (fnS i).toList≠(BR w).toList;rw [qAM];exact hn i ⟨Int.le_refl _,by omega⟩) ?_))
   rw [qC,w1])]
  exact qRe w q h1 k (i+1) M (by omega) (by omega) (by omega) (fun j hj=>hn j ⟨by omega,hj.2⟩)
theorem qKs {g:G_spec_l3Rd_row} {n:Nat} {s:List UInt8} (w:List UInt8) (q:PS) (res:Int→Int×PS) (h1:∀i,1≤i∧i≤10→qCb n i=some (fnS i))
  (h2:qAG n ⟨#[40]⟩ (BR s) (pos s q.1) q.2.1 q.2.2.length (q.2.2.map qa)=some ((sIs [40] q).1,qCv s (sIs [40] q).2)):
  ∀(k:Nat) (i:Int) (M:Nat),1≤i→i+k=11→k+1≤M→(∀op,qGS w i k=some op→(sIs [40] q).1=true→g.spec_l3Rd_call op (BR s) (pos s (sIs [40] q).2.1) (sIs [40] q).2.2.1 (sIs [40] q).2.2.2.length ((sIs [40] q).2.2.2.map qa)=some (qCY s (res op)))→
   zD (qDC g n) M (BR w,i,qCv s q)=some (match qGS w i k with
   |some op=>if (sIs [40] q).1=true then .inl (qCY s (res op)) else .inr (BR w,qCv s (sIs [40] q).2)
   |none=> .inr (BR w,qCv s q))
 |k,i,0,_,_,h,_=>by omega
 |0,i,M+1,hi,hk,h,_=>qP (qO (decide_eq_false (show ¬i≤10 by omega)) rfl)
 |k+1,i,M+1,hi,hk,h,hc=>by
  have w1:IntKind.i64.wrap (i+1)=i+1:=qT (by omega)
  unfold qGS at hc⊢
  by_cases hq:(fnS i).toList=w
  ·rw [if_pos hq] at hc⊢
   have hqb:((fnS i).toList==(BR w).toList)=true:=by rw [beq_iff_eq,qAM];exact hq
   simp only
   cases hi2:(sIs [40] q).1 with
   |true=>
    rw [if_pos rfl]
    exact qP (qD (decide_eq_true (show i≤10 by omega)) (qA (h1 i ⟨hi,by omega⟩) (qD hqb (qA h2 (qD hi2 (qA (hc i rfl hi2) rfl))))))
   |false=>
    rw [if_neg (by simp)]
    rw [qU (v':=(BR w,i+1,qCv s (sIs [40] q).2)) (by
     refine qD (decide_eq_true (show i≤10 by omega)) (qA (h1 i ⟨hi,by omega⟩) (qD hqb (qA h2 (qO hi2 ?_))))
     rw [qC,w1])]
    exact qRe w _ h1 k (i+1) M (by omega) (by omega) (by omega) (fun j hj e=>by
     have:=qVP (i:=i) (j:=j) ⟨hi,by omega⟩ ⟨by omega,hj.2⟩ (hq.trans e.symm)
     omega)
  ·rw [if_neg hq] at hc⊢
   rw [qU (v':=(BR w,i+1,qCv s q)) (by
    refine qD (decide_eq_true (show i≤10 by omega)) (qA (h1 i ⟨hi,by omega⟩) (qO (by rw [beq_eq_false_iff_ne];show (fnS i).toList≠(BR w).toList;rw [qAM];exact hq) ?_))
    rw [qC,w1])]
   exact qKs w q res h1 h2 k (i+1) M (by omega) (by omega) (by omega) hc
structure Go (k:Nat) (q q':PS):Prop where
 suf:q'.1<:+q.1
 sum:q'.2.2.length+q'.1.length+k≤q.2.2.length+q.1.length
 sm:(∀x∈q.2.2,qQ9 x)→∀x∈q'.2.2,qQ9 x
theorem Go.refl (q:PS):Go 0 q q:=⟨List.suffix_rfl,Nat.le_refl _,id⟩
theorem Go.trans {a b:Nat} {p q r:PS} (h:Go a p q) (h':Go b q r):Go (a+b) p r:=⟨h'.suf.trans h.suf,by have:=h.sum;have:=h'.sum;omega,fun e=>h'.sm (h.sm e)⟩
theorem Go.tr0 {p q r:PS} (h:Go 0 p q) (h':Go 0 q r):Go 0 p r:=h.trans h'
theorem Go.add {p q:PS} {x:Nd} (h:Go 1 p q) (hx:qQ9 x):Go 0 p (qD9 x q).2:=by
 refine ⟨h.suf,?_,fun e y hy=>?_⟩
 ·have:=h.sum
  simp only [qD9,List.length_append,List.length_singleton]
  omega
 ·simp only [qD9,List.mem_append,List.mem_singleton] at hy
  rcases hy with hy|rfl
  ·exact h.sm e y hy
  ·exact hx
theorem Go.weak {k:Nat} {p q:PS} (h:Go k p q):Go 0 p q:=⟨h.suf,by have:=h.sum;omega,h.sm⟩
theorem Go.of (q:PS) {r:List UInt8} (b:Bool) {k:Nat} (h:r<:+q.1) (hk:r.length+k≤q.1.length):Go k q (r,b,q.2.2):=⟨h,by simp only;omega,id⟩
theorem qNC (q:PS):Go 0 q (tb q.1,q.2):=⟨List.dropWhile_suffix _,by have:=qAA q.1;simp only;omega,id⟩
theorem qRf (q:PS):Go 0 q (wr (tb q.1),q.2):=⟨(List.dropWhile_suffix _).trans (List.dropWhile_suffix _),by have:=qAA q.1;have:=qG8 (tb q.1);simp only;omega,id⟩
theorem qUP (q:PS) (h:wd (tb q.1)≠ []):Go 1 q (wr (tb q.1),q.2):=⟨(List.dropWhile_suffix _).trans (List.dropWhile_suffix _),by
 have:=qAA q.1
 have e:=congrArg List.length (wdr (tb q.1))
 have:=List.length_pos_iff.2 h
 simp only [List.length_append] at e
 simp only;omega,id⟩
theorem qLf {w:List UInt8} {q:PS} (h:(sIs w q).1=true):w<+:tb q.1∧(sIs w q).2=((tb q.1).drop w.length,q.2)∧q.2.1=false:=by
 unfold sIs at h⊢
 split at h
 ·cases h
 ·rename_i hb
  rw [if_neg hb]
  split at h
  ·rename_i hp
   rw [if_pos hp]
   exact ⟨List.isPrefixOf_iff_prefix.1 hp,rfl,by rw [Bool.eq_false_iff];exact hb⟩
  ·cases h
theorem qRg {w:List UInt8} {q:PS} (h:(sIs w q).1=false):(sIs w q).2=(tb q.1,q.2):=by
 unfold sIs at h⊢
 split at h
 ·rename_i hb;rw [if_pos hb]
 ·rename_i hb
  rw [if_neg hb]
  split at h
  ·cases h
  ·rename_i hp;rw [if_neg hp]
theorem qKh (w:List UInt8) (q:PS):Go 0 q (sIs w q).2:=by
 cases h:(sIs w q).1 with
 |true=>
  obtain ⟨_,h2,_⟩:=qLf h
  rw [h2]
  exact Go.tr0 (qNC q) ⟨List.drop_suffix _ _,by simp,id⟩
 |false=>rw [qRg h];exact qNC q
theorem qE8 {w:List UInt8} (hw:w≠ []) {q:PS} (h:(sIs w q).1=true):Go 1 q (sIs w q).2:=by
 obtain ⟨h1,h2,_⟩:=qLf h
 rw [h2]
 have l1:=h1.length_le
 have l2:=List.length_pos_iff.2 hw
 have:=qAA q.1
 exact ⟨(List.drop_suffix _ _).trans (List.dropWhile_suffix _),by simp;omega,id⟩
theorem qQU {k:Nat} {p q:PS} (h:Go k p q):Go k p (qMJ q):=⟨h.suf,h.sum,h.sm⟩
theorem qUQ:∀(t r:List UInt8),(tb r).length≤(tb (t++r)).length
 | [],r=>Nat.le_refl _
 |c::t,r=>by
  have ih:=qUQ t r
  have:=qAA (t++r)
  by_cases hc:c=32
  ·rw [show tb (c::t++r)=tb (t++r) by simp [tb,hc]];exact ih
  ·rw [show tb (c::t++r)=c::(t++r) by simp [tb,hc]]
   simp only [List.length_cons];omega
theorem Go.tb {k:Nat} {p q:PS} (h:Go k p q):(tb q.1).length≤(tb p.1).length:=by
 obtain ⟨t,ht⟩:=h.suf
 rw [←ht];exact qUQ t q.1
theorem qTh {w:List UInt8} (hw:w≠ []) {q:PS} (h:(sIs w q).1=true):(tb (sIs w q).2.1).length<(tb q.1).length:=by
 obtain ⟨h1,h2,_⟩:=qLf h
 rw [h2]
 exact qSG hw h1
theorem qTi (level:Int) (r:List UInt8):∀l:List Int,qDu level r l≠0→qDu level r l∈l∧(qAP (qDu level r l)).toList<+:r
 | [],h=>absurd rfl h
 |o::l,h=>by
  unfold qDu at h⊢
  split at h
  ·rename_i hc
   rw [if_pos hc]
   exact ⟨List.mem_cons_self ..,List.isPrefixOf_iff_prefix.1 hc.2⟩
  ·rename_i hc
   rw [if_neg hc]
   have:=qTi level r l h
   exact ⟨List.mem_cons_of_mem _ this.1,this.2⟩
theorem qVA (level:Int) (q:PS):Go 0 q (sOp level q).2∧((sOp level q).1≠0→Go 1 q (sOp level q).2∧(tb (sOp level q).2.1).length<(tb q.1).length):=by
 unfold sOp
 split
 ·exact ⟨qNC q,fun h=>absurd rfl h⟩
 ·simp only
  by_cases h:qDu level (tb q.1) qCF=0
  ·rw [if_pos h]
   exact ⟨qNC q,fun e=>absurd h e⟩
  ·rw [if_neg h]
   obtain ⟨h1,h2⟩:=qTi level (tb q.1) qCF h
   have ne:=(qSI _ h1).1
   have l1:=h2.length_le
   have l2:=List.length_pos_iff.2 ne
   rw [qAT] at l1 l2
   have l3:=qAA q.1
   have g:Go 1 q ((tb q.1).drop (qAP (qDu level (tb q.1) qCF)).size,q.2):=⟨(List.drop_suffix _ _).trans (List.dropWhile_suffix _),by simp;omega,id⟩
   have t:=qSG ne h2
   rw [qAT] at t
   exact ⟨g.weak,fun _=>⟨g,t⟩⟩
theorem qON:∀(k:Nat) (acc r:List UInt8) {w t:List UInt8},r.length≤k→qCC acc r=some (w,t)→t<:+r
 |k,acc,[],w,t,hk,h=>by simp [qCC] at h
 |0,acc,c::r,w,t,hk,h=>by simp at hk
 |k+1,acc,c::r,w,t,hk,h=>by
  simp only [List.length_cons] at hk
  by_cases hc:c=34
  ·subst hc
   by_cases hq:r.head?=some 34
   ·obtain ⟨u,rfl⟩:=qKq hq
    rw [qVF] at h
    simp only [List.length_cons] at hk
    have:=qON k _ u (by omega) h
    exact this.trans ((List.suffix_cons 34 u).trans (List.suffix_cons 34 _))
   ·rw [qVG acc r hq] at h
    cases h
    exact List.suffix_cons 34 _
  ·rw [qVH acc r hc] at h
   exact (qON k _ r (by omega) h).trans (List.suffix_cons c _)
def Ks:SJ→PS→Prop
 | .call _ kids,q=>q.2.1=true∨kids.length+q.1.length≤1500
 |_,_=>True
theorem qI9 {k op:Int} {kids:List Int} (h:kids.length≤2000):qQ9 (ndK k op kids):=⟨h,by simp [ndK,em];decide⟩
theorem qBx {k:Nat} {p q:PS} (h:Go k p q):q.1.length≤p.1.length:=h.suf.length_le
theorem qFC (H:RdOK):∀(f:Nat) (j:SJ) (q:PS),q.1.length≤1000→Ks j q→Go 0 q (sP f j q).2
 |0,j,q,_,_=>Go.refl q
 |f+1,.row level,q,hr,_=>by
  unfold sP
  split
  ·exact Go.refl q
  ·split
   ·exact qFC H f .one q hr trivial
   ·have a:=qFC H f (.row (level+1)) q hr trivial
    exact a.tr0 (qFC H f (.rl level _) _ (Nat.le_trans (qBx a) hr) trivial)
 |f+1,.rl level a,q,hr,_=>by
  unfold sP
  split
  ·exact Go.refl q
  ·simp only
   have o:=qVA level q
   split
   ·exact o.1
   ·rename_i h0
    have o1:=(o.2 h0).1
    have b:=qFC H f (.row (level+1)) (sOp level q).2 (Nat.le_trans (qBx o1) hr) trivial
    have c:=Go.add (x:=ndK 5 (sOp level q).1 [a,(sP f (.row (level+1)) (sOp level q).2).1]) (o1.trans b) (qI9 (by simp))
    exact c.tr0 (qFC H f (.rl level _) _ (Nat.le_trans (qBx c) hr) trivial)
 |f+1,.one,q,hr,_=>by
  unfold sP
  split
  ·rename_i h
   have a:=qE8 (by simp) h
   have b:=qFC H f (.row 5) (sIs [45] q).2 (Nat.le_trans (qBx a) hr) trivial
   exact Go.add (a.trans b) (qI9 (by simp))
  ·have a:=qKh [45] q
   split
   ·rename_i h
    have c:=a.tr0 (qE8 (by simp) h).weak
    have b:=qFC H f (.row 1) (sIs [40] (sIs [45] q).2).2 (Nat.le_trans (qBx c) hr) trivial
    have d:=(c.tr0 b).tr0 (qKh [41] _)
    simp only
    split
    ·exact d
    ·exact qQU d
   ·simp only
    have t:=qNC q
    split
    ·rename_i h
     have c:=qE8 (by simp) h
     obtain ⟨_,e,_⟩:=qLf h
     split
     ·exact ⟨List.nil_suffix,by simp,id⟩
     ·rename_i w u hq
      have d:=qON _ _ _ (Nat.le_refl _) hq
      have d2:=d.length_le
      have dz:=qHA _ _ _ (Nat.le_refl _) hq
      have g:=t.trans c
      have l:=qBx g
      have sg:=g.sum
      have eq:(sIs [34] (tb q.1,q.2)).2.2=q.2:=by rw [e]
      rw [eq] at sg
      simp only [List.length_nil] at dz
      exact Go.add (q:=(u,q.2)) ⟨d.trans g.suf,by simp only;omega,id⟩ ⟨by simp [kd,nd1],by simp only [nd1,qb];omega⟩
    ·split
     ·rename_i h
      have c:=qE8 (by simp) h
      obtain ⟨_,e,_⟩:=qLf h
      have g:=t.trans c
      have l:=qBx g
      have sg:=g.sum
      have eq:(sIs [35] (tb q.1,q.2)).2.2=q.2:=by rw [e]
      rw [eq] at sg
      split
      ·exact Go.add (q:=(_,q.2)) ⟨(List.drop_suffix _ _).trans g.suf,by simp;omega,id⟩ ⟨by simp [kd,nd1],by simp [nd1,em];decide⟩
      ·exact ⟨g.suf,by simp only;omega,id⟩
     ·have w:=qRf q
      split
      ·split
       ·have c:=w.tr0 (qKh [40] _)
        exact c.tr0 (qFC H f (.call _ []) _ (Nat.le_trans (qBx c) hr) (.inr (by have:=qBx c;simp only [List.length_nil];omega)))
       ·exact qQU (w.tr0 (qKh [40] _))
      ·split
       ·rename_i hv
        exact Go.add (qUP q hv.2) ⟨by simp [kd,nd1],qKf hv.1 (H.v _ (qTD _) hv.2 hv.1)⟩
       ·split
        ·rename_i hp
         exact Go.add (qUP q (fun e=>by rw [e,H.p0] at hp;cases hp)) ⟨by simp [kd,ndC],by simp [ndC,em];decide⟩
        ·exact qQU w
 |f+1,.call op kids,q,hr,hk=>by
  unfold sP
  split
  ·exact Go.refl q
  ·rename_i hb
   have hk:kids.length+q.1.length≤1500:=hk.elim (fun h=>absurd h hb) id
   have a:=qFC H f .arg q hr trivial
   simp only
   split
   ·rename_i h
    exact Go.add (a.trans (qE8 (by simp) h)) (qI9 (by simp;omega))
   ·have c:=a.tr0 (qKh [41] _)
    split
    ·rename_i h
     have d:=c.trans (qE8 (by simp) h)
     obtain ⟨e1,e2,_⟩:=qLf h
     have l:=e1.length_le
     have l2:=qBx c
     have l3:=qAA (sIs [41] (sP f .arg q).2).2.1
     simp only [List.length_cons,List.length_nil] at l
     exact d.weak.tr0 (qFC H f (.call op _) _ (Nat.le_trans (qBx d) hr) (.inr (by rw [e2];simp;omega)))
    ·have d:=qQU (c.tr0 (qKh [44] _))
     exact d.tr0 (qFC H f (.call op _) _ (Nat.le_trans (qBx d) hr) (.inl rfl))
 |f+1,.arg,q,hr,_=>by
  unfold sP
  simp only
  have w:=qRf q
  split
  ·rename_i h
   have c:=w.trans (qE8 (by simp) h.2)
   have d:=c.trans (qRf _)
   split
   ·exact Go.add d ⟨by simp [kd,ndA],by simp [ndA,em];decide⟩
   ·exact ⟨d.suf,by have:=d.sum;simp only at this⊢;omega,d.sm⟩
  ·have t:=qNC q
   exact t.tr0 (qFC H f (.row 1) _ (Nat.le_trans (qBx t) hr) trivial)
def As (f:Nat):SJ→PS→Prop
 | .row level,q=>((20*(tb q.1).length+10:Nat):Int)-level≤f∧1≤level∧level≤5
 | .rl level _,q=>20*(tb q.1).length+5≤f∧1≤level∧level≤4
 | .one,q=>20*(tb q.1).length+4≤f∧q.2.1=false
 | .call _ _,q=>(q.2.1=true∧1≤f)∨20*(tb q.1).length+12≤f
 | .arg,q=>20*(tb q.1).length+10≤f
def Iv (s:List UInt8) (q:PS):Prop:=q.1<:+s∧q.2.2.length+q.1.length≤2000
theorem Iv.go {s:List UInt8} {k:Nat} {q q':PS} (h:Iv s q) (g:Go k q q'):Iv s q':=⟨g.suf.trans h.1,by have:=g.sum;have:=h.2;omega⟩
def Ws (s:List UInt8):SJ→PS→Int×PS→Prop
 | .row level,q,r=>Ev (qEF · level (BR s) (pos s q.1) q.2.1 q.2.2.length (q.2.2.map qa)) (qCY s r)
 | .rl level a,q,r=>∃x,(x= .inl (qCY s r)∨x= .inr (qCY s r))∧∃n0,∀n,n0≤n→∀M,n0≤M→zD (qEN (qc n) n) M (level,a,qCv s q)=some x
 | .one,q,r=>Ev (qJM · (BR s) (pos s q.1) q.2.1 q.2.2.length (q.2.2.map qa)) (qCY s r)
 | .call op kids,q,r=>∃x,(x= .inl (qCY s r)∨(x= .inr (qCv s r.2)∧r.1=0))∧∃n0,∀n,n0≤n→∀M,n0≤M→zD (qDy (qc n) n) M (op,kids.length,kids.map q9,qCv s q)=some x
 | .arg,q,r=>Ev (qJN · (BR s) (pos s q.1) q.2.1 q.2.2.length (q.2.2.map qa)) (qCY s r)
theorem srp (r:List UInt8) (h:r.length≤1000):Ev (qAn · (BR (wd r))) (qA2 (BR (wd r))):=qM0 _ (by rw [qb];have:=qSF r;omega)
theorem srv (r:List UInt8) (h:r.length≤1000):Ev (qAI · (BR (wd r))) (qh (BR (wd r))):=qHZ _ (by rw [qb];have:=qSF r;omega)
theorem qVj {r:List UInt8} (h:wd r≠ []):(tb (wr r)).length<r.length:=by
 have e:=congrArg List.length (wdr r)
 have:=List.length_pos_iff.2 h
 have:=qAA (wr r)
 simp only [List.length_append] at e
 omega
def qSJ (n:Nat) (w:ByteArray) (c:ByteArray×Int×Bool×Nat×List (List PV)):Tr (Int×ByteArray×Int×Bool×Nat×List (List PV)):=
 (.opt (qAn n w) fun r=>(.ask (!r.2.2.2.2) (.done (0,c.1,c.2.1,true,c.2.2.2.1,c.2.2.2.2))
  (.opt (qr n 2 0 0 0 ⟨#[]⟩ r.1 r.2.1 r.2.2.1 r.2.2.2.1 0 0 false false [] c.1 c.2.1 c.2.2.1 c.2.2.2.1 c.2.2.2.2) fun t=> .done (t.1,t.2.1,t.2.2.1,t.2.2.2.1,t.2.2.2.2.1,t.2.2.2.2.2))))
def qVQ (n:Nat) (w:ByteArray) (c:ByteArray×Int×Bool×Nat×List (List PV)):Tr (Int×ByteArray×Int×Bool×Nat×List (List PV)):=
 (.opt (qAI n w) fun r=>(.ask r.2.2.2
  (.ask (!(w.toList==(⟨#[]⟩:ByteArray).toList))
   (.opt (qr n 1 0 r.1 r.2.1 r.2.2.1 0 0 false false 0 0 false false [] c.1 c.2.1 c.2.2.1 c.2.2.2.1 c.2.2.2.2) fun t=> .done (t.1,t.2.1,t.2.2.1,t.2.2.2.1,t.2.2.2.2.1,t.2.2.2.2.2))
   (qSJ n w c))
  (qSJ n w c)))
def qQV (w:List UInt8) (q3:PS):Int×PS:=
 if (qh (BR w)).2.2.2=true∧w≠ [] then qD9 (nd1 ((qh (BR w)).1,(qh (BR w)).2.1,(qh (BR w)).2.2.1)) q3
 else if (qA2 (BR w)).2.2.2.2=true then qD9 (ndC (qA2 (BR w))) q3
 else (0,qMJ q3)
theorem qRh (H:RdOK) {s:List UInt8} (r:List UInt8) (q:PS) (hr:r.length≤1000) (hn:q.2.2.length≤5000):∃n0,∀n,n0≤n→(qVQ n (BR (wd r)) (qCv s q)).run=some (qCY s (qQV (wd r) q)):=by
 obtain ⟨n1,h1⟩:=srv r hr
 obtain ⟨n2,h2⟩:=srp r hr
 obtain ⟨n4,h4⟩:=qKg (s:=s) (ndC (qA2 (BR (wd r)))) q hn ⟨by simp [kd,ndC],by simp [ndC,em];decide⟩
 have place:∃n0,∀n,n0≤n→(qSJ n (BR (wd r)) (qCv s q)).run=some (qCY s (if (qA2 (BR (wd r))).2.2.2.2=true then qD9 (ndC (qA2 (BR (wd r)))) q else (0,qMJ q))):=by
  refine ⟨n2+n4,fun n hn=>?_⟩
  cases hp:(qA2 (BR (wd r))).2.2.2.2 with
  |true=>rw [if_pos rfl];exact qA (h2 n (by omega)) (qO (qAr hp) (qA (h4 n (by omega)) rfl))
  |false=>rw [if_neg (by simp)];exact qA (h2 n (by omega)) (qD (qCo hp) rfl)
 obtain ⟨n5,h5⟩:=place
 by_cases hv:(qh (BR (wd r))).2.2.2=true∧wd r≠ []
 ·obtain ⟨n3,h3⟩:=qKg (s:=s) (nd1 ((qh (BR (wd r))).1,(qh (BR (wd r))).2.1,(qh (BR (wd r))).2.2.1)) q hn ⟨by simp [kd,nd1],qKf hv.1 (H.v _ (qTD _) hv.2 hv.1)⟩
  refine ⟨n1+n3,fun n hn=>?_⟩
  unfold qQV
  rw [if_pos hv]
  exact qA (h1 n (by omega)) (qD hv.1 (qD (qCo (by rw [beq_eq_false_iff_ne,qAM,qAE];exact hv.2)) (qA (h3 n (by omega)) rfl)))
 ·refine ⟨n1+n5,fun n hn=>?_⟩
  unfold qQV
  rw [if_neg hv]
  refine qA (h1 n (by omega)) ?_
  by_cases ho:(qh (BR (wd r))).2.2.2=true
  ·have e:wd r= []:=Classical.byContradiction fun e=>hv ⟨ho,e⟩
   exact qD ho (qO (qAr (by rw [beq_iff_eq,qAM,qAE];exact e)) (h5 n (by omega)))
  ·exact qO (by rw [Bool.eq_false_iff];exact ho) (h5 n (by omega))
theorem qFQ (H:RdOK) {s:List UInt8} (hs:s.length≤1000):∀(f:Nat) (j:SJ) (q:PS),As f j q→Iv s q→Ks j q→Ws s j q (sP f j q)
 |0,j,q,ha,_,_=>by cases j<;>simp [As] at ha<;>omega
 |f+1,.row level,q,ha,hi,_=>by
  obtain ⟨ha,hl1,hl5⟩:=ha
  have hr:q.1.length≤1000:=Nat.le_trans (qDI hi.1) hs
  unfold sP
  by_cases hb:q.2.1=true
  ·rw [if_pos hb]
   refine ⟨1,fun n hn=>?_⟩
   obtain ⟨k,rfl,hm⟩:=up1 hn
   exact qD hb rfl
  ·have hb:q.2.1=false:=by rw [Bool.eq_false_iff];exact hb
   rw [if_neg (by rw [hb];simp)]
   by_cases h5:level=5
   ·rw [if_pos h5]
    obtain ⟨n1,h1⟩:=qFQ H hs f .one q ⟨by omega,hb⟩ hi trivial
    refine ⟨n1+1,fun n hn=>?_⟩
    obtain ⟨k,rfl,hm⟩:=up1 hn
    exact qO hb (qD (beq_iff_eq.2 h5) (qA (h1 k (by omega)) rfl))
   ·rw [if_neg h5]
    have g:=qFC H f (.row (level+1)) q hr trivial
    have gl:=g.tb
    obtain ⟨n1,h1⟩:=qFQ H hs f (.row (level+1)) q ⟨by omega,by omega,by omega⟩ hi trivial
    generalize sP f (.row (level+1)) q=Q at g gl h1⊢
    obtain ⟨x,hx,n2,h2⟩:=qFQ H hs f (.rl level Q.1) Q.2 ⟨by omega,by omega,by omega⟩ (hi.go g) trivial
    refine ⟨n1+n2+1,fun n hn=>?_⟩
    obtain ⟨k,rfl,hm⟩:=up1 hn
    have w1:IntKind.i64.wrap (level+1)=level+1:=qT (by omega)
    have h1:=h1 k (by omega)
    rw [←w1] at h1
    have h2:=h2 k (by omega) k (by omega)
    rcases hx with rfl|rfl
    ·exact qO hb (qO (beq_eq_false_iff_ne.2 h5) (qA h1 (qA h2 rfl)))
    ·exact qO hb (qO (beq_eq_false_iff_ne.2 h5) (qA h1 (qA h2 rfl)))
 |f+1,.rl level a,q,ha,hi,_=>by
  obtain ⟨ha,hl1,hl4⟩:=ha
  have hr:q.1.length≤1000:=Nat.le_trans (qDI hi.1) hs
  unfold sP
  by_cases hb:q.2.1=true
  ·rw [if_pos hb]
   refine ⟨.inr (qCY s (a,q)),.inr rfl,1,fun n hn M hM=>?_⟩
   obtain ⟨M,rfl,hM⟩:=up1 hM
   exact qP (qO (qAr hb) rfl)
  ·have hb:q.2.1=false:=by rw [Bool.eq_false_iff];exact hb
   rw [if_neg (by rw [hb];simp)]
   simp only
   obtain ⟨n1,h1⟩:=qVO hs (level:=level) ⟨hl1,hl4⟩ q hb hi.1
   have o:=qVA level q
   generalize sOp level q=O at h1 o⊢
   by_cases h0:O.1=0
   ·rw [if_pos h0]
    refine ⟨.inl (qCY s (a,O.2)),.inl rfl,n1+1,fun n hn M hM=>?_⟩
    obtain ⟨M,rfl,hM⟩:=up1 hM
    exact qP (qD (qCo hb) (qA (h1 n (by omega)) (qD (beq_iff_eq.2 h0) rfl)))
   ·rw [if_neg h0]
    obtain ⟨o1,o2⟩:=o.2 h0
    have b:=qFC H f (.row (level+1)) O.2 (Nat.le_trans (qBx o1) hr) trivial
    obtain ⟨n2,h2⟩:=qFQ H hs f (.row (level+1)) O.2 ⟨by omega,by omega,by omega⟩ (hi.go o1) trivial
    have ib:=(hi.go o1).go b
    have tbb:=b.tb
    have c:=Go.add (x:=ndK 5 O.1 [a,(sP f (.row (level+1)) O.2).1]) (o1.trans b) (qI9 (by simp))
    generalize sP f (.row (level+1)) O.2=Q at h2 b ib tbb c⊢
    obtain ⟨n3,h3⟩:=qKg (s:=s) (ndK 5 O.1 [a,Q.1]) Q.2 (by have:=ib.2;omega) (qI9 (by simp))
    have rest:(qD9 (ndK 5 O.1 [a,Q.1]) Q.2).2.1=Q.2.1:=rfl
    generalize qD9 (ndK 5 O.1 [a,Q.1]) Q.2=C at h3 c rest⊢
    obtain ⟨x,hx,n4,h4⟩:=qFQ H hs f (.rl level C.1) C.2 ⟨by rw [rest];omega,hl1,hl4⟩ (hi.go c) trivial
    refine ⟨x,hx,n1+n2+n3+n4+1,fun n hn M hM=>?_⟩
    obtain ⟨M,rfl,hM⟩:=up1 hM
    have w1:IntKind.i64.wrap (level+1)=level+1:=qT (by omega)
    have h2:=h2 n (by omega)
    rw [←w1] at h2
    rw [qU (v':=(level,C.1,qCv s C.2)) (by
     exact qD (qCo hb) (qA (h1 n (by omega)) (qO (beq_eq_false_iff_ne.2 h0) (qA h2 (qD rfl (qA (h3 n (by omega)) rfl))))))]
    exact h4 n (by omega) M (by omega)
 |f+1,.one,q,ha,hi,_=>by
  obtain ⟨ha,hb⟩:=ha
  have hr:q.1.length≤1000:=Nat.le_trans (qDI hi.1) hs
  unfold sP
  obtain ⟨n1,h1⟩:=qHB hs [45] (by simp) q hi.1
  cases c1:(sIs [45] q).1 with
  |true=>
   rw [if_pos rfl]
   have a:=qE8 (by simp) c1
   have al:=qTh (by simp) c1
   have b:=qFC H f (.row 5) (sIs [45] q).2 (Nat.le_trans (qBx a) hr) trivial
   obtain ⟨n2,h2⟩:=qFQ H hs f (.row 5) (sIs [45] q).2 ⟨by omega,by omega,by omega⟩ (hi.go a) trivial
   have ib:=(hi.go a).go b
   simp only
   generalize sP f (.row 5) (sIs [45] q).2=Q at h2 ib⊢
   obtain ⟨n3,h3⟩:=qKg (s:=s) (ndK 4 0 [Q.1]) Q.2 (by have:=ib.2;omega) (qI9 (by simp))
   refine ⟨n1+n2+n3+1,fun n hn=>?_⟩
   obtain ⟨k,rfl,hm⟩:=up1 hn
   exact qA (h1 k (by omega)) (qD c1 (qA (h2 k (by omega)) (qD rfl (qA (h3 k (by omega)) rfl))))
  |false=>
   rw [if_neg (by simp)]
   have a:=qKh [45] q
   obtain ⟨n2,h2⟩:=qHB hs [40] (by simp) (sIs [45] q).2 (hi.go a).1
   cases c2:(sIs [40] (sIs [45] q).2).1 with
   |true=>
    rw [if_pos rfl]
    have b:=qE8 (by simp) c2
    have al:=qTh (by simp) c2
    have atb:=a.tb
    have g1:=a.trans b
    have b2:=qFC H f (.row 1) (sIs [40] (sIs [45] q).2).2 (Nat.le_trans (qBx g1) hr) trivial
    obtain ⟨n3,h3⟩:=qFQ H hs f (.row 1) (sIs [40] (sIs [45] q).2).2 ⟨by omega,by omega,by omega⟩ (hi.go g1) trivial
    have ib:=(hi.go g1).go b2
    simp only
    generalize sP f (.row 1) (sIs [40] (sIs [45] q).2).2=Q at h3 ib⊢
    obtain ⟨n4,h4⟩:=qHB hs [41] (by simp) Q.2 ib.1
    refine ⟨n1+n2+n3+n4+1,fun n hn=>?_⟩
    obtain ⟨k,rfl,hm⟩:=up1 hn
    refine qA (h1 k (by omega)) (qO c1 (qA (h2 k (by omega)) (qD c2 (qA (h3 k (by omega)) (qA (h4 k (by omega)) ?_)))))
    cases c3:(sIs [41] Q.2).1 with
    |true=>rw [if_pos rfl];exact qO rfl rfl
    |false=>rw [if_neg (by simp)];exact qD rfl rfl
   |false=>
    rw [if_neg (by simp)]
    have e2:(sIs [40] (sIs [45] q).2).2=(tb q.1,q.2):=by
     rw [qRg c2,qRg c1];simp only [qCX]
    rw [e2] at h2
    have t:=qNC q
    have it:=hi.go t
    obtain ⟨n3,h3⟩:=qHB hs [34] (by simp) (tb q.1,q.2) it.1
    simp only
    cases c3:(sIs [34] (tb q.1,q.2)).1 with
    |true=>
     rw [if_pos rfl]
     have b:=qE8 (by simp) c3
     have ib:=it.go b
     have eq2:(sIs [34] (tb q.1,q.2)).2.2=q.2:=by obtain ⟨_,e,_⟩:=qLf c3;rw [e]
     obtain ⟨n4,h4⟩:=qUN hs (sIs [34] (tb q.1,q.2)).2 ib.1 (by have:=ib.2;omega)
     refine ⟨n1+n2+n3+n4+1,fun n hn=>?_⟩
     obtain ⟨k,rfl,hm⟩:=up1 hn
     refine qA (h1 k (by omega)) (qO c1 (qA (h2 k (by omega)) (qO c2 (qA (h3 k (by omega)) (qD c3 (qA (h4 k (by omega)) ?_))))))
     rw [qC,eq2]
     all_goals (cases qCC [] (sIs [34] (tb q.1,q.2)).2.1<;>rfl)
    |false=>
     rw [if_neg (by simp)]
     have e3:(sIs [34] (tb q.1,q.2)).2=(tb q.1,q.2):=by rw [qRg c3];simp only [qCX]
     rw [e3] at h3
     obtain ⟨n4,h4⟩:=qHB hs [35] (by simp) (tb q.1,q.2) it.1
     cases c4:(sIs [35] (tb q.1,q.2)).1 with
     |true=>
      rw [if_pos rfl]
      have b:=qE8 (by simp) c4
      have ib:=it.go b
      have eq2:(sIs [35] (tb q.1,q.2)).2.2=q.2:=by obtain ⟨_,e,_⟩:=qLf c4;rw [e]
      obtain ⟨n5,h5⟩:=qUy hs (sIs [35] (tb q.1,q.2)).2.1 ib.1 q.2.1 q.2.2 (by have:=hi.2;omega)
      have h4:=fun k hk=>h4 k hk
      refine ⟨n1+n2+n3+n4+n5+1,fun n hn=>?_⟩
      obtain ⟨k,rfl,hm⟩:=up1 hn
      have h4:=h4 k (by omega)
      have h5:=h5 k (by omega) k (by omega)
      have e4:qCv s (sIs [35] (tb q.1,q.2)).2=(BR s,pos s (sIs [35] (tb q.1,q.2)).2.1,q.2.1,q.2.2.length,q.2.2.map qa):=by unfold qCv;rw [eq2]
      rw [e4] at h4
      refine qA (h1 k (by omega)) (qO c1 (qA (h2 k (by omega)) (qO c2 (qA (h3 k (by omega)) (qO c3 (qA h4 (qD c4 (qA h5 ?_))))))))
      cases qSj (sIs [35] (tb q.1,q.2)).2.1 1 5<;>rfl
     |false=>
      rw [if_neg (by simp)]
      have e4:(sIs [35] (tb q.1,q.2)).2=(tb q.1,q.2):=by rw [qRg c4];simp only [qCX]
      rw [e4] at h4
      obtain ⟨n5,h5⟩:=qQS hs (tb q.1,q.2) it.1
      have w:=qRf q
      have iw:=hi.go w
      have htl:=qAA q.1
      obtain ⟨n6,h6⟩:=qHB hs [40] (by simp) (wr (tb q.1),q.2) iw.1
      obtain ⟨n7,h7⟩:=qUz
      obtain ⟨n9,h9⟩:=qRh H (s:=s) (tb q.1) (wr (tb q.1),q.2) (by omega) (by have:=hi.2;simp only;omega)
      have gi:=qKh [40] (wr (tb q.1),q.2)
      cases hf:qGS (wd (tb q.1)) 1 10 with
      |none=>
       simp only
       refine ⟨n1+n2+n3+n4+n5+n6+n7+n9+12+1,fun n hn=>?_⟩
       obtain ⟨k,rfl,hm⟩:=up1 hn
       have lp:=qKs (g:=qc k) (s:=s) (wd (tb q.1)) (wr (tb q.1),q.2) (fun _=>(0,q)) (h7 k (by omega)) (h6 k (by omega)) 10 1 k (by omega) (by omega) (by omega) (fun op h=>by rw [hf] at h;cases h)
       rw [hf] at lp
       exact qA (h1 k (by omega)) (qO c1 (qA (h2 k (by omega)) (qO c2 (qA (h3 k (by omega)) (qO c3 (qA (h4 k (by omega)) (qO c4 (qA (h5 k (by omega)) (qA lp (h9 k (by omega)))))))))))
      |some op=>
       have wne:wd (tb q.1)≠ []:=fun e=>by rw [e,H.f0] at hf;cases hf
       have wlt:=qVj wne
       simp only
       cases c5:(sIs [40] (wr (tb q.1),q.2)).1 with
       |true=>
        rw [if_pos rfl]
        have il:=qTh (by simp) c5
        simp only at il
        obtain ⟨x,hx,n8,h8⟩:=qFQ H hs f (.call op []) (sIs [40] (wr (tb q.1),q.2)).2 (.inr (by omega)) (iw.go gi) (.inr (by have:=qBx (w.tr0 gi);simp only [List.length_nil];omega))
        have hcall:Ev (qIF · op (BR s) (pos s (sIs [40] (wr (tb q.1),q.2)).2.1) (sIs [40] (wr (tb q.1),q.2)).2.2.1 (sIs [40] (wr (tb q.1),q.2)).2.2.2.length ((sIs [40] (wr (tb q.1),q.2)).2.2.2.map qa)) (qCY s (sP f (.call op []) (sIs [40] (wr (tb q.1),q.2)).2)):=by
         refine ⟨n8+1,fun n hn=>?_⟩
         obtain ⟨k,rfl,hm⟩:=up1 hn
         have h8:=h8 k (by omega) k (by omega)
         rcases hx with rfl|⟨rfl,hz⟩
         ·exact qA h8 rfl
         ·refine qA h8 ?_
          show some ((0:Int),qCv s _)=some (_,qCv s _)
          rw [hz]
        obtain ⟨n10,h10⟩:=hcall
        refine ⟨n1+n2+n3+n4+n5+n6+n7+n10+12+1,fun n hn=>?_⟩
        obtain ⟨k,rfl,hm⟩:=up1 hn
        have lp:=qKs (g:=qc k) (s:=s) (wd (tb q.1)) (wr (tb q.1),q.2) (fun op=>sP f (.call op []) (sIs [40] (wr (tb q.1),q.2)).2) (h7 k (by omega)) (h6 k (by omega)) 10 1 k (by omega) (by omega) (by omega) (fun op' h _=>by rw [hf] at h;cases h;exact h10 k (by omega))
        rw [hf] at lp
        simp only at lp
        rw [if_pos c5] at lp
        exact qA (h1 k (by omega)) (qO c1 (qA (h2 k (by omega)) (qO c2 (qA (h3 k (by omega)) (qO c3 (qA (h4 k (by omega)) (qO c4 (qA (h5 k (by omega)) (qA lp rfl)))))))))
       |false=>
        rw [if_neg (by simp)]
        obtain ⟨v1,v2⟩:=H.f _ _ hf
        obtain ⟨n9,h9⟩:=qRh H (s:=s) (tb q.1) (sIs [40] (wr (tb q.1),q.2)).2 (by omega) (by have:=(iw.go gi).2;omega)
        have er:qQV (wd (tb q.1)) (sIs [40] (wr (tb q.1),q.2)).2=(0,qMJ (sIs [40] (wr (tb q.1),q.2)).2):=by
         unfold qQV
         rw [if_neg (fun h=>by rw [v1] at h;cases h.1),if_neg (by rw [v2];simp)]
        rw [er] at h9
        refine ⟨n1+n2+n3+n4+n5+n6+n7+n9+12+1,fun n hn=>?_⟩
        obtain ⟨k,rfl,hm⟩:=up1 hn
        have lp:=qKs (g:=qc k) (s:=s) (wd (tb q.1)) (wr (tb q.1),q.2) (fun _=>(0,q)) (h7 k (by omega)) (h6 k (by omega)) 10 1 k (by omega) (by omega) (by omega) (fun op' h h'=>by rw [c5] at h';cases h')
        rw [hf] at lp
        simp only at lp
        rw [if_neg (by rw [c5];simp)] at lp
        exact qA (h1 k (by omega)) (qO c1 (qA (h2 k (by omega)) (qO c2 (qA (h3 k (by omega)) (qO c3 (qA (h4 k (by omega)) (qO c4 (qA (h5 k (by omega)) (qA lp (h9 k (by omega)))))))))))
 |f+1,.call op kids,q,ha,hi,hk=>by
  have hr:q.1.length≤1000:=Nat.le_trans (qDI hi.1) hs
  unfold sP
  by_cases hb:q.2.1=true
  ·rw [if_pos hb]
   refine ⟨.inr (qCv s q),.inr ⟨rfl,rfl⟩,1,fun n hn M hM=>?_⟩
   obtain ⟨M,rfl,hM⟩:=up1 hM
   exact qP (qO (qAr hb) rfl)
  ·have hk:kids.length+q.1.length≤1500:=hk.elim (fun h=>absurd h hb) id
   have ha:20*(tb q.1).length+12≤f+1:=ha.elim (fun h=>absurd h.1 hb) id
   have hb:q.2.1=false:=by rw [Bool.eq_false_iff];exact hb
   rw [if_neg (by rw [hb];simp)]
   simp only
   have a:=qFC H f .arg q hr trivial
   obtain ⟨n1,h1⟩:=qFQ H hs f .arg q (by show 20*_+10≤f;omega) hi trivial
   generalize sP f .arg q=A at a h1⊢
   have ia:=hi.go a
   have ta:=a.tb
   have ra:=qBx a
   obtain ⟨n2,h2⟩:=qHB hs [41] (by simp) A.2 ia.1
   have kl:decide (kids.length=(kids.map q9).length∧0<1∧0<8∧(kids.length+([[(PV.i .i64 A.1)]]:List (List PV)).length)*8≤140737488355328∧([[(PV.i .i64 A.1)]]:List (List PV)).all (fun e=>e.length==1)=true)=true:=decide_eq_true ⟨by simp,by decide,by decide,by simp;omega,rfl⟩
   have k1:(kids++ [A.1]).length=kids.length+1:=by simp
   have k2:(kids++ [A.1]).map q9=kids.map q9++ [[PV.i .i64 A.1]]:=by simp [q9]
   cases c1:(sIs [41] A.2).1 with
   |true=>
    rw [if_pos rfl]
    have g:=a.trans (qE8 (by simp) c1)
    obtain ⟨n3,h3⟩:=qKg (s:=s) (ndK 6 op (kids++ [A.1])) (sIs [41] A.2).2 (by have:=(hi.go g).2;omega) (qI9 (by simp;omega))
    refine ⟨.inl (qCY s (qD9 (ndK 6 op (kids++ [A.1])) (sIs [41] A.2).2)),.inl rfl,n1+n2+n3+1,fun n hn M hM=>?_⟩
    obtain ⟨M,rfl,hM⟩:=up1 hM
    have h3:_=some _:=h3 n (by omega)
    simp only [ndK,kd] at h3
    rw [k2] at h3
    exact qP (qD (qCo hb) (qA (h1 n (by omega)) (qD rfl (qD kl (qA (h2 n (by omega)) (qD c1 (qD (decide_eq_true (by simp)) (qA h3 rfl))))))))
   |false=>
    rw [if_neg (by simp)]
    have g:=a.tr0 (qKh [41] A.2)
    have gt:=(qKh [41] A.2).tb
    have i2:=hi.go g
    obtain ⟨n3,h3⟩:=qHB hs [44] (by simp) (sIs [41] A.2).2 i2.1
    cases c2:(sIs [44] (sIs [41] A.2).2).1 with
    |true=>
     rw [if_pos rfl]
     have b:=qE8 (by simp) c2
     have bl:=qTh (by simp) c2
     have bs:=qBx (g.trans b)
     have b1:=b.sum
     have eq3:(sIs [44] (sIs [41] A.2).2).2.2=(sIs [41] A.2).2.2:=by obtain ⟨_,e,_⟩:=qLf c2;rw [e]
     rw [eq3] at b1
     have g0:=qBx g
     obtain ⟨x,hx,n4,h4⟩:=qFQ H hs f (.call op (kids++ [A.1])) (sIs [44] (sIs [41] A.2).2).2 (.inr (by omega)) (i2.go b) (.inr (by rw [k1];omega))
     refine ⟨x,hx,n1+n2+n3+n4+1,fun n hn M hM=>?_⟩
     obtain ⟨M,rfl,hM⟩:=up1 hM
     have h4:=h4 n (by omega) M (by omega)
     rw [k1,k2] at h4
     rw [qU (v':=(op,kids.length+1,kids.map q9++ [[PV.i .i64 A.1]],qCv s (sIs [44] (sIs [41] A.2).2).2)) (by
      exact qD (qCo hb) (qA (h1 n (by omega)) (qD rfl (qD kl (qA (h2 n (by omega)) (qO c1 (qA (h3 n (by omega)) (qO (qAr c2) rfl))))))))]
     exact h4
    |false=>
     rw [if_neg (by simp)]
     have b:=qKh [44] (sIs [41] A.2).2
     obtain ⟨x,hx,n4,h4⟩:=qFQ H hs f (.call op (kids++ [A.1])) (qMJ (sIs [44] (sIs [41] A.2).2).2) (.inl ⟨rfl,by omega⟩) (i2.go (qQU b)) (.inl rfl)
     refine ⟨x,hx,n1+n2+n3+n4+1,fun n hn M hM=>?_⟩
     obtain ⟨M,rfl,hM⟩:=up1 hM
     have h4:=h4 n (by omega) M (by omega)
     rw [k1,k2] at h4
     rw [qU (v':=(op,kids.length+1,kids.map q9++ [[PV.i .i64 A.1]],qCv s (qMJ (sIs [44] (sIs [41] A.2).2).2))) (by
      exact qD (qCo hb) (qA (h1 n (by omega)) (qD rfl (qD kl (qA (h2 n (by omega)) (qO c1 (qA (h3 n (by omega)) (qD (qCo c2) rfl))))))))]
     exact h4
 |f+1,.arg,q,ha,hi,_=>by
  replace ha:20*(tb q.1).length+10≤f+1:=ha
  have hr:q.1.length≤1000:=Nat.le_trans (qDI hi.1) hs
  have htl:=qAA q.1
  unfold sP
  simp only
  have t:=qNC q
  have it:=hi.go t
  have w:=qRf q
  have iw:=hi.go w
  obtain ⟨n1,h1⟩:=qSH hs q hi.1
  obtain ⟨n2,h2⟩:=qQS hs (tb q.1,q.2) it.1
  obtain ⟨n3,h3⟩:=srp (tb q.1) (by omega)
  obtain ⟨n4,h4⟩:=qHB hs [58] (by simp) (wr (tb q.1),q.2) iw.1
  have eq2:(sIs [58] (wr (tb q.1),q.2)).2.2=q.2:=by
   cases c:(sIs [58] (wr (tb q.1),q.2)).1 with
   |true=>obtain ⟨_,e,_⟩:=qLf c;rw [e]
   |false=>rw [qRg c]
  by_cases hc:(qA2 (BR (wd (tb q.1)))).2.2.2.2=true∧(sIs [58] (wr (tb q.1),q.2)).1=true
  ·rw [if_pos hc]
   have g:=w.trans (qE8 (by simp) hc.2)
   have ig:=hi.go g
   have rg:=qBx g
   generalize sIs [58] (wr (tb q.1),q.2)=I at*
   have gt:=qNC I.2
   have gw:=qRf I.2
   have il:=qAA I.2.1
   obtain ⟨n5,h5⟩:=qSH hs I.2 ig.1
   obtain ⟨n6,h6⟩:=qQS hs (tb I.2.1,I.2.2) (ig.go gt).1
   obtain ⟨n7,h7⟩:=srp (tb I.2.1) (by omega)
   cases hp:(qA2 (BR (wd (tb I.2.1)))).2.2.2.2 with
   |true=>
    rw [if_pos rfl]
    obtain ⟨n8,h8⟩:=qKg (s:=s) (ndA (qA2 (BR (wd (tb q.1)))) (qA2 (BR (wd (tb I.2.1))))) (wr (tb I.2.1),I.2.2) (by have:=(ig.go gw).2;simp only at this⊢;omega) ⟨by simp [kd,ndA],by simp [ndA,em];decide⟩
    refine ⟨n1+n2+n3+n4+n5+n6+n7+n8+1,fun n hn=>?_⟩
    obtain ⟨k,rfl,hm⟩:=up1 hn
    exact qA (h1 k (by omega)) (qA (h2 k (by omega)) (qA (h3 k (by omega)) (qD hc.1 (qA (h4 k (by omega)) (qD hc.2 (qA (h5 k (by omega)) (qA (h6 k (by omega)) (qA (h7 k (by omega)) (qO (qAr hp) (qA (h8 k (by omega)) rfl))))))))))
   |false=>
    rw [if_neg (by simp)]
    refine ⟨n1+n2+n3+n4+n5+n6+n7+1,fun n hn=>?_⟩
    obtain ⟨k,rfl,hm⟩:=up1 hn
    exact qA (h1 k (by omega)) (qA (h2 k (by omega)) (qA (h3 k (by omega)) (qD hc.1 (qA (h4 k (by omega)) (qD hc.2 (qA (h5 k (by omega)) (qA (h6 k (by omega)) (qA (h7 k (by omega)) (qD (qCo hp) rfl)))))))))
  ·rw [if_neg hc]
   obtain ⟨n5,h5⟩:=qFQ H hs f (.row 1) (tb q.1,q.2) ⟨by simp only [qCX];omega,by omega,by omega⟩ it trivial
   refine ⟨n1+n2+n3+n4+n5+1,fun n hn=>?_⟩
   obtain ⟨k,rfl,hm⟩:=up1 hn
   cases hp:(qA2 (BR (wd (tb q.1)))).2.2.2.2 with
   |true=>
    have ht:(sIs [58] (wr (tb q.1),q.2)).1=false:=by rw [Bool.eq_false_iff];exact fun e=>hc ⟨hp,e⟩
    have h4:=h4 k (by omega)
    have e4:qCv s (sIs [58] (wr (tb q.1),q.2)).2=(BR s,pos s (sIs [58] (wr (tb q.1),q.2)).2.1,q.2.1,q.2.2.length,q.2.2.map qa):=by unfold qCv;rw [eq2]
    rw [e4] at h4
    exact qA (h1 k (by omega)) (qA (h2 k (by omega)) (qA (h3 k (by omega)) (qD hp (qA h4 (qO ht (qA (h5 k (by omega)) rfl))))))
   |false=>exact qA (h1 k (by omega)) (qA (h2 k (by omega)) (qA (h3 k (by omega)) (qO hp (qA (h5 k (by omega)) rfl))))
theorem qTz {w:List UInt8} (h:w.all wch=true) (hn:w≠ []):(qBJ (BR w)).1=1∨(qBJ (BR w)).1=3:=by
 cases w with
 |nil=>exact absurd rfl hn
 |cons c t=>
  simp only [List.all_cons,Bool.and_eq_true] at h
  have h39:¬(c::t).head?=some 39:=by
   intro e;simp at e;rw [e] at h;exact absurd h.1 (by decide)
  have h35:¬(c::t).head?=some 35:=by
   intro e;simp at e;rw [e] at h;exact absurd h.1 (by decide)
  unfold qBJ
  rw [qAM,if_neg h39]
  split
  ·exact .inr rfl
  ·split
   ·exact .inr rfl
   ·exact .inl rfl
theorem qVR:RdOK where
 v:=fun w h hn ho=>by
  have c:=qTz h hn
  unfold qh at ho⊢
  split at ho
  ·rename_i hc;rw [if_pos hc];exact c
  ·cases ho
 v0:=by
  have:(qh (BR [])).1=0:=by
   have:(qh ⟨#[]⟩).1=0:=by decide+kernel
   exact this
  rw [this];decide
 p0:=by
  have:(qA2 ⟨#[]⟩).2.2.2.2=false:=by decide+kernel
  exact this
 f:=fun w op h=>by
  have t:∀a:Fin 10,(qh (fnS (((a.val:Nat):Int)+1))).2.2.2=false∧(qA2 (fnS (((a.val:Nat):Int)+1))).2.2.2.2=false:=by decide+kernel
  have e:∀(k:Nat) (i:Int),1≤i→i+k≤11→qGS w i k=some op→∃j:Int,1≤j∧j≤10∧(fnS j).toList=w:=by
   intro k
   induction k with
   |zero=>intro i _ _ h;cases h
   |succ k ih=>
    intro i h1 h2 h
    unfold qGS at h
    split at h
    ·rename_i hq;exact ⟨i,h1,by omega,hq⟩
    ·exact ih (i+1) (by omega) (by omega) h
  obtain ⟨j,j1,j2,rfl⟩:=e 10 1 (by omega) (by omega) h
  rw [qJd]
  have:=t ⟨(j-1).toNat,by omega⟩
  simp only at this
  rwa [show (((j-1).toNat:Nat):Int)+1=j by omega] at this
 f0:=by decide+kernel
 n:=fun n hn=>by
  have c:n=1∨n=2∨n=3∨n=4∨n=5:=by omega
  rcases c with rfl|rfl|rfl|rfl|rfl
  ·exact ⟨[68,73,86,33],by decide+kernel⟩
  ·exact ⟨[84,89,80,69,33],by decide+kernel⟩
  ·exact ⟨[82,69,70,33],by decide+kernel⟩
  ·exact ⟨[79,86,69,82,33],by decide+kernel⟩
  ·exact ⟨[67,89,67,76,69,33],by decide+kernel⟩
def qRi (s:ByteArray):PS:=(pP 4050 (.bin 1 0) (s.toList,false,[])).2
def qBc (s:ByteArray):List Nd×Bool:=
 if qCs s 200=true∧(qRi s).2.1=false∧tb (qRi s).1= []∧qFn (qRi s).2.2=true then ((qRi s).2.2,true) else ([],false)
theorem qKt {s:ByteArray} (h:qCs s 200=true):s.toList.length≤200:=by
 unfold qCs at h
 simp only [Bool.and_eq_true,decide_eq_true_eq] at h
 rw [qAT];omega
theorem qTH {s:ByteArray} (h:qCs s 200=true):Gd (s.toList,false,[]):=⟨by have:=qKt h;simp only;omega,by simp,fun x hx=>by cases hx⟩
theorem qKu {l:List Nd} (h:∀x∈l,qQ9 x):∀c∈l,(kd c).length≤140737488351232∧c.2.2.2.2.1.size≤140737488351232:=fun c hc=>by
 have:=h c hc
 exact ⟨by have:=this.1;omega,by have:=this.2;omega⟩
theorem qLO (s:ByteArray) (hb:s.size≤140737488351232):Ev (qET · s) ((qBc s).1.map qa,(qBc s).2):=by
 obtain ⟨n1,h1⟩:=qKT s 200 hb
 by_cases hp:qCs s 200=true
 ·have hl:=qKt hp
  have htb:=qAA s.toList
  have hg:=qTH hp
  obtain ⟨n2,h2⟩:=qFP 4050 (.bin 1 0) (s.toList,false,[]) (by show 20*(tb s.toList).length+6≤4050;omega) ⟨by decide,by decide⟩ hg trivial
  have g:=(qFB 4050 (.bin 1 0) (s.toList,false,[]) hg trivial).1
  have e0:(pP 4050 (.bin 1 0) (s.toList,false,[])).2=qRi s:=rfl
  rw [e0] at g
  generalize pP 4050 (.bin 1 0) (s.toList,false,[])=P at h2 e0
  rw [qJd] at h2
  unfold qBc
  rw [←e0] at g⊢
  obtain ⟨n3,h3⟩:=qHc P.2.1 P.2.2.2.length P.2.2.1 (P.2.2.2.map qa)
  obtain ⟨n4,h4⟩:=qHb P.2.2.2 (by have:=g.n;omega) (qKu g.s)
  refine ⟨n1+n2+n3+n4+1,fun n hn=>?_⟩
  obtain ⟨k,rfl,hm⟩:=up1 hn
  have h1:=h1 k (by omega)
  rw [hp] at h1
  refine qA h1 (qO rfl (qA (h2 k (by omega)) (qA (h3 k (by omega)) ?_)))
  by_cases hbad:P.2.2.1=true
  ·rw [if_neg (fun h=>by rw [hbad] at h;cases h.2.1)]
   exact qD hbad (qD rfl rfl)
  ·have hbad:P.2.2.1=false:=by rw [Bool.eq_false_iff];exact hbad
   refine qO hbad ?_
   by_cases hr:tb P.2.1= []
   ·refine qO (qAr (by rw [beq_iff_eq,qAE];show (BR (tb P.2.1)).toList= [];rw [qAM];exact hr)) (qD (decide_eq_true (by simp)) (qA (h4 k (by omega)) (qD (qF _) ?_)))
    cases ho:qFn P.2.2.2 with
    |true=>
     rw [if_pos ⟨hp,hbad,hr,rfl⟩]
     exact qO rfl (qD (decide_eq_true (by simp)) rfl)
    |false=>
     rw [if_neg (fun h=>by cases h.2.2.2)]
     exact qD rfl (qD rfl rfl)
   ·rw [if_neg (fun h=>hr h.2.2.1)]
    exact qD (qCo (by rw [beq_eq_false_iff_ne,qAE];show (BR (tb P.2.1)).toList≠ [];rw [qAM];exact hr)) (qD rfl rfl)
 ·refine ⟨n1+1,fun n hn=>?_⟩
  obtain ⟨k,rfl,hm⟩:=up1 hn
  unfold qBc
  rw [if_neg (fun h=>hp h.1)]
  exact qA (h1 k (by omega)) (qD (qCo (by rw [Bool.eq_false_iff];exact hp)) (qD rfl rfl))
theorem qT0 {l:List Nd} (h:∃x∈l,qFA x=false):qFn l=false:=by
 obtain ⟨x,hx,hb⟩:=h
 rw [Bool.eq_false_iff]
 intro ho
 unfold qFn at ho
 simp only [Bool.and_eq_true] at ho
 obtain ⟨i,hi⟩:=List.mem_iff_getElem?.1 hx
 have hil:=(List.getElem?_eq_some_iff.1 hi).1
 have:=(qFm.1 ho.2.1 (i:Int) (by omega) (by omega)).1
 unfold qGR at this
 have e:ndi l (i:Int)=x:=by unfold ndi;simp [hi]
 rw [e,hb] at this
 cases this
theorem qLP (s:ByteArray) (hb:s.size≤140737488351232):Ev (qEO · s) ((qBc s).1.map qa,(qBc s).2):=by
 obtain ⟨n1,h1⟩:=qJW s hb
 by_cases hp:qCs s 200=true
 ·have hl:=qKt hp
  have hs:s.toList.length≤1000:=by omega
  have htb:=qAA s.toList
  have hg:=qTH hp
  have gi:=(qFB 4050 (.bin 1 0) (s.toList,false,[]) hg trivial).1
  have sim:=(qUu qVR (tb s.toList).length).2.2.1 (s.toList,false,[]) (s.toList,false,[]) 0 4 4050 4050 (by omega) ⟨rfl,rfl,rfl,rfl⟩ rfl (by omega) (by omega) (by omega) (by omega)
  rw [show (5:Int)-((4:Nat):Int)=1 from rfl] at sim
  have iv:Iv s.toList (s.toList,false,[]):=⟨List.suffix_rfl,by simp;omega⟩
  obtain ⟨n2,h2⟩:=qFQ qVR hs 4050 (.row 1) (s.toList,false,[]) ⟨by simp only;omega,by omega,by omega⟩ iv trivial
  have g:=qFC qVR 4050 (.row 1) (s.toList,false,[]) hs trivial
  have e0:(pP 4050 (.bin 1 0) (s.toList,false,[])).2=qRi s:=rfl
  generalize pP 4050 (.bin 1 0) (s.toList,false,[])=P at sim e0 gi
  generalize sP 4050 (.row 1) (s.toList,false,[])=Q at sim h2 g
  unfold qBc
  rw [←e0]
  obtain ⟨n3,h3⟩:=qSH hs Q.2 (iv.go g).1
  obtain ⟨n4,h4⟩:=qHa Q.2.2.2 (qKu (g.sm (fun x hx=>by cases hx)))
  have p0:pos s.toList s.toList=0:=by unfold pos;simp
  simp only [qJd,p0] at h2 h3
  have g2:=(qTG (iv.go g).1)
  refine ⟨n1+n2+n3+n4+1,fun n hn=>?_⟩
  obtain ⟨k,rfl,hm⟩:=up1 hn
  have h1:=h1 k (by omega)
  rw [hp] at h1
  have h2:=h2 k (by omega)
  have h3:=h3 k (by omega)
  have e1:qCY s.toList Q=(Q.1,s,pos s.toList Q.2.1,Q.2.2.1,Q.2.2.2.length,Q.2.2.2.map qa):=by unfold qCY qCv;rw [qJd]
  have e2:qCv s.toList (tb Q.2.1,Q.2.2)=(s,pos s.toList (tb Q.2.1),Q.2.2.1,Q.2.2.2.length,Q.2.2.2.map qa):=by unfold qCv;rw [qJd]
  rw [e1] at h2
  rw [e2] at h3
  refine qA h1 (qO rfl (qA h2 (qA h3 ?_)))
  rcases sim with ⟨_,hk,_⟩|⟨hbad,hd⟩
  ·obtain ⟨k1,k2,k3,k4⟩:=hk
   rw [k1,k3,k4]
   refine qO k2 ?_
   by_cases hr:tb Q.2.1= []
   ·refine qO (decide_eq_false (show ¬pos s.toList (tb Q.2.1)<(s.size:Int) by rw [hr];unfold pos;simp [qAT])) (qD (decide_eq_true (by simp)) (qA (h4 k (by omega)) (qD (qF _) ?_)))
    cases ho:qFn Q.2.2.2 with
    |true=>
     rw [if_pos ⟨hp,rfl,hr,rfl⟩]
     exact qO rfl (qD (decide_eq_true (by simp)) rfl)
    |false=>
     rw [if_neg (fun h=>by cases h.2.2.2)]
     exact qD rfl (qD rfl rfl)
   ·rw [if_neg (fun h=>hr h.2.2.1)]
    have hlp:=List.length_pos_iff.2 hr
    have hsl:=qDI g2
    exact qD (decide_eq_true (show pos s.toList (tb Q.2.1)<(s.size:Int) by rw [qAT] at hsl;unfold pos;rw [qAT];omega)) (qD rfl rfl)
  ·rw [if_neg (fun h=>by
    rcases hd with hd|hd
    ·rw [hd] at h;cases h.2.1
    ·rw [qT0 hd] at h;cases h.2.2.2)]
   exact qD hbad (qD rfl rfl)
 ·refine ⟨n1+1,fun n hn=>?_⟩
  obtain ⟨k,rfl,hm⟩:=up1 hn
  unfold qBc
  rw [if_neg (fun h=>hp h.1)]
  exact qA (h1 k (by omega)) (qD (qCo (by rw [Bool.eq_false_iff];exact hp)) (qD rfl rfl))
theorem qND (s:ByteArray):(qBc s).1.length≤60∧∀x∈(qBc s).1,qQ9 x:=by
 unfold qBc
 split
 ·rename_i h
  have g:=(qFB 4050 (.bin 1 0) (s.toList,false,[]) (qTH h.1) trivial).1
  exact ⟨g.n,g.s⟩
 ·exact ⟨by simp,fun x hx=>by cases hx⟩
theorem qQW:∀(l:List UInt8) (acc:Nat) {u:Nat},l.all qA9=true→Lib.parseUintM (2^64-1) acc l= .ok u→u=qAe acc l
 | [],acc,u,_,h=>by simp only [Lib.parseUintM] at h;cases h;rfl
 |c::r,acc,u,hd,h=>by
  simp only [List.all_cons,Bool.and_eq_true] at hd
  have hc:=hd.1
  simp only [qA9,Bool.and_eq_true,decide_eq_true_eq] at hc
  unfold Lib.parseUintM at h
  rw [qDt]
  rw [if_pos hc] at h
  by_cases h1:1844674407370955162≤acc
  ·rw [if_pos h1] at h;cases h
  ·rw [if_neg h1] at h
   by_cases h2:2^64-1<acc*10+(c.toNat-48)
   ·rw [if_pos h2] at h;cases h
   ·rw [if_neg h2] at h
    exact qQW r _ hd.2 h
theorem qTI {p:UInt8→Bool}:∀l:List UInt8,(l.dropWhile p= [])↔l.all p=true
 | []=>by simp
 |c::r=>by
  rw [List.dropWhile_cons,List.all_cons]
  by_cases h:p c=true
  ·rw [if_pos h,h,Bool.true_and];exact qTI r
  ·rw [if_neg h];simp [h]
theorem qTj {p:UInt8→Bool}:∀(l:List UInt8) {a:UInt8} {r:List UInt8},l.dropWhile p=a::r→p a=false
 | [],a,r,h=>by simp at h
 |c::l,a,r,h=>by
  rw [List.dropWhile_cons] at h
  by_cases hc:p c=true
  ·rw [if_pos hc] at h;exact qTj l h
  ·rw [if_neg hc] at h
   cases h
   rw [Bool.eq_false_iff];exact hc
theorem qUR:∀i:Fin 256,((⟨#[48,49,50,51,52,53,54,55,56,57]⟩:ByteArray).data.toList.contains (UInt8.ofNat i.val))=qA9 (UInt8.ofNat i.val):=by decide+kernel
theorem qNE {p:UInt8→Bool} {t:List UInt8}:((t.reverse.dropWhile p).reverse.dropWhile p= [])↔t.all p=true:=by
 rw [qTI]
 constructor
 ·intro h
  cases hx:t.reverse.dropWhile p with
  |nil=>
   rw [qTI] at hx
   rw [List.all_eq_true] at hx⊢
   exact fun x hx'=>hx x (by simpa using hx')
  |cons a r=>
   rw [List.all_eq_true] at h
   have h1:=h a (by rw [hx];simp)
   rw [qTj _ hx] at h1
   cases h1
 ·intro h
  rw [List.all_eq_true] at h⊢
  intro x hx
  rw [List.mem_reverse] at hx
  exact h x (by simpa using (List.dropWhile_suffix p).subset hx)
def qHG (s:List UInt8):List UInt8:=if s.head?=some 45 then s.tail else s
def qKi (s:List UInt8):Int:=if s.head?=some 45 then-((qAe 0 (qHG s):Nat):Int) else ((qAe 0 (qHG s):Nat):Int)
def qRA (s:List UInt8):Bool:=decide (qHG s≠ [])&&(qHG s).all qA9
def qE9 (s:List UInt8):Bool:=qRA s&&okV 1 (qKi s) em
theorem qUS (s:List UInt8):(qHG s).length≤s.length:=by unfold qHG;split<;>simp
theorem qSv (s:List UInt8) (h:s.length≤1000):Ev (qEI · (BR s)) (qRA s):=by
 refine ⟨10,fun n hn=>?_⟩
 obtain ⟨k,rfl⟩:∃k,n=k+5:=⟨n-5,by omega⟩
 have tp:qDd (k+4) (BR s) ⟨#[45]⟩=some (BR (qHG s)):=by
  have hp:qAB (k+2) (BR s) ⟨#[45]⟩=some (List.isPrefixOf [45] s):=by
   have:=qBb (k+1) s [45]
   simp only [qm,qB8,qC,qE,qG,qH,qJ,qK,Option.bind_some,qF,qM,qN] at this
   have e:∀o:Option Bool,(o.bind fun x=>some x)=o:=fun o=>by cases o<;>rfl
   rw [e] at this
   exact this
  have inner:qBR (k+3) (BR s) ⟨#[45]⟩=some (BR (qHG s)):=by
   by_cases hh:s.head?=some 45
   ·rw [(qE7 45 s).2 hh] at hp
    obtain ⟨t,rfl⟩:=qKq hh
    unfold qHG
    rw [if_pos hh]
    refine qA hp (qD rfl (qD (decide_eq_true ⟨by decide,by rw [qb];show (1:Int)≤_;simp;omega,Int.le_refl _⟩) ?_))
    rw [qC]
    show some ((BR (45::t)).extract 1 ((((BR (45::t)).size:Nat):Int)).toNat)=_
    rw [qF7,qb]
    simp
   ·have e:List.isPrefixOf [45] s=false:=by rw [Bool.eq_false_iff];exact fun e=>hh ((qE7 45 s).1 e)
    rw [e] at hp
    unfold qHG
    rw [if_neg hh]
    exact qA hp (qO rfl rfl)
  exact qA inner rfl
 have tl:=qUS s
 unfold qRA
 generalize qHG s=t at tp tl⊢
 refine qA tp ?_
 by_cases ht:t= []
 ·subst ht
  refine qO (qAr (by rw [qAM,qAE];rfl)) ?_
  rfl
 ·refine qD (qCo (by rw [beq_eq_false_iff_ne,qAM,qAE];exact ht)) ?_
  have tr:qDe (k+4) (BR t) ⟨#[48,49,50,51,52,53,54,55,56,57]⟩=some (BR (((t.reverse.dropWhile qA9).reverse).dropWhile qA9)):=by
   show zm (BR t) ⟨#[48,49,50,51,52,53,54,55,56,57]⟩=_
   unfold zm
   rw [if_pos ⟨by rw [qb];omega,by decide,by decide+kernel⟩]
   unfold Lib.trimS Lib.trimLeftS Lib.trimRightS
   have:(fun c=>(⟨#[48,49,50,51,52,53,54,55,56,57]⟩:ByteArray).data.toList.contains c)=qA9:=funext (qSD qUR)
   rw [this,←Go.Lib.toList_data (BR t),qAM]
   rfl
  refine qA tr ?_
  rw [qC]
  congr 1
  have dt:decide (t≠ [])=true:=decide_eq_true ht
  rw [dt,Bool.true_and,qAM,qAE]
  by_cases ha:t.all qA9=true
  ·rw [qNE.2 ha,ha];rfl
  ·have hx:¬(t.reverse.dropWhile qA9).reverse.dropWhile qA9= []:=fun e=>ha (qNE.1 e)
   rw [beq_eq_false_iff_ne.2 hx,Bool.eq_false_iff.2 ha]
theorem qVS {n:Int}:okV 1 n em=true↔-1000000000000000≤n∧n≤1000000000000000:=by
 simp [okV,em,qAE]
theorem qOO {s:List UInt8} (h:qRA s=true):(∀n,Lib.parseIntB 64 s= .ok n→n=qKi s)∧(qE9 s=true→Lib.parseIntB 64 s= .ok (qKi s)):=by
 have hd:=h
 unfold qRA at hd
 simp only [Bool.and_eq_true,decide_eq_true_eq] at hd
 obtain ⟨h1,h2⟩:=hd
 have p:(2:Nat)^(64-1)=9223372036854775808:=by decide
 have hne:s≠ []:=fun e=>h1 (by rw [e];rfl)
 obtain ⟨c,r,rfl⟩:∃c r,s=c::r:=by
  cases s with
  |nil=>exact absurd rfl hne
  |cons c r=>exact ⟨c,r,rfl⟩
 have c45:(c.toNat=45)↔c=45:=⟨fun e=>UInt8.toNat_inj.1 (show c.toNat=(45:UInt8).toNat from e),fun e=>by rw [e];rfl⟩
 have nt:qHG (c::r)=if c.toNat=43∨c.toNat=45 then r else c::r:=by
  unfold qHG
  by_cases hc:c=45
  ·subst hc;simp
  ·have hc2:¬c.toNat=45:=fun e=>hc (c45.1 e)
   have ht:qHG (c::r)=c::r:=by unfold qHG;rw [if_neg (by simpa using hc)]
   rw [ht] at h2
   simp only [List.all_cons,Bool.and_eq_true,qA9,decide_eq_true_eq] at h2
   rw [if_neg (by simpa using hc),if_neg (by omega)]
 have nv:qKi (c::r)=if c.toNat=45 then-((qAe 0 (qHG (c::r)):Nat):Int) else ((qAe 0 (qHG (c::r)):Nat):Int):=by
  unfold qKi
  by_cases hc:c=45
  ·subst hc;rfl
  ·rw [if_neg (by simpa using hc),if_neg (fun e=>hc (c45.1 e))]
 unfold Lib.parseIntB
 simp only
 rw [←nt]
 unfold Lib.parseUintB
 rw [if_neg h1]
 constructor
 ·intro n hn
  rcases hq:Lib.parseUintM (2^64-1) 0 (qHG (c::r)) with u|_|_
  rotate_left
  ·rw [hq] at hn;cases hn
  ·rw [hq] at hn;cases hn
  ·have hu:=qQW _ 0 h2 hq
   rw [hq] at hn
   simp only at hn
   split at hn
   ·cases hn
   ·split at hn
    ·cases hn
    ·injection hn with hn
     rw [nv,←hu,←hn]
 ·intro ho
  unfold qE9 at ho
  simp only [Bool.and_eq_true] at ho
  have hb:=qVS.1 ho.2
  have hv:qAe 0 (qHG (c::r))≤1000000000000000:=by
   rw [nv] at hb
   split at hb<;>omega
  rw [qN7 _ 0 h2 (by omega)]
  simp only
  rw [if_neg (by rw [p];omega),if_neg (by rw [p];omega),nv]
def szL:List UInt8→List UInt8
 | []=> []
 |c::t=>if t≠ []∧c=48 then szL t else c::t
theorem qPV:∀l:List UInt8,qAe 0 (szL l)=qAe 0 l
 | []=>rfl
 |c::t=>by
  unfold szL
  split
  ·rename_i h
   rw [qPV t,qDt,h.2]
   rfl
  ·rfl
theorem qSK:∀l:List UInt8,(szL l).all qA9=l.all qA9
 | []=>rfl
 |c::t=>by
  unfold szL
  split
  ·rename_i h
   rw [qSK t,List.all_cons,h.2]
   simp [qA9]
  ·rfl
theorem qVB:∀l:List UInt8,l≠ []→szL l≠ []
 | [],h=>absurd rfl h
 |c::t,_=>by
  unfold szL
  split
  ·rename_i h;exact qVB t h.1
  ·simp
theorem qSL:∀l:List UInt8,(szL l).head?=some 48→(szL l).length=1
 | [],h=>by cases h
 |c::t,h=>by
  unfold szL at h⊢
  split at h
  ·rename_i hc;rw [if_pos hc];exact qSL t h
  ·rename_i hc
   rw [if_neg hc]
   have h48:c=48:=by simpa using h
   have:t= []:=Classical.byContradiction fun e=>hc ⟨e,h48⟩
   rw [this];rfl
theorem qUT {l:List UInt8} (h:l≠ []):qGI (szL l)=l.all qA9:=by
 unfold qGI
 rw [qSK]
 have h1:(szL l== [])=false:=beq_eq_false_iff_ne.2 (qVB l h)
 rw [h1]
 by_cases e:(szL l).head?=some 48
 ·rw [qSL l e];simp
 ·rw [beq_eq_false_iff_ne.2 e];simp
theorem qSw:∀(l:List UInt8) (acc:Nat),acc*10^l.length≤qAe acc l
 | [],acc=>by rw [qG3];simp
 |c::r,acc=>by
  have:=qSw r (acc*10+(c.toNat-48))
  rw [qDt,List.length_cons,Nat.pow_succ]
  refine Nat.le_trans ?_ this
  rw [show acc*(10^r.length*10)=acc*10*10^r.length by rw [Nat.mul_comm (10^r.length) 10,Nat.mul_assoc]]
  exact Nat.mul_le_mul_right _ (by omega)
theorem qVT {l:List UInt8} (hd:l.all qA9=true) (h:16<(szL l).length):10000000000000000≤qAe 0 l:=by
 rw [←qPV]
 rw [←qSK] at hd
 have hh:=qSL l
 cases hz:szL l with
 |nil=>rw [hz] at h;simp at h
 |cons c r=>
  rw [hz] at h hd hh
  simp only [List.length_cons] at h
  have hc:¬c=48:=fun e=>by
   have:=hh (by rw [e];rfl)
   simp only [List.length_cons] at this
   omega
  simp only [List.all_cons,Bool.and_eq_true,qA9,decide_eq_true_eq] at hd
  have hc2:¬c.toNat=48:=fun e=>hc (UInt8.toNat_inj.1 (show c.toNat=(48:UInt8).toNat from e))
  rw [qDt]
  have a:=qSw r (0*10+(c.toNat-48))
  have p:10^16≤10^r.length:=Nat.pow_le_pow_right (by decide) (by omega)
  have p16:(10:Nat)^16=10000000000000000:=by decide
  have:1*10^r.length≤(0*10+(c.toNat-48))*10^r.length:=Nat.mul_le_mul_right _ (by omega)
  omega
theorem qNF (n:Nat) (neg:Bool) (a b:Int) (e:ByteArray):∀(l:List UInt8) (M:Nat),l.length≤1000→l.length+1≤M→zD (qBl n) M (BR l,neg,a,b,e)=some (BR (szL l),neg,a,b,e)
 |l,0,_,h=>by omega
 | [],M+1,_,_=>qP (qO (decide_eq_false (show ¬((BR []).size:Int)>1 by rw [qb];decide)) rfl)
 |c::t,M+1,hl,h=>by
  simp only [List.length_cons] at h hl
  unfold szL
  by_cases ht:t= []
  ·rw [if_neg (fun h=>h.1 ht)]
   subst ht
   exact qP (qO (decide_eq_false (show ¬((BR [c]).size:Int)>1 by rw [qb];simp)) rfl)
  ·have hpos:=List.length_pos_iff.2 ht
   have g0:decide (((BR (c::t)).size:Int)>1)=true:=decide_eq_true (by rw [qb];simp only [List.length_cons];omega)
   have g1:(BR (c::t)).toList[((0:Int)).toNat]?=some c:=by rw [qAM];rfl
   by_cases hc:c=48
   ·rw [if_pos ⟨ht,hc⟩]
    subst hc
    rw [qU (v':=(BR t,neg,a,b,e)) (by
     refine qD g0 (qD rfl (qA g1 (qD rfl (qD (decide_eq_true ⟨by decide,by rw [qb];simp only [List.length_cons];omega,Int.le_refl _⟩) ?_))))
     rw [qC]
     show some (Sum.inl ((BR (48::t)).extract 1 ((((BR (48::t)).size:Nat):Int)).toNat,neg,a,b,e))=_
     rw [qF7,qb]
     simp)]
    exact qNF n neg a b e t M (by omega) (by omega)
   ·rw [if_neg (fun h=>hc h.2)]
    refine qP (qD g0 (qD rfl (qA g1 (qO ?_ rfl))))
    rw [beq_eq_false_iff_ne]
    intro e
    exact hc (UInt8.toNat_inj.1 (show c.toNat=48 by omega))
theorem qVU {l:List UInt8} (h:l≠ []):l1I (szL l) 16=if (szL l).length≤16∧l.all qA9=true then (((qAe 0 l:Nat):Int),true) else (0,false):=by
 unfold l1I
 rw [qUT h,qPV]
 by_cases hh:(szL l).length≤16∧l.all qA9=true
 ·rw [if_pos hh,if_pos ⟨by have:=hh.1;omega,hh.2⟩]
 ·rw [if_neg hh,if_neg (fun e=>hh ⟨by have:=e.1;omega,e.2⟩)]
theorem qSx (neg:Bool) (t:List UInt8) (ht:t≠ []) (hl:t.length≤1000):∃r:Int×Int×ByteArray×Bool,(r.2.2.2=(t.all qA9&&okV 1 (if neg=true then-((qAe 0 t:Nat):Int) else ((qAe 0 t:Nat):Int)) em))∧(r.2.2.2=true→r=(1,(if neg=true then-((qAe 0 t:Nat):Int) else ((qAe 0 t:Nat):Int)),em,true))∧
  ∃n0,∀n,n0≤n→∃v:ByteArray×Bool×Int×Int×ByteArray,zD (qBl n) n (BR t,neg,0,0,⟨#[]⟩)=some v∧
   (Tr.opt (qu n v.1 16) fun r221=>(.ask (v.2.1)
    (.ask (r221.2) (.opt (qY n 1 (IntKind.i64.wrap (0-r221.1)) ⟨#[]⟩) fun r222=>(.done ((1:Int),(IntKind.i64.wrap (0-r221.1)),(⟨#[]⟩:ByteArray),r222))) (.done ((1:Int),(IntKind.i64.wrap (0-r221.1)),(⟨#[]⟩:ByteArray),false)))
    (.ask (r221.2) (.opt (qY n 1 r221.1 ⟨#[]⟩) fun r223=>(.done ((1:Int),r221.1,(⟨#[]⟩:ByteArray),r223))) (.done ((1:Int),r221.1,(⟨#[]⟩:ByteArray),false))))).run=some r:=by
 have hi:=qD8 (BR (szL t)) 16 (by decide)
 rw [qAM,qVU ht] at hi
 obtain ⟨n1,h1⟩:=hi
 by_cases hh:(szL t).length≤16∧t.all qA9=true
 ·have hv:qAe 0 t<10^(0+(szL t).length):=by
   have:=qR4 (szL t) 0 0 (by rw [qSK];exact hh.2) (by decide)
   rwa [qPV] at this
  have hp:10^(0+(szL t).length)≤10^16:=Nat.pow_le_pow_right (by decide) (by omega)
  have p16:(10:Nat)^16=10000000000000000:=by decide
  have w1:IntKind.i64.wrap (0-((qAe 0 t:Nat):Int))= -((qAe 0 t:Nat):Int):=by rw [qT (by omega)];omega
  cases neg with
  |true=>
   obtain ⟨n2,h2⟩:=qAF 1 (-((qAe 0 t:Nat):Int)) em (by decide)
   refine ⟨(1,-((qAe 0 t:Nat):Int),em,okV 1 (-((qAe 0 t:Nat):Int)) em),by rw [hh.2];simp,fun e=>?_,n1+n2+t.length+1,fun n hn=>⟨_,qNF n true 0 0 _ t n hl (by omega),?_⟩⟩
   ·simp only at e;rw [e];rfl
   ·have h1:=h1 n (by omega)
    rw [if_pos hh] at h1
    have h2:=h2 n (by omega)
    rw [←w1] at h2
    refine qA h1 (qD rfl (qD rfl (qA h2 ?_)))
    rw [qC,w1];rfl
  |false=>
   obtain ⟨n2,h2⟩:=qAF 1 ((qAe 0 t:Nat):Int) em (by decide)
   refine ⟨(1,((qAe 0 t:Nat):Int),em,okV 1 ((qAe 0 t:Nat):Int) em),by rw [hh.2];simp,fun e=>?_,n1+n2+t.length+1,fun n hn=>⟨_,qNF n false 0 0 _ t n hl (by omega),?_⟩⟩
   ·simp only at e;rw [e];rfl
   ·have h1:=h1 n (by omega)
    rw [if_pos hh] at h1
    exact qA h1 (qO rfl (qD rfl (qA (h2 n (by omega)) rfl)))
 ·have hno:(t.all qA9&&okV 1 (if neg=true then-((qAe 0 t:Nat):Int) else ((qAe 0 t:Nat):Int)) em)=false:=by
   rw [Bool.eq_false_iff]
   intro e
   simp only [Bool.and_eq_true] at e
   have hb:=qVS.1 e.2
   have:16<(szL t).length:=by
    have:¬(szL t).length≤16:=fun h=>hh ⟨h,e.1⟩
    omega
   have:=qVT e.1 this
   split at hb<;>omega
  cases neg with
  |true=>
   refine ⟨(1,IntKind.i64.wrap (0-0),em,false),hno.symm,(fun e=>by cases e),n1+t.length+1,fun n hn=>⟨_,qNF n true 0 0 _ t n hl (by omega),?_⟩⟩
   have h1:=h1 n (by omega)
   rw [if_neg hh] at h1
   exact qA h1 (qD rfl (qO rfl rfl))
  |false=>
   refine ⟨(1,0,em,false),hno.symm,(fun e=>by cases e),n1+t.length+1,fun n hn=>⟨_,qNF n false 0 0 _ t n hl (by omega),?_⟩⟩
   have h1:=h1 n (by omega)
   rw [if_neg hh] at h1
   exact qA h1 (qO rfl (qO rfl rfl))
theorem qSy (s:List UInt8) (hs:s≠ []) (hl:s.length≤1000):∃r:Int×Int×ByteArray×Bool,r.2.2.2=qE9 s∧(qE9 s=true→r=(1,qKi s,em,true))∧Ev (qFy · (BR s)) r:=by
 obtain ⟨c,t,rfl⟩:∃c t,s=c::t:=by
  cases s with
  |nil=>exact absurd rfl hs
  |cons c t=>exact ⟨c,t,rfl⟩
 simp only [List.length_cons] at hl
 have g0:decide (((BR (c::t)).size:Int)>0)=true:=decide_eq_true (by rw [qb];simp only [List.length_cons];omega)
 have g1:(BR (c::t)).toList[((0:Int)).toNat]?=some c:=by rw [qAM];rfl
 by_cases hc:c=45
 ·subst hc
  have ext:(BR (45::t)).extract ((1:Int)).toNat ((((BR (45::t)).size:Nat):Int)).toNat=BR t:=by rw [qF7,qb];simp
  have g2:decide (0≤(1:Int)∧(1:Int)≤((BR (45::t)).size:Int)∧((BR (45::t)).size:Int)≤((BR (45::t)).size:Int))=true:=decide_eq_true ⟨by decide,by rw [qb];simp only [List.length_cons];omega,Int.le_refl _⟩
  have nt:qHG (45::t)=t:=rfl
  have nv:qKi (45::t)= -((qAe 0 t:Nat):Int):=rfl
  by_cases ht:t= []
  ·subst ht
   refine ⟨(0,0,⟨#[]⟩,false),by decide+kernel,(fun e=>by revert e;decide+kernel),1,fun n hn=>?_⟩
   obtain ⟨k,rfl,hm⟩:=up1 hn
   exact qD g0 (qD rfl (qA g1 (qD rfl (qD g2 (qD (by rw [ext,qAM,qAE];rfl) rfl)))))
  ·obtain ⟨r,r1,r2,n0,h0⟩:=qSx true t ht (by omega)
   have e:qE9 (45::t)=(t.all qA9&&okV 1 (-((qAe 0 t:Nat):Int)) em):=by
    unfold qE9 qRA
    rw [nt,nv,decide_eq_true ht,Bool.true_and]
   rw [if_pos rfl] at r1 r2
   refine ⟨r,by rw [e];exact r1,fun h=>by rw [nv];exact r2 (by rw [r1,←e];exact h),n0+1,fun n hn=>?_⟩
   obtain ⟨k,rfl,hm⟩:=up1 hn
   obtain ⟨v,lp,fin⟩:=h0 k (by omega)
   rw [←ext] at lp
   exact qD g0 (qD rfl (qA g1 (qD rfl (qD g2 (qO (by rw [ext,beq_eq_false_iff_ne,qAM,qAE];exact ht) (qA lp fin))))))
 ·have c45:((c.toNat:Int)==45)=false:=by
   rw [beq_eq_false_iff_ne];intro e
   exact hc (UInt8.toNat_inj.1 (show c.toNat=45 by omega))
  have hh:¬(c::t).head?=some 45:=by simpa using hc
  have nt:qHG (c::t)=c::t:=by unfold qHG;rw [if_neg hh]
  have nv:qKi (c::t)=((qAe 0 (c::t):Nat):Int):=by unfold qKi;rw [if_neg hh,nt]
  obtain ⟨r,r1,r2,n0,h0⟩:=qSx false (c::t) (by simp) (by simp only [List.length_cons];omega)
  have e:qE9 (c::t)=((c::t).all qA9&&okV 1 (((qAe 0 (c::t):Nat):Int)) em):=by
   unfold qE9 qRA
   rw [nt,nv,decide_eq_true (by simp),Bool.true_and]
  rw [if_neg (by simp)] at r1 r2
  refine ⟨r,by rw [e];exact r1,fun h=>by rw [nv];exact r2 (by rw [r1,←e];exact h),n0+1,fun n hn=>?_⟩
  obtain ⟨k,rfl,hm⟩:=up1 hn
  obtain ⟨v,lp,fin⟩:=h0 k (by omega)
  rw [←c45] at lp
  exact qD g0 (qD rfl (qA g1 (qO c45 (qO (by rw [beq_eq_false_iff_ne,qAM,qAE];simp) (qA lp fin)))))
def qF8 (s:ByteArray):ByteArray×Bool:=
 if qCs s 200=false then (⟨#[]⟩,false) else if s.toList= [] then (⟨#[]⟩,true) else
 if s.toList.head?=some 61 then (if (qBc (BR s.toList.tail)).2=true∧(qDB (qBc (BR s.toList.tail)).1).toList≠ []∧(qDB (qBc (BR s.toList.tail)).1).size<200 then (⟨#[61]⟩++qDB (qBc (BR s.toList.tail)).1,true) else (⟨#[]⟩,false)) else
 if qE9 s.toList=true then (qHE (qKi s.toList),true) else
 if (qh s).2.2.2=true then (s,true) else
 if s.size=200 then (⟨#[]⟩,false) else (⟨#[39]⟩++s,true)
theorem qTJ (t:ByteArray):Ev (qBk · ((qBc t).1.map qa)) (qDB (qBc t).1):=qLM _ (by have:=(qND t).1;omega) (qKu (qND t).2)
theorem qTK (t:ByteArray):Ev (qBr · ((qBc t).1.map qa)) (qDB (qBc t).1):=qLN _ (by have:=(qND t).1;omega) (qKu (qND t).2)
theorem qQX (l:List Nd):(qDB l).size≤200:=by
 unfold qDB
 split
 ·split
  ·decide
  ·omega
 ·decide
theorem qFD {s:ByteArray} (h:s.toList≠ []):(s.toList==(⟨#[]⟩:ByteArray).toList)=false:=by rw [qAE];exact beq_eq_false_iff_ne.2 h
theorem qQY {s:ByteArray} (h:s.toList= []):(s.toList==(⟨#[]⟩:ByteArray).toList)=true:=by rw [qAE];exact beq_iff_eq.2 h
theorem qSz {s:ByteArray} (h:(qh s).2.2.2=true):okV (qh s).1 (qh s).2.1 (qh s).2.2.1=true∧(qCB (qh s).1 (qh s).2.1 (qh s).2.2.1)=s:=by
 unfold qh at h⊢
 split at h
 ·rename_i hc
  rw [if_pos hc]
  exact ⟨hc.1,qE4 hc.2⟩
 ·cases h
theorem qVo {s:ByteArray} (h:qCs s 200=true):okV 2 0 s=true:=by
 unfold okV
 rw [if_pos rfl,h]
 rfl
theorem qMK {s:ByteArray} (h:qCs s 200=true):s.size≤200:=by have:=qKt h;rw [qAT] at this;exact this
theorem qUU (s:ByteArray):(qCB 2 0 s).size=s.size+1:=by
 have e:qCB 2 0 s=⟨#[39]⟩++s:=rfl
 rw [e,ByteArray.size_append]
 show 1+s.size=_
 omega
theorem qT1 {s:ByteArray} (h:(qh s).2.2.2=true):(qh s).2.2.1.size≤1000:=by
 obtain ⟨h1,h2⟩:=qSz h
 unfold okV at h1
 split at h1
 ·simp only [Bool.and_eq_true] at h1
  have:=qMK h1.2;omega
 ·simp only [Bool.and_eq_true,beq_iff_eq] at h1
  have:=congrArg List.length h1.1
  rw [qAT] at this
  simp only [List.length_nil] at this
  omega
theorem qPM (s:ByteArray) (hb:s.size≤140737488355328):Ev (qEo · s) (qF8 s):=by
 obtain ⟨n1,h1⟩:=qIO s hb
 unfold qF8
 cases hp:qCs s 200 with
 |false=>
  rw [if_pos rfl]
  refine ⟨n1+1,fun n hn=>?_⟩
  obtain ⟨k,rfl,hm⟩:=up1 hn
  exact qA (h1 k (by omega)) (qD (qCo hp) rfl)
 |true=>
  rw [if_neg (by simp)]
  have hsz:=qMK hp
  by_cases h0:s.toList= []
  ·rw [if_pos h0]
   refine ⟨n1+1,fun n hn=>?_⟩
   obtain ⟨k,rfl,hm⟩:=up1 hn
   exact qA (h1 k (by omega)) (qO (qAr hp) (qD (qQY h0) rfl))
  ·rw [if_neg h0]
   obtain ⟨c,t,hct⟩:∃c t,s.toList=c::t:=by
    cases h:s.toList with
    |nil=>exact absurd h h0
    |cons c t=>exact ⟨c,t,rfl⟩
   have g1:s.toList[((0:Int)).toNat]?=some c:=by rw [hct];rfl
   have hl:s.size=t.length+1:=by rw [←qAT,hct];rfl
   by_cases h61:s.toList.head?=some 61
   ·rw [if_pos h61]
    have hc:c=61:=by rw [hct] at h61;simpa using h61
    subst hc
    have ext:s.extract ((1:Int)).toNat (((s.size:Nat):Int)).toNat=BR s.toList.tail:=by
     conv=>lhs;rw [←qJd s]
     rw [qF7,qb,hct]
     simp
    obtain ⟨n2,h2⟩:=qLP (BR s.toList.tail) (by rw [qb,hct];simp;omega)
    obtain ⟨n3,h3⟩:=qTJ (BR s.toList.tail)
    rw [←ext] at h2 h3⊢
    have fz:=qQX (qBc (s.extract ((1:Int)).toNat (((s.size:Nat):Int)).toNat)).1
    have w1:IntKind.i64.wrap (((qDB (qBc (s.extract ((1:Int)).toNat (((s.size:Nat):Int)).toNat)).1).size:Int)+1)=((qDB (qBc (s.extract ((1:Int)).toNat (((s.size:Nat):Int)).toNat)).1).size:Int)+1:=qT (by omega)
    refine ⟨n1+n2+n3+1,fun n hn=>?_⟩
    obtain ⟨k,rfl,hm⟩:=up1 hn
    refine qA (h1 k (by omega)) (qO (qAr hp) (qO (qFD h0) (qD rfl (qA g1 (qD rfl (qD (decide_eq_true ⟨by decide,by omega,Int.le_refl _⟩) (qA (h2 k (by omega)) (qA (h3 k (by omega)) ?_))))))))
    by_cases hr:(qBc (s.extract ((1:Int)).toNat (((s.size:Nat):Int)).toNat)).2=true
    ·refine qO (qAr hr) ?_
     by_cases he:(qDB (qBc (s.extract ((1:Int)).toNat (((s.size:Nat):Int)).toNat)).1).toList= []
     ·rw [if_neg (fun h=>h.2.1 he)]
      exact qD (qQY he) rfl
     ·refine qO (qFD he) ?_
      by_cases hz:(qDB (qBc (s.extract ((1:Int)).toNat (((s.size:Nat):Int)).toNat)).1).size<200
      ·rw [if_pos ⟨hr,he,hz⟩]
       exact qO (decide_eq_false (by rw [w1];omega)) (qD (decide_eq_true (by show 1+(qDB (qBc (s.extract ((1:Int)).toNat (((s.size:Nat):Int)).toNat)).1).size≤9223372036854775807;omega)) rfl)
      ·rw [if_neg (fun h=>hz h.2.2)]
       exact qD (decide_eq_true (by rw [w1];omega)) rfl
    ·rw [if_neg (fun h=>hr h.1)]
     exact qD (qCo (by rw [Bool.eq_false_iff];exact hr)) rfl
   ·rw [if_neg h61]
    have hc:((c.toNat:Int)==61)=false:=by
     rw [beq_eq_false_iff_ne];intro e
     refine h61 ?_
     rw [hct,show c=61 from UInt8.toNat_inj.1 (show c.toNat=61 by omega)];rfl
    obtain ⟨r,r1,r2,n2,h2⟩:=qSy s.toList h0 (by rw [qAT];omega)
    rw [qJd] at h2
    obtain ⟨n3,h3⟩:=qHZ s (by omega)
    cases hn:qE9 s.toList with
    |true=>
     rw [if_pos rfl]
     have er:=r2 hn
     subst er
     have hok:okV 1 (qKi s.toList) em=true:=by unfold qE9 at hn;simp only [Bool.and_eq_true] at hn;exact hn.2
     obtain ⟨n4,h4⟩:=qDT 1 (qKi s.toList) em (by decide)
     rw [if_pos hok] at h4
     refine ⟨n1+n2+n4+1,fun n hn=>?_⟩
     obtain ⟨k,rfl,hm⟩:=up1 hn
     exact qA (h1 k (by omega)) (qO (qAr hp) (qO (qFD h0) (qD rfl (qA g1 (qO hc (qA (h2 k (by omega)) (qD rfl (qA (h4 k (by omega)) rfl))))))))
    |false=>
     rw [if_neg (by simp)]
     have rf:r.2.2.2=false:=by rw [r1];exact hn
     by_cases hv:(qh s).2.2.2=true
     ·rw [if_pos hv]
      obtain ⟨v1,v2⟩:=qSz hv
      obtain ⟨n4,h4⟩:=qDT (qh s).1 (qh s).2.1 (qh s).2.2.1 (by have:=qT1 hv;omega)
      rw [if_pos v1,v2] at h4
      refine ⟨n1+n2+n3+n4+1,fun n hn=>?_⟩
      obtain ⟨k,rfl,hm⟩:=up1 hn
      exact qA (h1 k (by omega)) (qO (qAr hp) (qO (qFD h0) (qD rfl (qA g1 (qO hc (qA (h2 k (by omega)) (qO rf (qA (h3 k (by omega)) (qO (qAr hv) (qA (h4 k (by omega)) (qO (decide_eq_false (by omega)) rfl)))))))))))
     ·rw [if_neg hv]
      obtain ⟨n4,h4⟩:=qDT 2 0 s (by omega)
      rw [if_pos (qVo hp)] at h4
      have vz:=qUU s
      refine ⟨n1+n2+n3+n4+1,fun n hn=>?_⟩
      obtain ⟨k,rfl,hm⟩:=up1 hn
      refine qA (h1 k (by omega)) (qO (qAr hp) (qO (qFD h0) (qD rfl (qA g1 (qO hc (qA (h2 k (by omega)) (qO rf (qA (h3 k (by omega)) (qD (qCo (by rw [Bool.eq_false_iff];exact hv)) (qA (h4 k (by omega)) ?_))))))))))
      by_cases hz:s.size=200
      ·rw [if_pos hz]
       exact qD (decide_eq_true (by omega)) rfl
      ·rw [if_neg hz]
       exact qO (decide_eq_false (by omega)) rfl
theorem qS0 (X:ByteArray):Ev (qF1 · ((qBc X).1.map qa)) (⟨#[61]⟩++qDB (qBc X).1,decide ((qDB (qBc X).1).toList≠ [])&&decide ((qDB (qBc X).1).size<200)):=by
 obtain ⟨n1,h1⟩:=qTK X
 have fz:=qQX (qBc X).1
 refine ⟨n1+1,fun n hn=>?_⟩
 obtain ⟨k,rfl,hm⟩:=up1 hn
 refine qA (h1 k (by omega)) (qD (decide_eq_true (by show 1+(qDB (qBc X).1).size≤9223372036854775807;omega)) ?_)
 by_cases he:(qDB (qBc X).1).toList= []
 ·refine qO (qAr (qQY he)) ?_
  rw [qC,decide_eq_false (fun h=>h he),Bool.false_and]
 ·refine qD (qCo (qFD he)) ?_
  rw [qC,decide_eq_true he,Bool.true_and]
  have e:decide (((qDB (qBc X).1).size:Int)<200)=decide ((qDB (qBc X).1).size<200):=by rw [decide_eq_decide];omega
  exact congrArg (fun b:Bool=>some ((⟨#[61]⟩:ByteArray)++qDB (qBc X).1,b)) e
theorem qPN (s:ByteArray) (hb:s.size≤140737488355328):Ev (qG1 · s) (qF8 s):=by
 obtain ⟨n1,h1⟩:=qJX s 200 hb
 unfold qF8
 cases hp:qCs s 200 with
 |false=>
  rw [if_pos rfl]
  have h0:s.toList≠ []:=fun e=>by
   have:qCs s 200=true:=by
    unfold qCs
    have hz:s.size=0:=by rw [←qAT,e];rfl
    rw [e,hz];rfl
   rw [hp] at this;cases this
  refine ⟨n1+1,fun n hn=>?_⟩
  obtain ⟨k,rfl,hm⟩:=up1 hn
  refine qA (h1 k (by omega)) (qD (qCo hp) ?_)
  rw [qC,qFD h0]
 |true=>
  rw [if_neg (by simp)]
  have hsz:=qMK hp
  by_cases h0:s.toList= []
  ·rw [if_pos h0]
   refine ⟨n1+1,fun n hn=>?_⟩
   obtain ⟨k,rfl,hm⟩:=up1 hn
   refine qA (h1 k (by omega)) (qO (qAr hp) (qD (qQY h0) ?_))
   rw [qC,qQY h0]
  ·rw [if_neg h0]
   obtain ⟨n2,h2⟩:=qGP s 61
   by_cases h61:s.toList.head?=some 61
   ·rw [if_pos h61]
    rw [if_pos h61] at h2
    obtain ⟨n3,h3⟩:=qLO (BR s.toList.tail) (by rw [qb,List.length_tail,qAT];omega)
    obtain ⟨n4,h4⟩:=qS0 (BR s.toList.tail)
    change ∀n,n2≤n→qAH n s ⟨#[61]⟩=some (BR s.toList.tail,true) at h2
    generalize BR s.toList.tail=X at h2 h3 h4⊢
    refine ⟨n1+n2+n3+n4+1,fun n hn=>?_⟩
    obtain ⟨k,rfl,hm⟩:=up1 hn
    have h4:=h4 k (by omega)
    refine qA (h1 k (by omega)) (qO (qAr hp) (qO (qFD h0) (qA (h2 k (by omega)) (qD rfl (qA (h3 k (by omega)) (qA h4 ?_))))))
    by_cases hr:(qBc X).2=true
    ·refine qO (qAr hr) ?_
     by_cases he:(qDB (qBc X).1).toList≠ []∧(qDB (qBc X).1).size<200
     ·rw [if_pos ⟨hr,he⟩]
      exact qO (qAr (by simp only;rw [decide_eq_true he.1,decide_eq_true he.2];rfl)) rfl
     ·rw [if_neg (fun h=>he h.2)]
      exact qD (qCo (by simp only;rw [Bool.eq_false_iff];intro e;simp only [Bool.and_eq_true,decide_eq_true_eq] at e;exact he e)) rfl
    ·rw [if_neg (fun h=>hr h.1)]
     exact qD (qCo (by rw [Bool.eq_false_iff];exact hr)) rfl
   ·rw [if_neg h61]
    rw [if_neg h61] at h2
    obtain ⟨n3,h3⟩:=qHY s (by omega)
    obtain ⟨n4,h4⟩:=qSv s.toList (by rw [qAT];omega)
    rw [qJd] at h4
    have fin:∀k,n3≤k→(Tr.opt (qd k s) fun r=>(.ask (r.2.2.2) (.done (s,true)) (.ask (((s.size:Int)==(200:Int))) (.done ((⟨#[]⟩:ByteArray),false)) (.ask (decide ((⟨#[39]⟩:ByteArray).size+s.size≤9223372036854775807)) (.done (((⟨#[39]⟩:ByteArray)++s),true)) .fail)))).run=some (if (qh s).2.2.2=true then (s,true) else if s.size=200 then ((⟨#[]⟩:ByteArray),false) else (⟨#[39]⟩++s,true)):=fun k hk=>by
     refine qA (h3 k hk) ?_
     by_cases hv:(qh s).2.2.2=true
     ·rw [if_pos hv];exact qD hv rfl
     ·rw [if_neg hv]
      refine qO (by rw [Bool.eq_false_iff];exact hv) ?_
      by_cases hz:s.size=200
      ·rw [if_pos hz];exact qD (beq_iff_eq.2 (by omega)) rfl
      ·rw [if_neg hz]
       exact qO (beq_eq_false_iff_ne.2 (by omega)) (qD (decide_eq_true (by show 1+s.size≤9223372036854775807;omega)) rfl)
    have hpi:∀k,qAy (k+1) s 10 64=zL s 10 64:=fun k=>rfl
    have hL:zL s 10 64=(match Lib.parseIntB 64 s.toList with
     | .ok v=>some (.inl v)
     | .range=>some (.inr (Lib.intSat 64 s.toList))
     |_=>some (.inr 0)):=by
     unfold zL
     rw [if_pos ⟨rfl,rfl,by omega⟩,Go.Lib.toList_data]
     cases Lib.parseIntB 64 s.data.toList<;>rfl
    rcases hq:Lib.parseIntB 64 s.toList with v|_|_
    rotate_left
    ·have hn:qE9 s.toList=false:=by
      rw [Bool.eq_false_iff];intro e
      have hd:qRA s.toList=true:=by unfold qE9 at e;simp only [Bool.and_eq_true] at e;exact e.1
      have:=(qOO hd).2 e
      rw [hq] at this;cases this
     rw [hn,if_neg (by simp)]
     rw [hq] at hL
     refine ⟨n1+n2+n3+2,fun n hn=>?_⟩
     obtain ⟨k,rfl,hm⟩:=up1 hn
     obtain ⟨k,rfl,hm⟩:=up1 (show n1+n2+n3+1≤k by omega)
     exact qA (h1 (k+1) (by omega)) (qO (qAr hp) (qO (qFD h0) (qA (h2 (k+1) (by omega)) (qO rfl (qA ((hpi k).trans hL) (qO rfl (fin (k+1) (by omega))))))))
    ·have hn:qE9 s.toList=false:=by
      rw [Bool.eq_false_iff];intro e
      have hd:qRA s.toList=true:=by unfold qE9 at e;simp only [Bool.and_eq_true] at e;exact e.1
      have:=(qOO hd).2 e
      rw [hq] at this;cases this
     rw [hn,if_neg (by simp)]
     rw [hq] at hL
     refine ⟨n1+n2+n3+2,fun n hn=>?_⟩
     obtain ⟨k,rfl,hm⟩:=up1 hn
     obtain ⟨k,rfl,hm⟩:=up1 (show n1+n2+n3+1≤k by omega)
     exact qA (h1 (k+1) (by omega)) (qO (qAr hp) (qO (qFD h0) (qA (h2 (k+1) (by omega)) (qO rfl (qA ((hpi k).trans hL) (qO rfl (fin (k+1) (by omega))))))))
    ·rw [hq] at hL
     cases hd:qRA s.toList with
     |false=>
      have hn:qE9 s.toList=false:=by unfold qE9;rw [hd];rfl
      rw [hn,if_neg (by simp)]
      refine ⟨n1+n2+n3+n4+2,fun n hn=>?_⟩
      obtain ⟨k,rfl,hm⟩:=up1 hn
      obtain ⟨k,rfl,hm⟩:=up1 (show n1+n2+n3+n4+1≤k by omega)
      have h4:=h4 (k+1) (by omega)
      rw [hd] at h4
      exact qA (h1 (k+1) (by omega)) (qO (qAr hp) (qO (qFD h0) (qA (h2 (k+1) (by omega)) (qO rfl (qA ((hpi k).trans hL) (qD rfl (qA h4 (qO rfl (fin (k+1) (by omega))))))))))
     |true=>
      have hv:=(qOO hd).1 v hq
      subst hv
      obtain ⟨n5,h5⟩:=qKU (qKi s.toList)
      obtain ⟨n6,h6⟩:=qF4 1 (qKi s.toList) em (by decide)
      have ei:qE9 s.toList=okV 1 (qKi s.toList) em:=by unfold qE9;rw [hd,Bool.true_and]
      rw [ei]
      cases ho:okV 1 (qKi s.toList) em with
      |true=>
       rw [if_pos rfl]
       have hb2:=qVS.1 ho
       obtain ⟨n7,h7⟩:=qF6 (qKi s.toList) (by omega)
       refine ⟨n1+n2+n3+n4+n5+n6+n7+2,fun n hn=>?_⟩
       obtain ⟨k,rfl,hm⟩:=up1 hn
       obtain ⟨k,rfl,hm⟩:=up1 (show n1+n2+n3+n4+n5+n6+n7+1≤k by omega)
       have h4:=h4 (k+1) (by omega)
       rw [hd] at h4
       exact qA (h1 (k+1) (by omega)) (qO (qAr hp) (qO (qFD h0) (qA (h2 (k+1) (by omega)) (qO rfl (qA ((hpi k).trans hL) (qD rfl (qA h4 (qD rfl (qA (h5 (k+1) (by omega)) (qA (h6 (k+1) (by omega)) (qD ho (qA (h7 (k+1) (by omega)) rfl))))))))))))
      |false=>
       rw [if_neg (by simp)]
       refine ⟨n1+n2+n3+n4+n5+n6+2,fun n hn=>?_⟩
       obtain ⟨k,rfl,hm⟩:=up1 hn
       obtain ⟨k,rfl,hm⟩:=up1 (show n1+n2+n3+n4+n5+n6+1≤k by omega)
       have h4:=h4 (k+1) (by omega)
       rw [hd] at h4
       exact qA (h1 (k+1) (by omega)) (qO (qAr hp) (qO (qFD h0) (qA (h2 (k+1) (by omega)) (qO rfl (qA ((hpi k).trans hL) (qD rfl (qA h4 (qD rfl (qA (h5 (k+1) (by omega)) (qA (h6 (k+1) (by omega)) (qO ho (fin (k+1) (by omega)))))))))))))
abbrev Cl:=Int×Int×ByteArray
def q8 (c:Cl):List PV:= [.i .i64 c.1,.i .i64 c.2.1,.s c.2.2]
theorem qU0 {rows:List (List PV)} (h:∀e∈rows,okR [.i .i64,.i .i64,.s] e):∃l:List Cl,rows=l.map q8∧∀c∈l,c.2.2.size≤140737488351232:=by
 refine qKS (fun e h=>?_) h
 obtain ⟨c0,t0,rfl,p0,h⟩:=zAA h
 obtain ⟨c1,t1,rfl,p1,h1⟩:=zAA h
 obtain ⟨c2,t2,rfl,p2,h2⟩:=zAA h1
 obtain rfl:=zCj h2
 obtain ⟨x0,rfl,_⟩:=zE7 p0
 obtain ⟨x1,rfl,_⟩:=zE7 p1
 obtain ⟨x2,rfl,w⟩:=zKB p2
 exact ⟨(x0,x1,x2),rfl,w⟩
theorem qTL {l:List Cl} {i:Nat} {e:List PV} (h:(l.map q8)[i]?=some e):∃c,l[i]?=some c∧e=q8 c:=by
 rw [List.getElem?_map] at h
 obtain ⟨c,h1,h2⟩:=Option.map_eq_some_iff.1 h
 exact ⟨c,h1,h2.symm⟩
def qLQ (s:ByteArray):Bool:=(qF8 s).2&&(decide (s.toList≠ [])&&((qF8 s).1.toList==s.toList))
def qML (l:List Cl) (i:Nat) (c:Cl):Bool:=match i with
 |0=>true
 |j+1=>match l[j]? with
  |some p=>qJY p.1 p.2.1 c.1 c.2.1
  |none=>true
def qKj (l:List Cl):Nat→List Cl→Bool
 |_,[]=>true
 |i,c::r=>qBI c.1 c.2.1&&(qLQ c.2.2&&qML l i c)&&qKj l (i+1) r
def qJA (l:List Cl):Bool:=qKj l 0 l&&decide ((l.length:Int)≤120)
theorem qS1 (s:ByteArray) (hb:s.size≤140737488355328):Ev (qDK · s) (qLQ s):=by
 obtain ⟨n1,h1⟩:=qPN s hb
 refine ⟨n1+1,fun n hn=>?_⟩
 obtain ⟨k,rfl,hm⟩:=up1 hn
 refine qA (h1 k (by omega)) ?_
 unfold qLQ
 by_cases h2:(qF8 s).2=true
 ·refine qD h2 ?_
  rw [h2,Bool.true_and]
  by_cases h3:s.toList= []
  ·refine qO (qAr (qQY h3)) ?_
   rw [qC,decide_eq_false (fun e=>e h3),Bool.false_and]
  ·refine qD (qCo (qFD h3)) ?_
   rw [qC,decide_eq_true h3,Bool.true_and]
 ·have h2:(qF8 s).2=false:=by rw [Bool.eq_false_iff];exact h2
  refine qO h2 ?_
  rw [qC,h2,Bool.false_and]
structure SrcAt (n:Nat) (c:Cl):Prop where
 r1:qAK n c.1 c.2.1=some (qBI c.1 c.2.1)
 r2:qBu n c.1 c.2.1=some (qBI c.1 c.2.1)
 i1:qEo n c.2.2=some (qF8 c.2.2)
 i2:qDK n c.2.2=some (qLQ c.2.2)
theorem qUV (c:Cl) (hb:c.2.2.size≤140737488351232):∃n0,∀n,n0≤n→SrcAt n c:=by
 obtain ⟨n1,h1⟩:=qCt c.1 c.2.1
 obtain ⟨n2,h2⟩:=qDO c.1 c.2.1
 obtain ⟨n3,h3⟩:=qPM c.2.2 (by omega)
 obtain ⟨n4,h4⟩:=qS1 c.2.2 (by omega)
 exact ⟨n1+n2+n3+n4,fun n hn=>⟨h1 n (by omega),h2 n (by omega),h3 n (by omega),h4 n (by omega)⟩⟩
theorem qSM:∀(l:List Cl),(∀c∈l,c.2.2.size≤140737488351232)→∃n0,∀n,n0≤n→∀c∈l,SrcAt n c
 | [],_=>⟨0,fun n _ c hc=>by cases hc⟩
 |a::l,h=>by
  obtain ⟨n1,h1⟩:=qUV a (h a (List.mem_cons_self ..))
  obtain ⟨n2,h2⟩:=qSM l fun c hc=>h c (List.mem_cons_of_mem _ hc)
  exact ⟨n1+n2,fun n hn c hc=>by
   rcases List.mem_cons.1 hc with rfl|hc
   ·exact h1 n (by omega)
   ·exact h2 n (by omega) c hc⟩
theorem qNG (n:Nat) (l:List Cl) (hb:l.length≤140737488351232) (hs:∀c∈l,SrcAt n c) (ha:∀a b c d,qDW n a b c d=some (qJY a b c d)):
  ∀(m i M:Nat),l.length=i+m→m+1≤M→zD (qEp n) M (l.map q8,(i:Int))=some (if qKj l i (l.drop i)=true then .inr () else .inl false)
 |m,i,0,h1,h2=>by omega
 |0,i,M+1,h1,h2=>by
  rw [List.drop_eq_nil_of_le (by omega)]
  exact qP (qO (decide_eq_false (show ¬((i:Int)<((l.map q8).length:Int)) by rw [List.length_map];omega)) rfl)
 |m+1,i,M+1,h1,h2=>by
  have hl:i<l.length:=by omega
  have hg:=List.getElem?_eq_getElem hl
  have hm:=List.getElem_mem hl
  rw [qDN hg]
  generalize l[i]=c at hg hm
  have S:=hs c hm
  have hw:IntKind.i64.wrap ((i:Int)+1)=((i+1:Nat):Int):=by rw [qT (by omega)];omega
  have g1:decide ((i:Int)<((l.map q8).length:Int))=true:=decide_eq_true (by rw [List.length_map];omega)
  have g2:decide (0≤(i:Int)∧(i:Int)<((l.map q8).length:Int))=true:=decide_eq_true ⟨by omega,by rw [List.length_map];omega⟩
  have g3:(l.map q8)[((i:Int)).toNat]?=some (q8 c):=by rw [Int.toNat_natCast,List.getElem?_map,hg];rfl
  have k3:decide ((q8 c).length=3)=true:=rfl
  have cs:zR (q8 c) 2=some c.2.2:=rfl
  have c0:zC .i64 (q8 c) 0=some c.1:=rfl
  have c1:zC .i64 (q8 c) 1=some c.2.1:=rfl
  have ih:=qNG n l hb hs ha m (i+1) M (by omega) (by omega)
  unfold qKj
  by_cases hR:qBI c.1 c.2.1=true
  rotate_left
  ·have hR:qBI c.1 c.2.1=false:=by rw [Bool.eq_false_iff];exact hR
   rw [hR,Bool.false_and,Bool.false_and,if_neg (by simp)]
   exact qP (qD g1 (qD g2 (qA g3 (qD k3 (qA cs (qA S.i1 (qD g2 (qA g3 (qD k3 (qA c0 (qA c1 (qA S.r1 (qD (qCo hR) rfl)))))))))))))
  rw [hR,Bool.true_and]
  by_cases hI:(qF8 c.2.2).2=true
  rotate_left
  ·have hI:(qF8 c.2.2).2=false:=by rw [Bool.eq_false_iff];exact hI
   have e:qLQ c.2.2=false:=by unfold qLQ;rw [hI];rfl
   rw [e,Bool.false_and,Bool.false_and,if_neg (by simp)]
   exact qP (qD g1 (qD g2 (qA g3 (qD k3 (qA cs (qA S.i1 (qD g2 (qA g3 (qD k3 (qA c0 (qA c1 (qA S.r1 (qO (qAr hR) (qD (qCo hI) rfl))))))))))))))
  by_cases hE:c.2.2.toList= []
  ·have e:qLQ c.2.2=false:=by unfold qLQ;rw [decide_eq_false (fun h=>h hE),Bool.false_and,Bool.and_false]
   rw [e,Bool.false_and,Bool.false_and,if_neg (by simp)]
   exact qP (qD g1 (qD g2 (qA g3 (qD k3 (qA cs (qA S.i1 (qD g2 (qA g3 (qD k3 (qA c0 (qA c1 (qA S.r1 (qO (qAr hR) (qO (qAr hI) (qD g2 (qA g3 (qD k3 (qA cs (qD (qQY hE) rfl)))))))))))))))))))
  by_cases hQ:(qF8 c.2.2).1.toList=c.2.2.toList
  rotate_left
  ·have e:qLQ c.2.2=false:=by unfold qLQ;rw [beq_eq_false_iff_ne.2 hQ,Bool.and_false,Bool.and_false]
   rw [e,Bool.false_and,Bool.false_and,if_neg (by simp)]
   exact qP (qD g1 (qD g2 (qA g3 (qD k3 (qA cs (qA S.i1 (qD g2 (qA g3 (qD k3 (qA c0 (qA c1 (qA S.r1 (qO (qAr hR) (qO (qAr hI) (qD g2 (qA g3 (qD k3 (qA cs (qO (qFD hE) (qD g2 (qA g3 (qD k3 (qA cs (qD (qCo (beq_eq_false_iff_ne.2 hQ)) rfl))))))))))))))))))))))))
  have e:qLQ c.2.2=true:=by unfold qLQ;rw [hI,decide_eq_true hE,beq_iff_eq.2 hQ];rfl
  rw [e,Bool.true_and]
  cases i with
  |zero=>
   rw [show qML l 0 c=true from rfl,Bool.true_and]
   rw [qU (v':=(l.map q8,((0+1:Nat):Int))) (by
    refine qD g1 (qD g2 (qA g3 (qD k3 (qA cs (qA S.i1 (qD g2 (qA g3 (qD k3 (qA c0 (qA c1 (qA S.r1 (qO (qAr hR) (qO (qAr hI) (qD g2 (qA g3 (qD k3 (qA cs (qO (qFD hE) (qD g2 (qA g3 (qD k3 (qA cs (qO (qAr (beq_iff_eq.2 hQ)) (qO rfl ?_))))))))))))))))))))))))
    rw [qC,hw])]
   exact ih
  |succ j=>
   have hj:j<l.length:=by omega
   have hgj:=List.getElem?_eq_getElem hj
   generalize l[j]=p at hgj
   have wj:IntKind.i64.wrap (((j+1:Nat):Int)-1)=(j:Int):=by rw [qT (by omega)];omega
   have a1:decide (((j+1:Nat):Int)>0)=true:=decide_eq_true (by omega)
   have j2:decide (0≤IntKind.i64.wrap (((j+1:Nat):Int)-1)∧IntKind.i64.wrap (((j+1:Nat):Int)-1)<((l.map q8).length:Int))=true:=decide_eq_true (by rw [wj,List.length_map];omega)
   have j3:(l.map q8)[(IntKind.i64.wrap (((j+1:Nat):Int)-1)).toNat]?=some (q8 p):=by rw [wj,Int.toNat_natCast,List.getElem?_map,hgj];rfl
   have p0:zC .i64 (q8 p) 0=some p.1:=rfl
   have p1:zC .i64 (q8 p) 1=some p.2.1:=rfl
   have h5:=ha p.1 p.2.1 c.1 c.2.1
   have ep:qML l (j+1) c=qJY p.1 p.2.1 c.1 c.2.1:=by unfold qML;simp only [hgj]
   rw [ep]
   by_cases hA:qJY p.1 p.2.1 c.1 c.2.1=true
   ·rw [hA,Bool.true_and]
    rw [qU (v':=(l.map q8,((j+1+1:Nat):Int))) (by
     refine qD g1 (qD g2 (qA g3 (qD k3 (qA cs (qA S.i1 (qD g2 (qA g3 (qD k3 (qA c0 (qA c1 (qA S.r1 (qO (qAr hR) (qO (qAr hI) (qD g2 (qA g3 (qD k3 (qA cs (qO (qFD hE) (qD g2 (qA g3 (qD k3 (qA cs (qO (qAr (beq_iff_eq.2 hQ)) (qD a1 (qD j2 (qA j3 (qD rfl (qA p0 (qA p1 (qD g2 (qA g3 (qD k3 (qA c0 (qA c1 (qA h5 (qO (qAr hA) ?_))))))))))))))))))))))))))))))))))))
     rw [qC,hw])]
    exact ih
   ·have hA:qJY p.1 p.2.1 c.1 c.2.1=false:=by rw [Bool.eq_false_iff];exact hA
    rw [hA,Bool.false_and,if_neg (by simp)]
    exact qP (qD g1 (qD g2 (qA g3 (qD k3 (qA cs (qA S.i1 (qD g2 (qA g3 (qD k3 (qA c0 (qA c1 (qA S.r1 (qO (qAr hR) (qO (qAr hI) (qD g2 (qA g3 (qD k3 (qA cs (qO (qFD hE) (qD g2 (qA g3 (qD k3 (qA cs (qO (qAr (beq_iff_eq.2 hQ)) (qD a1 (qD j2 (qA j3 (qD rfl (qA p0 (qA p1 (qD g2 (qA g3 (qD k3 (qA c0 (qA c1 (qA h5 (qD (qCo hA) rfl)))))))))))))))))))))))))))))))))))))
theorem qPO (l:List Cl) (hb:l.length≤140737488351232) (hs:∀c∈l,c.2.2.size≤140737488351232):Ev (qDX · (l.map q8)) (qJA l):=by
 obtain ⟨n1,h1⟩:=qSM l hs
 refine ⟨n1+l.length+3,fun n hn=>?_⟩
 obtain ⟨m,rfl,hm⟩:=up1 hn
 have ha:∀a b c d,qDW m a b c d=some (qJY a b c d):=fun a b c d=>by
  obtain ⟨q,rfl⟩:∃q,m=q+1:=⟨m-1,by omega⟩
  simp only [qDW,qGi,qC,qE,qG,qH,qJ,qK,Option.bind_some,qF,qM,qN]
  unfold qJY
  by_cases h:b<d
  ·simp [h]
  ·by_cases h':b=d
   ·subst h';simp
   ·simp [h,h']
 have h:=qNG m l hb (h1 m (by omega)) ha l.length 0 m (by omega) (by omega)
 simp only [Int.natCast_zero,List.drop_zero] at h
 unfold qJA
 by_cases h0:(l.length:Int)>120
 ·refine qD (decide_eq_true (by rw [List.length_map];exact h0)) ?_
  rw [qC,decide_eq_false (by omega),Bool.and_false]
 ·refine qO (decide_eq_false (by rw [List.length_map];exact h0)) (qA h ?_)
  rw [decide_eq_true (show (l.length:Int)≤120 by omega),Bool.and_true]
  cases qKj l 0 l<;>rfl
theorem qNH (n:Nat) (l:List Cl) (hb:l.length≤140737488351232) (hs:∀c∈l,SrcAt n c) (ha:∀p∈l,∀c∈l,qBm n p.1 p.2.1 c.1 c.2.1=some (qDH [qMD p.2.1 c.2.1,qMD p.1 c.1])):
  ∀(m i M:Nat),l.length=i+m→m+1≤M→zD (qE1 n) M (l.map q8,l.map q8,(l.length:Int),(i:Int))=some (if qKj l i (l.drop i)=true then .inr (l.map q8) else .inl false)
 |m,i,0,h1,h2=>by omega
 |0,i,M+1,h1,h2=>by
  rw [List.drop_eq_nil_of_le (by omega)]
  exact qP (qO (decide_eq_false (show ¬((i:Int)<(l.length:Int)) by omega)) rfl)
 |m+1,i,M+1,h1,h2=>by
  have hl:i<l.length:=by omega
  have hg:=List.getElem?_eq_getElem hl
  have hm:=List.getElem_mem hl
  rw [qDN hg]
  generalize l[i]=c at hg hm
  have S:=hs c hm
  have hw:IntKind.i64.wrap ((i:Int)+1)=((i+1:Nat):Int):=by rw [qT (by omega)];omega
  have g1:decide ((i:Int)<(l.length:Int))=true:=decide_eq_true (by omega)
  have g2:decide (0≤(i:Int)∧(i:Int)<((l.map q8).length:Int))=true:=decide_eq_true ⟨by omega,by rw [List.length_map];omega⟩
  have g3:(l.map q8)[((i:Int)).toNat]?=some (q8 c):=by rw [Int.toNat_natCast,List.getElem?_map,hg];rfl
  have k3:decide ((q8 c).length=3)=true:=rfl
  have cs:zR (q8 c) 2=some c.2.2:=rfl
  have c0:zC .i64 (q8 c) 0=some c.1:=rfl
  have c1:zC .i64 (q8 c) 1=some c.2.1:=rfl
  have ih:=qNH n l hb hs ha m (i+1) M (by omega) (by omega)
  unfold qKj
  by_cases hR:qBI c.1 c.2.1=true
  rotate_left
  ·have hR:qBI c.1 c.2.1=false:=by rw [Bool.eq_false_iff];exact hR
   rw [hR,Bool.false_and,Bool.false_and,if_neg (by simp)]
   exact qP (qD g1 (qD g2 (qA g3 (qD k3 (qA c0 (qA c1 (qA cs (qA S.r2 (qD (qCo hR) rfl)))))))))
  rw [hR,Bool.true_and]
  cases i with
  |zero=>
   rw [show qML l 0 c=true from rfl,Bool.and_true]
   by_cases hS:qLQ c.2.2=true
   ·rw [hS,Bool.true_and]
    rw [qU (v':=(l.map q8,l.map q8,(l.length:Int),((0+1:Nat):Int))) (by
     refine qD g1 (qD g2 (qA g3 (qD k3 (qA c0 (qA c1 (qA cs (qA S.r2 (qO (qAr hR) (qO rfl (qA S.i2 (qO (qAr hS) ?_)))))))))))
     rw [qC,hw])]
    exact ih
   ·have hS:qLQ c.2.2=false:=by rw [Bool.eq_false_iff];exact hS
    rw [hS,Bool.false_and,if_neg (by simp)]
    exact qP (qD g1 (qD g2 (qA g3 (qD k3 (qA c0 (qA c1 (qA cs (qA S.r2 (qO (qAr hR) (qO rfl (qA S.i2 (qD (qCo hS) rfl))))))))))))
  |succ j=>
   have hj:j<l.length:=by omega
   have hgj:=List.getElem?_eq_getElem hj
   have hmj:=List.getElem_mem hj
   generalize l[j]=p at hgj hmj
   have wj:IntKind.i64.wrap (((j+1:Nat):Int)-1)=(j:Int):=by rw [qT (by omega)];omega
   have a1:decide (((j+1:Nat):Int)>0)=true:=decide_eq_true (by omega)
   have j2:decide (0≤IntKind.i64.wrap (((j+1:Nat):Int)-1)∧IntKind.i64.wrap (((j+1:Nat):Int)-1)<((l.map q8).length:Int))=true:=decide_eq_true (by rw [wj,List.length_map];omega)
   have j3:(l.map q8)[(IntKind.i64.wrap (((j+1:Nat):Int)-1)).toNat]?=some (q8 p):=by rw [wj,Int.toNat_natCast,List.getElem?_map,hgj];rfl
   have p0:zC .i64 (q8 p) 0=some p.1:=rfl
   have p1:zC .i64 (q8 p) 1=some p.2.1:=rfl
   have h5:=ha p hmj c hm
   have h6:=qTn p.1 p.2.1 c.1 c.2.1
   have ep:qML l (j+1) c=qJY p.1 p.2.1 c.1 c.2.1:=by unfold qML;simp only [hgj]
   rw [ep]
   by_cases hA:qJY p.1 p.2.1 c.1 c.2.1=true
   ·rw [hA] at h6
    rw [hA,Bool.and_true]
    by_cases hS:qLQ c.2.2=true
    ·rw [hS,Bool.true_and]
     rw [qU (v':=(l.map q8,l.map q8,(l.length:Int),((j+1+1:Nat):Int))) (by
      refine qD g1 (qD g2 (qA g3 (qD k3 (qA c0 (qA c1 (qA cs (qA S.r2 (qO (qAr hR) (qD a1 (qD j2 (qA j3 (qD rfl (qA p0 (qA p1 (qA h5 (qO h6 (qA S.i2 (qO (qAr hS) ?_))))))))))))))))))
      rw [qC,hw])]
     exact ih
    ·have hS:qLQ c.2.2=false:=by rw [Bool.eq_false_iff];exact hS
     rw [hS,Bool.false_and,if_neg (by simp)]
     exact qP (qD g1 (qD g2 (qA g3 (qD k3 (qA c0 (qA c1 (qA cs (qA S.r2 (qO (qAr hR) (qD a1 (qD j2 (qA j3 (qD rfl (qA p0 (qA p1 (qA h5 (qO h6 (qA S.i2 (qD (qCo hS) rfl)))))))))))))))))))
   ·have hA:qJY p.1 p.2.1 c.1 c.2.1=false:=by rw [Bool.eq_false_iff];exact hA
    rw [hA] at h6
    rw [hA,Bool.and_false,Bool.false_and,if_neg (by simp)]
    exact qP (qD g1 (qD g2 (qA g3 (qD k3 (qA c0 (qA c1 (qA cs (qA S.r2 (qO (qAr hR) (qD a1 (qD j2 (qA j3 (qD rfl (qA p0 (qA p1 (qA h5 (qD h6 rfl)))))))))))))))))
theorem qPP (l:List Cl) (hb:l.length≤140737488351232) (hs:∀c∈l,c.2.2.size≤140737488351232):Ev (qDf · (l.map q8)) (qJA l):=by
 obtain ⟨n1,h1⟩:=qSM l hs
 obtain ⟨n3,h3⟩:=qAl (F:=fun (pc:Cl×Cl) n=>qBm n pc.1.1 pc.1.2.1 pc.2.1 pc.2.2.1) (f:=fun pc=>qDH [qMD pc.1.2.1 pc.2.2.1,qMD pc.1.1 pc.2.1]) (l.flatMap fun p=>l.map fun c=>(p,c)) fun pc _=>qLK pc.1.1 pc.1.2.1 pc.2.1 pc.2.2.1
 refine ⟨n1+n3+l.length+3,fun n hn=>?_⟩
 obtain ⟨m,rfl,hm⟩:=up1 hn
 have h:=qNH m l hb (h1 m (by omega)) (fun p hp c hc=>h3 m (by omega) (p,c) (List.mem_flatMap.2 ⟨p,hp,List.mem_map.2 ⟨c,hc,rfl⟩⟩)) l.length 0 m (by omega) (by omega)
 simp only [Int.natCast_zero,List.drop_zero] at h
 rw [show (l.length:Int)=((l.map q8).length:Int) by rw [List.length_map]] at h
 unfold qJA
 refine qA h ?_
 cases qKj l 0 l with
 |true=>
  rw [if_pos rfl,Bool.true_and]
  show some (decide (((l.map q8).length:Int)≤120))=_
  rw [List.length_map]
 |false=>rfl
theorem qQZ (n:Nat) (a b:Int) (s:ByteArray) (left:Int):∃r,qFS (n+1) a b s left=some r:=by
 simp only [qFS,qHe,qC,qE,qG,qH,qJ,qK,Option.bind_some,qF,qM,qN]
 by_cases h:IntKind.i64.wrap (left-s.size)<0
 ·exact ⟨-1,by simp [h]⟩
 ·exact ⟨IntKind.i64.wrap (left-s.size),by simp [h]⟩
theorem qPQ (l:List Cl) (hb:l.length≤140737488351232) (left:Int):∀n,l.length+5≤n→∃r,qEe n (l.map q8) left=some r:=by
 intro n hn
 obtain ⟨m,rfl,hm⟩:=up1 hn
 obtain ⟨q,rfl⟩:∃q,m=q+2:=⟨m-2,by omega⟩
 simp only [qEe,qGU,qC,qE,qG,qH,qJ,qK,Option.bind_some,qF,qM,qN]
 obtain ⟨r,h⟩:=qPT (B:=qB2 (q+2)) (rows:=l.map q8)
  (fun i e x he=>by
   obtain ⟨c,hc,rfl⟩:=qTL he
   have hi:i<l.length:=(List.getElem?_eq_some_iff.1 hc).1
   have hi':(i:Int)<l.length:=by omega
   have hw:IntKind.i64.wrap ((i:Int)+1)=(i:Int)+1:=qT (by omega)
   obtain ⟨r,hr⟩:=qQZ (q+1) c.1 c.2.1 c.2.2 x
   by_cases h0:r<0
   ·exact .inr ⟨.inl (-1),by simp [qB2,qC,qE,qG,qH,qJ,qK,Option.bind_some,qF,qM,qN,hi',hc,q8,zC,zR,hr,h0]⟩
   ·exact .inl ⟨r,by simp [qB2,qC,qE,qG,qH,qJ,qK,Option.bind_some,qF,qM,qN,hi',hc,q8,zC,zR,hr,h0,hw]⟩)
  (fun x=>⟨.inr x,by simp [qB2,qC,qE,qG,qH,qJ,qK,Option.bind_some,qF,qM,qN]⟩) l.length 0 (q+2) (IntKind.i64.wrap (left-l.length)) (by simp) (by omega)
 simp only [Int.natCast_zero] at h
 by_cases h0:IntKind.i64.wrap (left-l.length)<0
 ·exact ⟨-1,by simp [h0]⟩
 ·rcases r with r|r
  ·exact ⟨r,by simp [h0,h,qC,qE,qG,qH,qJ,qK,Option.bind_some,qF,qM,qN]⟩
  ·exact ⟨r,by simp [h0,h,qC,qE,qG,qH,qJ,qK,Option.bind_some,qF,qM,qN]⟩
theorem qQa (n:Nat) (a b:Int) (s:ByteArray):qFT (n+2) a b s=some (a,b,s):=by
 simp only [qFT,qHf,qIc,qIb,qC,qE,qG,qH,qJ,qK,Option.bind_some,qF,qM,qN]
theorem qPR (l:List Cl) (hb:l.length*32≤140737488351232):Ev (qEg · (l.map q8)) (l.length,l.map q8):=by
 refine ⟨l.length+5,fun n hn=>?_⟩
 obtain ⟨m,rfl,hm⟩:=up1 hn
 simp only [qEg,qGV,qC,qE,qG,qH,qJ,qK,Option.bind_some,qF,qM,qN]
 have h:=qMs (B:=qCa m) (rows:=l.map q8) (z:= [.i .i64 0,.i .i64 0,.s ⟨#[]⟩]) (r:=fun acc=>((l.map q8).length,acc)) (M:=m)
  (fun i acc e he ha hz=>by
   obtain ⟨c,hc,rfl⟩:=qTL he
   have hi:i<l.length:=(List.getElem?_eq_some_iff.1 hc).1
   have hi':(i:Int)<l.length:=by omega
   obtain ⟨q,rfl⟩:∃q,m=q+2:=⟨m-2,by omega⟩
   have hw:IntKind.i64.wrap ((i:Int)+1)=(i:Int)+1:=qT (by omega)
   have ha':acc.length=l.length:=by simpa using ha
   simp [qCa,qC,qE,qG,qH,qJ,qK,Option.bind_some,qF,qM,qN,hi',hc,q8,zC,zR,qQa,hz,ha',hw,zi])
  (fun acc ha=>by
   have ha':acc.length=l.length:=by simpa using ha
   simp [qCa,qC,qE,qG,qH,qJ,qK,Option.bind_some,qF,qM,qN])
  (by simp;omega)
 simp only [List.length_map,Int.toNat_natCast] at h⊢
 rw [h]
 have h1:(32:Int)*(l.length:Int)≤140737488355328:=by omega
 have h2:(l.length:Int)≤9223372036854775807:=by omega
 simp [qC,qE,qG,qH,qJ,qK,Option.bind_some,qF,qM,qN,h1,h2]
theorem qQb (n:Nat) (a b:Int) (s:ByteArray):qFa (n+2) a b s a b s=some true:=by
 simp only [qFa,qH0,qI1,qI0,qC,qE,qG,qH,qJ,qK,Option.bind_some,qF,qM,qN]
 simp [qC,qE,qG,qH,qJ,qK,Option.bind_some,qF,qM,qN]
theorem qPS (l:List Cl) (hb:l.length≤140737488351232):Ev (qE2 · (l.map q8) (l.map q8)) true:=by
 refine ⟨l.length+5,fun n hn=>?_⟩
 obtain ⟨m,rfl,hm⟩:=up1 hn
 simp only [qE2,qG2,qC,qE,qG,qH,qJ,qK,Option.bind_some,qF,qM,qN]
 have h:=qMt (B:=qCk m) (rows:=l.map q8) (r:= .inr ())
  (fun i e he=>by
   obtain ⟨c,hc,rfl⟩:=qTL he
   have hi:i<l.length:=(List.getElem?_eq_some_iff.1 hc).1
   have hi':(i:Int)<l.length:=by omega
   obtain ⟨q,rfl⟩:∃q,m=q+2:=⟨m-2,by omega⟩
   have hw:IntKind.i64.wrap ((i:Int)+1)=(i:Int)+1:=qT (by omega)
   simp [qCk,qC,qE,qG,qH,qJ,qK,Option.bind_some,qF,qM,qN,hi',hc,q8,zC,zR,qQb,hw])
  (by simp [qCk,qC,qE,qG,qH,qJ,qK,Option.bind_some,qF,qM,qN]) l.length 0 m (by simp) (by omega)
 simp only [Int.natCast_zero] at h
 simp [h,qC,qE,qG,qH,qJ,qK,Option.bind_some,qF,qM,qN]
def Fo (r:List UInt8):Prop:=∀c,r.head?=some c→c∈([38,43,45,42,47,60,61,62,41,44]:List UInt8)
def Sta (r:List UInt8):Prop:=∃c,r.head?=some c∧(wch c=true∨c=45∨c=40∨c=34∨c=35)
def lo (l:List Nd) (i:Int):Int:=qCu (qV l) (i.toNat+1) i
def tx (l:List Nd) (g:Nat) (i t:Int):List UInt8:=(qt l g i t).toList
structure RT (l:List Nd) (g:Nat) (i:Int):Prop where
 s:∀t,Sta (tx l g i t)
 c:∀(t:Int) (r:List UInt8),Fo r→∀d:UInt8,(d=58∨d=32)→(wr (tx l g i t++r)).head?≠some d
 u:∀(r:List UInt8) (deep:Int) (f:Nat),Fo r→0≤deep→deep+g≤400→20*(tx l g i 5++r).length+4≤f→pP f (.un deep) (tx l g i 5++r,false,l.take (lo l i).toNat)=(i,r,false,l.take (i.toNat+1))
 b:∀(t t':Int) (r:List UInt8) (deep:Int) (f:Nat),1≤t→t≤t'→t'≤5→Fo r→(qAs r=0∨lvl (qAs r)≤t')→0≤deep→deep+g≤400→20*(tx l g i t'++r).length+6≤f→
  ∃f2,20*r.length+5≤f2∧pP f (.bin t deep) (tx l g i t'++r,false,l.take (lo l i).toNat)=pP f2 (.loop t deep i) (r,false,l.take (i.toNat+1))
def Dwx {β:Type} (Q:β→Prop) (R:Nat→Tr β):Prop:=∃x,Q x∧Ev (fun n=>(R n).run) x
theorem qEb {α β:Type} {Q:β→Prop} {F:Nat→Option α} {r:α} {K:Nat→α→Tr β} (h:Ev F r) (hk:Dwx Q fun n=>K n r):Dwx Q fun n=> .opt (F n) (K n):=by
 obtain ⟨x,q,n1,h1⟩:=hk
 obtain ⟨n0,h0⟩:=h
 exact ⟨x,q,n0+n1,fun n hn=>qA (h0 n (by omega)) (h1 n (by omega))⟩
theorem qLR {β:Type} {Q:β→Prop} {b:Bool} {t e:Nat→Tr β} (h:b=true) (hk:Dwx Q t):Dwx Q fun n=> .ask b (t n) (e n):=by
 obtain ⟨x,q,n1,h1⟩:=hk
 exact ⟨x,q,n1,fun n hn=>qD h (h1 n hn)⟩
theorem qJB {β:Type} {Q:β→Prop} {b:Bool} {t e:Nat→Tr β} (h:b=false) (hk:Dwx Q e):Dwx Q fun n=> .ask b (t n) (e n):=by
 obtain ⟨x,q,n1,h1⟩:=hk
 exact ⟨x,q,n1,fun n hn=>qO h (h1 n hn)⟩
theorem qAw {β:Type} {Q:β→Prop} {x:β} (h:Q x):Dwx Q fun _=> .done x:=⟨x,h,0,fun _ _=>rfl⟩
theorem qHC {β:Type} {Q:β→Prop} {F:Nat→Option β} {R:Nat→Tr β} (h:Dwx Q R) (hF:∀n,F (n+1)=(R n).run):∃x,Q x∧Ev F x:=by
 obtain ⟨x,q,n1,h1⟩:=h
 refine ⟨x,q,n1+1,fun n hn=>?_⟩
 obtain ⟨m,rfl,hm⟩:=up1 hn
 rw [hF]
 exact h1 m hm
theorem qKk {β:Type} {F:Nat→Option β} {x:β} (h:∃y,y=x∧Ev F y):Ev F x:=by
 obtain ⟨y,rfl,h⟩:=h
 exact h
def qGK {α R:Type} (f:Nat→α→Option R):Nat→List α→Option R
 |_,[]=>none
 |i,a::r=>match f i a with
  |some x=>some x
  |none=>qGK f (i+1) r
theorem qSN {V R α:Type} {B:V→Tr (V⊕R)} (st:Nat→V) (l:List α) (f:Nat→α→Option R) (z:R) (hs:∀i a,l[i]?=some a→(B (st i)).run=some (match f i a with|some r=> .inr r|none=> .inl (st (i+1))))
  (he:(B (st l.length)).run=some (.inr z)):∀(M:Nat),l.length+1≤M→zD B M (st 0)=some ((qGK f 0 l).getD z):=by
 have key:∀(r:List α) (i M:Nat),l.drop i=r→i+r.length=l.length→r.length+1≤M→zD B M (st i)=some ((qGK f i r).getD z):=by
  intro r
  induction r with
  |nil=>
   intro i M h1 h2 h3
   obtain ⟨M,rfl⟩:∃q,M=q+1:=⟨M-1,by omega⟩
   have e:i=l.length:=by simpa using h2
   subst e
   rw [qP he]
   rfl
  |cons a r ih=>
   intro i M h1 h2 h3
   obtain ⟨M,rfl⟩:∃q,M=q+1:=⟨M-1,by omega⟩
   have hg:l[i]?=some a:=by rw [←List.head?_drop,h1];rfl
   have hd:l.drop (i+1)=r:=by rw [←List.tail_drop,h1];rfl
   have h4:=hs i a hg
   simp only [List.length_cons] at h2 h3
   unfold qGK
   cases hf:f i a with
   |some x=>rw [hf] at h4;rw [qP h4];rfl
   |none=>rw [hf] at h4;rw [qU h4];exact ih (i+1) M hd (by omega) (by omega)
 exact fun M h=>key l 0 M rfl (by omega) h
def qA8 {α:Type} (p:Nat→α→Bool):Nat→List α→Bool
 |_,[]=>true
 |i,a::r=>p i a&&qA8 p (i+1) r
theorem qFq {α R:Type} {p:Nat→α→Bool} {e:R}:∀{l:List α} {i:Nat},qGK (fun i a=>if p i a=true then none else some e) i l=if qA8 p i l=true then none else some e
 | [],i=>rfl
 |a::r,i=>by
  unfold qGK qA8
  cases p i a with
  |true=>simp only [if_true,Bool.true_and];exact qFq
  |false=>rfl
theorem qJC {i:Nat} {k:Int} {l:List (List PV)} {e:List PV} (hk:k=(i:Int)) (h:l[i]?=some e):decide (0≤k∧k<l.length)=true∧l[k.toNat]?=some e:=by
 subst hk
 have:=(List.getElem?_eq_some_iff.1 h).1
 exact ⟨decide_eq_true (by omega),by rw [Int.toNat_natCast];exact h⟩
theorem nb {a b:Int} (h:¬a=b):(a==b)=false:=beq_eq_false_iff_ne.2 h
theorem qOP {α β γ:Type} {Q:α→Prop} {x:γ} {K:Nat→β→Tr α} {L:Nat→γ→Tr α} (h:Dwx Q fun n=>L n x):Dwx Q fun n=> .alt (Sum.inr x) (K n) (L n):=h
theorem qOQ {α β γ:Type} {Q:α→Prop} {x:β} {K:Nat→β→Tr α} {L:Nat→γ→Tr α} (h:Dwx Q fun n=>K n x):Dwx Q fun n=> .alt (Sum.inl x) (K n) (L n):=h
def plB (c:Nd):Bool:=if c.1=2 then qBI c.2.2.2.2.2.1 c.2.2.2.2.2.2.1 else if c.1=3 then qF5 c.2.2.2.2.2.1 c.2.2.2.2.2.2.1 c.2.2.2.2.2.2.2.2.2.1 c.2.2.2.2.2.2.2.2.2.2.1 else true
structure PlaceCh (f:Nd→Nd):Prop where
 k:∀c,(f c).1=c.1
 n:∀c,qFA c=true→c.1=2∨c.1=3→qFA (f c)=plB (f c)
 kd:∀c,kd (f c)=kd c
abbrev Vs:=Int×List Int×List Cl
def qAt (v:Vs):List PV:= [.i .i64 v.1,.ls (v.2.1.map q9),.ls (v.2.2.map q8)]
abbrev Br:=ByteArray×Int
def qA1 (b:Br):List PV:= [.s b.1,.i .i64 b.2]
def qNI (v:Vs):Prop:=v.2.1.length*8≤140737488351232∧v.2.2.length*32≤140737488351232∧∀c∈v.2.2,c.2.2.size≤140737488351232
theorem qU1 {rows:List (List PV)} (h:∀e∈rows,okR [.i .i64,.sl 8 [.i .i64],.sl 32 [.i .i64,.i .i64,.s]] e):∃l:List Vs,rows=l.map qAt∧∀v∈l,qNI v:=by
 refine qKS (fun e h=>?_) h
 obtain ⟨c0,t0,rfl,p0,h0⟩:=zAA h
 obtain ⟨c1,t1,rfl,p1,h1⟩:=zAA h0
 obtain ⟨c2,t2,rfl,p2,h2⟩:=zAA h1
 obtain rfl:=zCj h2
 obtain ⟨x0,rfl,w0⟩:=zE7 p0
 obtain ⟨x1,rfl,w1⟩:=zFX p1
 obtain ⟨x2,rfl,w2⟩:=zFX p2
 obtain ⟨ks,rfl,_⟩:=qKS (enc:=q9) (P:=fun _=>True) (fun e h=>by
  obtain ⟨a,t,rfl,p,h⟩:=zAA h
  obtain rfl:=zCj h
  obtain ⟨y,rfl,_⟩:=zE7 p
  exact ⟨y,rfl,trivial⟩) w1.2
 obtain ⟨cs,rfl,hs⟩:=qU0 w2.2
 exact ⟨(x0,ks,cs),rfl,by simpa using w1.1,by simpa using w2.1,hs⟩
theorem qU2 {rows:List (List PV)} (h:∀e∈rows,okR [.s,.i .i64] e):∃l:List Br,rows=l.map qA1∧∀b∈l,b.1.size≤140737488351232:=by
 refine qKS (fun e h=>?_) h
 obtain ⟨c0,t0,rfl,p0,h0⟩:=zAA h
 obtain ⟨c1,t1,rfl,p1,h1⟩:=zAA h0
 obtain rfl:=zCj h1
 obtain ⟨x0,rfl,w0⟩:=zKB p0
 obtain ⟨x1,rfl,w1⟩:=zE7 p1
 exact ⟨(x0,x1),rfl,w0⟩
theorem qOR {α:Type} {enc:α→List PV} {l:List α} {i:Nat} {e:List PV} (h:(l.map enc)[i]?=some e):∃c,l[i]?=some c∧e=enc c:=by
 rw [List.getElem?_map] at h
 obtain ⟨c,h1,h2⟩:=Option.map_eq_some_iff.1 h
 exact ⟨c,h1,h2.symm⟩
theorem qNJ {α:Type} {enc:α→List PV} {l:List α} {i:Nat} {a:α} (h:l[i]?=some a):(l.map enc)[i]?=some (enc a):=by rw [List.getElem?_map,h];rfl
theorem qSO (v:Vs) (h:qNI v):Ev (qDl · v.1 (v.2.1.map q9) (v.2.2.map q8)) (v.1,v.2.1.map q9,v.2.2.map q8):=by
 refine qKk (qHC (R:=fun n=>qFG n v.1 (v.2.1.map q9) (v.2.2.map q8)) (qEb ⟨_,qN9 v.2.1 h.1⟩ (qEb (qPR v.2.2 h.2.1) (qLR (decide_eq_true (by simp)) (qLR (decide_eq_true (by simp)) (qAw rfl))))) fun n=>rfl)
theorem qRB (l:List Vs) (hb:l.length*56≤140737488351232) (hv:∀v∈l,qNI v):Ev (qDR · (l.map qAt)) (l.length,l.map qAt):=by
 obtain ⟨n0,h0⟩:=qAl (F:=fun (v:Vs) n=>qDl n v.1 (v.2.1.map q9) (v.2.2.map q8)) (f:=fun v=>(v.1,v.2.1.map q9,v.2.2.map q8)) l fun v h=>qSO v (hv v h)
 refine ⟨n0+l.length+5,fun n hn=>?_⟩
 obtain ⟨m,rfl,hm⟩:=up1 hn
 simp only [qDR,qEh,qC,qE,qG,qH,qJ,qK,Option.bind_some,qF,qM,qN]
 have h:=qMs (B:=qBy m) (rows:=l.map qAt) (z:= [.i .i64 0,.nl,.nl]) (r:=fun acc=>((l.map qAt).length,acc)) (M:=m)
  (fun i acc e he ha hz=>by
   obtain ⟨c,hc,rfl⟩:=qOR he
   have hi:i<l.length:=(List.getElem?_eq_some_iff.1 hc).1
   have hi':(i:Int)<l.length:=by omega
   have hw:IntKind.i64.wrap ((i:Int)+1)=(i:Int)+1:=qT (by omega)
   have ha':acc.length=l.length:=by simpa using ha
   have hf:=h0 m (by omega) c (List.mem_of_getElem? hc)
   simp [qBy,qC,qE,qG,qH,qJ,qK,Option.bind_some,qF,qM,qN,hi',hc,qAt,zC,zd,hf,hz,ha',hw,zi])
  (fun acc ha=>by
   have ha':acc.length=l.length:=by simpa using ha
   simp [qBy,qC,qE,qG,qH,qJ,qK,Option.bind_some,qF,qM,qN])
  (by simp;omega)
 simp only [List.length_map,Int.toNat_natCast] at h⊢
 rw [h]
 have h1:(56:Int)*(l.length:Int)≤140737488355328:=by omega
 have h2:(l.length:Int)≤9223372036854775807:=by omega
 simp [qC,qE,qG,qH,qJ,qK,Option.bind_some,qF,qM,qN,h1,h2]
theorem qSP (l:List Br) (hb:l.length*24≤140737488351232):Ev (qDm · (l.map qA1)) (l.length,l.map qA1):=by
 refine ⟨l.length+5,fun n hn=>?_⟩
 obtain ⟨m,rfl,hm⟩:=up1 hn
 simp only [qDm,qFH,qC,qE,qG,qH,qJ,qK,Option.bind_some,qF,qM,qN]
 have h:=qMs (B:=qB5 m) (rows:=l.map qA1) (z:= [.s ⟨#[]⟩,.i .i64 0]) (r:=fun acc=>((l.map qA1).length,acc)) (M:=m)
  (fun i acc e he ha hz=>by
   obtain ⟨c,hc,rfl⟩:=qOR he
   have hi:i<l.length:=(List.getElem?_eq_some_iff.1 hc).1
   have hi':(i:Int)<l.length:=by omega
   have hw:IntKind.i64.wrap ((i:Int)+1)=(i:Int)+1:=qT (by omega)
   have ha':acc.length=l.length:=by simpa using ha
   obtain ⟨q,rfl⟩:∃q,m=q+2:=⟨m-2,by omega⟩
   have hf:∀a b,qFu (q+2) a b=some (a,b):=fun a b=>rfl
   simp [qB5,qC,qE,qG,qH,qJ,qK,Option.bind_some,qF,qM,qN,hi',hc,qA1,zC,zR,hf,hz,ha',hw,zi])
  (fun acc ha=>by
   have ha':acc.length=l.length:=by simpa using ha
   simp [qB5,qC,qE,qG,qH,qJ,qK,Option.bind_some,qF,qM,qN])
  (by simp;omega)
 simp only [List.length_map,Int.toNat_natCast] at h⊢
 rw [h]
 have h1:(24:Int)*(l.length:Int)≤140737488355328:=by omega
 have h2:(l.length:Int)≤9223372036854775807:=by omega
 simp [qC,qE,qG,qH,qJ,qK,Option.bind_some,qF,qM,qN,h1,h2]
theorem qUW (x:Int) (l:List Vs) (b:List Br) (hl:l.length*56≤140737488351232) (hv:∀v∈l,qNI v) (hb:b.length*24≤140737488351232):Ev (qEi · x (l.map qAt) (b.map qA1)) (x,l.map qAt,b.map qA1):=by
 refine qKk (qHC (R:=fun n=>qId n x (l.map qAt) (b.map qA1)) (qEb (qRB l hl hv) (qEb (qSP b hb) (qLR (decide_eq_true (by simp)) (qLR (decide_eq_true (by simp)) (qAw rfl))))) fun n=>rfl)
theorem qSQ (v:Vs) (h:qNI v):∀n,v.2.2.length+8≤n→∀left,∃r,qDj n v.1 (v.2.1.map q9) (v.2.2.map q8) left=some r:=by
 intro n hn left
 obtain ⟨m,rfl,hm⟩:=up1 hn
 obtain ⟨q,rfl⟩:∃q,m=q+1:=⟨m-1,by omega⟩
 obtain ⟨r,h1⟩:=qN8 q (v.2.1.map q9) left
 obtain ⟨r2,h2⟩:=qPQ v.2.2 (by have:=h.2.1;omega) r (q+1) (by omega)
 simp only [qDj,qFE,qC,qE,qG,qH,qJ,qK,Option.bind_some,qF,qM,qN,h1,h2]
 by_cases h0:r<0
 ·exact ⟨-1,by simp [h0]⟩
 ·by_cases h3:r2<0
  ·exact ⟨-1,by simp [h0,h3]⟩
  ·exact ⟨r2,by simp [h0,h3]⟩
theorem qUX:∀(l:List Vs),∃M,∀v∈l,v.2.2.length+8≤M∧v.2.1.length+8≤M
 | []=>⟨0,fun v h=>by cases h⟩
 |a::l=>by
  obtain ⟨M,h⟩:=qUX l
  refine ⟨M+a.2.2.length+a.2.1.length+8,fun v hv=>?_⟩
  rcases List.mem_cons.1 hv with rfl|hv
  ·omega
  ·have:=h v hv
   omega
theorem qRC (l:List Vs) (hb:l.length≤140737488351232) (hv:∀v∈l,qNI v):∃n0,∀n,n0≤n→∀left,∃r,qDQ n (l.map qAt) left=some r:=by
 obtain ⟨M,hM⟩:=qUX l
 refine ⟨M+l.length+5,fun n hn left=>?_⟩
 obtain ⟨m,rfl,hm⟩:=up1 hn
 simp only [qDQ,qEf,qC,qE,qG,qH,qJ,qK,Option.bind_some,qF,qM,qN]
 obtain ⟨r,h⟩:=qPT (B:=qBO m) (rows:=l.map qAt)
  (fun i e x he=>by
   obtain ⟨c,hc,rfl⟩:=qOR he
   have hi:i<l.length:=(List.getElem?_eq_some_iff.1 hc).1
   have hi':(i:Int)<l.length:=by omega
   have hw:IntKind.i64.wrap ((i:Int)+1)=(i:Int)+1:=qT (by omega)
   have hmem:=List.mem_of_getElem? hc
   obtain ⟨r,hr⟩:=qSQ c (hv c hmem) m (by have:=(hM c hmem).1;omega) x
   by_cases h0:r<0
   ·exact .inr ⟨.inl (-1),by simp [qBO,qC,qE,qG,qH,qJ,qK,Option.bind_some,qF,qM,qN,hi',hc,qAt,zC,zd,hr,h0]⟩
   ·exact .inl ⟨r,by simp [qBO,qC,qE,qG,qH,qJ,qK,Option.bind_some,qF,qM,qN,hi',hc,qAt,zC,zd,hr,h0,hw]⟩)
  (fun x=>⟨.inr x,by simp [qBO,qC,qE,qG,qH,qJ,qK,Option.bind_some,qF,qM,qN]⟩) l.length 0 m (IntKind.i64.wrap (left-l.length)) (by simp) (by omega)
 simp only [Int.natCast_zero] at h
 by_cases h0:IntKind.i64.wrap (left-l.length)<0
 ·exact ⟨-1,by simp [h0]⟩
 ·rcases r with r|r
  ·exact ⟨r,by simp [h0,h,qC,qE,qG,qH,qJ,qK,Option.bind_some,qF,qM,qN]⟩
  ·exact ⟨r,by simp [h0,h,qC,qE,qG,qH,qJ,qK,Option.bind_some,qF,qM,qN]⟩
theorem qS2 (n:Nat) (a:ByteArray) (b left:Int):∃r,qEB (n+1) a b left=some r:=by
 simp only [qEB,qFs,qC,qE,qG,qH,qJ,qK,Option.bind_some,qF,qM,qN]
 by_cases h:IntKind.i64.wrap (left-a.size)<0
 ·exact ⟨-1,by simp [h]⟩
 ·exact ⟨IntKind.i64.wrap (left-a.size),by simp [h]⟩
theorem qSR (l:List Br) (hb:l.length≤140737488351232) (left:Int):∀n,l.length+5≤n→∃r,qDk n (l.map qA1) left=some r:=by
 intro n hn
 obtain ⟨m,rfl,hm⟩:=up1 hn
 obtain ⟨q,rfl⟩:∃q,m=q+2:=⟨m-2,by omega⟩
 simp only [qDk,qFF,qC,qE,qG,qH,qJ,qK,Option.bind_some,qF,qM,qN]
 obtain ⟨r,h⟩:=qPT (B:=qBd (q+2)) (rows:=l.map qA1)
  (fun i e x he=>by
   obtain ⟨c,hc,rfl⟩:=qOR he
   have hi:i<l.length:=(List.getElem?_eq_some_iff.1 hc).1
   have hi':(i:Int)<l.length:=by omega
   have hw:IntKind.i64.wrap ((i:Int)+1)=(i:Int)+1:=qT (by omega)
   obtain ⟨r,hr⟩:=qS2 (q+1) c.1 c.2 x
   by_cases h0:r<0
   ·exact .inr ⟨.inl (-1),by simp [qBd,qC,qE,qG,qH,qJ,qK,Option.bind_some,qF,qM,qN,hi',hc,qA1,zC,zR,hr,h0]⟩
   ·exact .inl ⟨r,by simp [qBd,qC,qE,qG,qH,qJ,qK,Option.bind_some,qF,qM,qN,hi',hc,qA1,zC,zR,hr,h0,hw]⟩)
  (fun x=>⟨.inr x,by simp [qBd,qC,qE,qG,qH,qJ,qK,Option.bind_some,qF,qM,qN]⟩) l.length 0 (q+2) (IntKind.i64.wrap (left-l.length)) (by simp) (by omega)
 simp only [Int.natCast_zero] at h
 by_cases h0:IntKind.i64.wrap (left-l.length)<0
 ·exact ⟨-1,by simp [h0]⟩
 ·rcases r with r|r
  ·exact ⟨r,by simp [h0,h,qC,qE,qG,qH,qJ,qK,Option.bind_some,qF,qM,qN]⟩
  ·exact ⟨r,by simp [h0,h,qC,qE,qG,qH,qJ,qK,Option.bind_some,qF,qM,qN]⟩
theorem qUY (x:Int) (l:List Vs) (b:List Br) (hl:l.length≤140737488351232) (hv:∀v∈l,qNI v) (hb:b.length≤140737488351232) (left:Int):∃n0,∀n,n0≤n→∃r,qGL n x (l.map qAt) (b.map qA1) left=some r:=by
 obtain ⟨n0,h0⟩:=qRC l hl hv
 refine ⟨n0+b.length+8,fun n hn=>?_⟩
 obtain ⟨m,rfl,hm⟩:=up1 hn
 obtain ⟨r,h1⟩:=h0 m (by omega) left
 obtain ⟨r2,h2⟩:=qSR b hb r m (by omega)
 simp only [qGL,qIa,qC,qE,qG,qH,qJ,qK,Option.bind_some,qF,qM,qN,h1,h2]
 by_cases h0:r<0
 ·exact ⟨-1,by simp [h0]⟩
 ·by_cases h3:r2<0
  ·exact ⟨-1,by simp [h0,h3]⟩
  ·exact ⟨r2,by simp [h0,h3]⟩
theorem qSS (v:Vs) (h:qNI v):Ev (qDr · v.1 (v.2.1.map q9) (v.2.2.map q8) v.1 (v.2.1.map q9) (v.2.2.map q8)) true:=by
 refine qKk (qHC (R:=fun n=>qFM n v.1 (v.2.1.map q9) (v.2.2.map q8) v.1 (v.2.1.map q9) (v.2.2.map q8)) (qJB (by simp) (qEb ⟨_,qOA v.2.1 (by have:=h.1;omega)⟩ (qJB rfl (qEb (qPS v.2.2 (by have:=h.2.1;omega)) (qJB rfl (qAw rfl)))))) fun n=>rfl)
theorem qRD (l:List Vs) (hb:l.length≤140737488351232) (hv:∀v∈l,qNI v):Ev (qDS · (l.map qAt) (l.map qAt)) true:=by
 obtain ⟨n0,h0⟩:=qAl (F:=fun (v:Vs) n=>qDr n v.1 (v.2.1.map q9) (v.2.2.map q8) v.1 (v.2.1.map q9) (v.2.2.map q8)) (f:=fun v=>true) l fun v h=>qSS v (hv v h)
 refine ⟨n0+l.length+5,fun n hn=>?_⟩
 obtain ⟨m,rfl,hm⟩:=up1 hn
 simp only [qDS,qE3,qC,qE,qG,qH,qJ,qK,Option.bind_some,qF,qM,qN]
 have h:=qMt (B:=qB0 m) (rows:=l.map qAt) (r:= .inr ())
  (fun i e he=>by
   obtain ⟨c,hc,rfl⟩:=qOR he
   have hi:i<l.length:=(List.getElem?_eq_some_iff.1 hc).1
   have hi':(i:Int)<l.length:=by omega
   have hw:IntKind.i64.wrap ((i:Int)+1)=(i:Int)+1:=qT (by omega)
   have hf:=h0 m (by omega) c (List.mem_of_getElem? hc)
   simp [qB0,qC,qE,qG,qH,qJ,qK,Option.bind_some,qF,qM,qN,hi',hc,qAt,zC,zd,hf,hw])
  (by simp [qB0,qC,qE,qG,qH,qJ,qK,Option.bind_some,qF,qM,qN]) l.length 0 m (by simp) (by omega)
 simp only [Int.natCast_zero] at h
 simp [h,qC,qE,qG,qH,qJ,qK,Option.bind_some,qF,qM,qN]
theorem qST (l:List Br) (hb:l.length≤140737488351232):Ev (qDs · (l.map qA1) (l.map qA1)) true:=by
 refine ⟨l.length+5,fun n hn=>?_⟩
 obtain ⟨m,rfl,hm⟩:=up1 hn
 simp only [qDs,qFN,qC,qE,qG,qH,qJ,qK,Option.bind_some,qF,qM,qN]
 have h:=qMt (B:=qCA m) (rows:=l.map qA1) (r:= .inr ())
  (fun i e he=>by
   obtain ⟨c,hc,rfl⟩:=qOR he
   have hi:i<l.length:=(List.getElem?_eq_some_iff.1 hc).1
   have hi':(i:Int)<l.length:=by omega
   have hw:IntKind.i64.wrap ((i:Int)+1)=(i:Int)+1:=qT (by omega)
   obtain ⟨q,rfl⟩:∃q,m=q+2:=⟨m-2,by omega⟩
   have hf:∀a b,qEM (q+2) a b a b=some true:=fun a b=>by simp [qEM,qF3,qC,qE,qG,qH,qJ,qK,Option.bind_some,qF,qM,qN]
   simp [qCA,qC,qE,qG,qH,qJ,qK,Option.bind_some,qF,qM,qN,hi',hc,qA1,zC,zR,hf,hw])
  (by simp [qCA,qC,qE,qG,qH,qJ,qK,Option.bind_some,qF,qM,qN]) l.length 0 m (by simp) (by omega)
 simp only [Int.natCast_zero] at h
 simp [h,qC,qE,qG,qH,qJ,qK,Option.bind_some,qF,qM,qN]
theorem qUZ (x:Int) (l:List Vs) (b:List Br) (hl:l.length≤140737488351232) (hv:∀v∈l,qNI v) (hb:b.length≤140737488351232):Ev (qI3 · x (l.map qAt) (b.map qA1) x (l.map qAt) (b.map qA1)) true:=by
 refine qKk (qHC (R:=fun n=>qI2 n x (l.map qAt) (b.map qA1) x (l.map qAt) (b.map qA1)) (qJB (by simp) (qEb (qRD l hl hv) (qJB rfl (qEb (qST b hb) (qJB rfl (qAw rfl)))))) fun n=>rfl)
def qIX {α:Type} (p:α→Bool) (l:List α):Int:=(qGK (fun i a=>if p a=true then some (i:Int) else none) 0 l).getD (-1)
theorem qS3 {α:Type} (p:α→Bool):∀(l:List α) (i:Nat),(l.any p=true∧∃k:Nat,qGK (fun i a=>if p a=true then some (i:Int) else none) i l=some (k:Int))∨(l.any p=false∧qGK (fun i a=>if p a=true then some (i:Int) else none) i l=none)
 | [],i=> .inr ⟨rfl,rfl⟩
 |a::l,i=>by
  unfold qGK
  rw [List.any_cons]
  cases p a with
  |true=>exact .inl ⟨rfl,i,rfl⟩
  |false=>exact qS3 p l (i+1)
theorem qUa {α:Type} (p:α→Bool) (l:List α):decide (qIX p l<0)=!(l.any p):=by
 unfold qIX
 rcases qS3 p l 0 with ⟨e1,k,e2⟩|⟨e1,e2⟩
 ·rw [e1,e2]
  exact decide_eq_false (show ¬(k:Int)<0 by omega)
 ·rw [e1,e2]
  rfl
theorem qS4 {α:Type} (p:α→Bool):∀(l:List α) (i:Nat),qGK (fun i a=>if p a=true then some (Sum.inl (β:=Unit) (i:Int)) else none) i l=(qGK (fun i a=>if p a=true then some (i:Int) else none) i l).map Sum.inl
 | [],i=>rfl
 |a::l,i=>by
  unfold qGK
  cases p a with
  |true=>rfl
  |false=>exact qS4 p l (i+1)
theorem qTk {α:Type} (p:α→Bool) {l:List α} {K1:Nat→Int→Tr Int} {K2:Nat→Unit→Tr Int} {F:Nat→Option (Int⊕Unit)} (hF:Ev F ((qGK (fun i a=>if p a=true then some (Sum.inl (β:=Unit) (i:Int)) else none) 0 l).getD (.inr ()))) (h1:∀n r,K1 n r= .done r) (h2:∀n r,K2 n r= .done (-1)):Dwx (fun y=>y=qIX p l) fun n=> .opt (F n) fun r=> .alt r (K1 n) (K2 n):=by
 refine qEb hF ?_
 rw [qS4]
 unfold qIX
 cases qGK (fun i a=>if p a=true then some (i:Int) else none) 0 l with
 |some k=>exact qOQ (by simp only [h1];exact qAw rfl)
 |none=>exact qOP (by simp only [h2];exact qAw rfl)
theorem qQc (x:Int) (l:List Vs) (b:List (List PV)) (hl:l.length≤140737488351232) (id:Int):Ev (qCN · x (l.map qAt) b id) (qIX (fun v=>v.1==id) l):=by
 refine qKk (qHC (R:=fun n=>qGj n x (l.map qAt) b id) (qTk (fun v:Vs=>v.1==id) (l:=l) ⟨l.length+1,fun m hm=>?_⟩ (fun _ _=>rfl) fun _ _=>rfl) fun n=>rfl)
 have h:=qSN (B:=qEq m) (fun i=>(id,(i:Int),x,l.map qAt,b)) l (fun i v=>if (v.1==id)=true then some (Sum.inl (β:=Unit) (i:Int)) else none) (.inr ())
  (fun i c he=>by
   have hi:=(List.getElem?_eq_some_iff.1 he).1
   obtain ⟨a1,a2⟩:=qJC rfl (qNJ (enc:=qAt) he)
   have w:IntKind.i64.wrap ((i:Int)+1)=((i+1:Nat):Int):=by rw [qT (by omega)];omega
   refine qD (decide_eq_true (by simpa using hi)) (qD a1 (qA a2 (qD rfl (qA rfl ?_))))
   by_cases hc:(c.1==id)=true
   ·rw [if_pos hc];exact qD hc rfl
   ·rw [if_neg hc]
    refine qO (Bool.eq_false_iff.2 hc) ?_
    dsimp only
    rw [w]
    rfl)
  (qO (decide_eq_false (by simp)) rfl) m (by omega)
 exact h
theorem qQd (x:Int) (l:List Vs) (b:List (List PV)) (hl:l.length≤140737488351232) (id:Int):Ev (qBL · x (l.map qAt) b id) (qIX (fun v=>v.1==id) l):=by
 refine qKk (qHC (R:=fun n=>qEP n x (l.map qAt) b id) (qEb (r:=qIX (fun v:Vs=>v.1==id) l) (qKk (qHC (F:=fun n=>ql n (l.map qAt) id) (R:=fun n=>qk n (l.map qAt) id) (qTk (fun v:Vs=>v.1==id) (l:=l) ⟨l.length+2,fun m hm=>?_⟩ (fun _ _=>rfl) fun _ _=>rfl) fun n=>rfl)) (qAw rfl)) fun n=>rfl)
 obtain ⟨q,rfl⟩:∃q,m=q+1:=⟨m-1,by omega⟩
 have h:=qSN (B:=qf (q+1)) (fun i=>(l.map qAt,id,((l.map qAt).length:Int),(i:Int))) l (fun i v=>if (v.1==id)=true then some (Sum.inl (β:=Unit) (i:Int)) else none) (.inr ())
  (fun i c he=>by
   have hi:=(List.getElem?_eq_some_iff.1 he).1
   obtain ⟨a1,a2⟩:=qJC rfl (qNJ (enc:=qAt) he)
   have w:IntKind.i64.wrap ((i:Int)+1)=((i+1:Nat):Int):=by rw [qT (by omega)];omega
   refine qD (decide_eq_true (by simpa using hi)) (qD a1 (qA a2 (qD rfl (qA rfl (qA rfl (qA rfl (qA (rfl:_=some (c.1==id)) ?_)))))))
   by_cases hc:(c.1==id)=true
   ·rw [if_pos hc];exact qD hc rfl
   ·rw [if_neg hc]
    refine qO (Bool.eq_false_iff.2 hc) ?_
    dsimp only
    rw [w]
    rfl)
  (qO (decide_eq_false (by simp)) rfl) (q+1) (by omega)
 exact h
def qIY {α:Type} (r:α→α→Bool) (l:List α):Nat→α→Bool
 |0,_=>true
 |j+1,a=>match l[j]? with
  |some p=>r p a
  |none=>true
def ltI (p a:Int):Bool:=decide (p<a)
def ltV (p a:Vs):Bool:=decide (p.1<a.1)
def ltB (p a:Br):Bool:=Op.bytesLess p.1.toList a.1.toList
def qTM (l:List Vs) (id:Int):Bool:=l.any fun v=>v.1==id
def upP (l:List Vs) (id:Int) (ups:List Int) (i:Nat) (up:Int):Bool:=decide (up<id)&&(qTM l up&&qIY ltI ups i up)
def qS5 (l:List Vs) (id:Int) (ups:List Int):Bool:=qA8 (upP l id ups) 0 ups
def qOS (x:Int) (l:List Vs) (i:Nat) (v:Vs):Bool:=decide (1≤v.1∧v.1≤x-1)&&(qIY ltV l i v&&((qS5 l v.1 v.2.1&&decide ((v.2.1.length:Int)≤2))&&qJA v.2.2))
def zA5 (c:UInt8):Bool:=decide (97≤c.toNat∧c.toNat≤122)
def qNK (s:ByteArray):Bool:=decide (1≤s.size∧s.size≤12)&&s.toList.all zA5
def brP (l:List Vs) (bs:List Br) (i:Nat) (b:Br):Bool:=qNK b.1&&(qIY ltB bs i b&&qTM l b.2)
def qU3 (x:Int) (l:List Vs) (bs:List Br):Bool:=decide (2≤x∧x≤1000000000)&&(decide (1≤(l.length:Int)∧(l.length:Int)≤40)&&(decide (1≤(bs.length:Int)∧(bs.length:Int)≤8)&&(qA8 (qOS x l) 0 l&&qA8 (brP l bs) 0 bs)))
theorem qPW (l:List Vs) (id:Int):decide (qIX (fun v=>v.1==id) l<0)=!(qTM l id):=qUa _ _
theorem qU4 {α R:Type} {p:Nat→α→Bool} {e:R} {f:Nat→α→Option R} (h:∀i a,f i a=if p i a=true then none else some e) (l:List α):qGK f 0 l=if qA8 p 0 l=true then none else some e:=by
 rw [show f=fun i a=>if p i a=true then none else some e from funext fun i=>funext fun a=>h i a]
 exact qFq
theorem qU5 {j:Nat} {l:List (List PV)} {e:List PV} (hj:(j:Int)<140737488355328) (h:l[j]?=some e):decide (0≤IntKind.i64.wrap (((j+1:Nat):Int)-1)∧IntKind.i64.wrap (((j+1:Nat):Int)-1)<l.length)=true∧l[(IntKind.i64.wrap (((j+1:Nat):Int)-1)).toNat]?=some e:=by
 have w:IntKind.i64.wrap (((j+1:Nat):Int)-1)=(j:Int):=by rw [qT (by omega)];omega
 exact qJC w h
theorem qT2 {α:Type} {l:List α} {j:Nat} {a:α} (h:l[j+1]?=some a):∃p,l[j]?=some p:=by
 have:=(List.getElem?_eq_some_iff.1 h).1
 exact ⟨l[j],List.getElem?_eq_getElem (by omega)⟩
theorem qUb {α:Type} {r:α→α→Bool} {l:List α} {j:Nat} {a p:α} (h:l[j]?=some p):qIY r l (j+1) a=r p a:=by unfold qIY;simp only [h]
theorem qU6:∀i:Fin 256,((⟨#[97,98,99,100,101,102,103,104,105,106,107,108,109,110,111,112,113,114,115,116,117,118,119,120,121,122]⟩:ByteArray).data.toList.contains (UInt8.ofNat i.val))=zA5 (UInt8.ofNat i.val):=by decide+kernel
theorem qTl:∀(l:List UInt8) (i:Nat),qA8 (fun _ c=>zA5 c) i l=l.all zA5
 | [],i=>rfl
 |c::l,i=>by
  unfold qA8
  rw [List.all_cons,qTl l (i+1)]
theorem qTN (s:ByteArray) (hb:s.size≤140737488351232):Ev (qEs · s) (qNK s):=by
 have ht:=qAT s
 refine qKk (qHC (R:=fun n=>qGk n s) ?_ fun n=>rfl)
 unfold qNK
 by_cases h1:1≤s.size∧s.size≤12
 rotate_left
 ·rw [decide_eq_false h1,Bool.false_and]
  by_cases h2:(s.size:Int)<1
  ·exact qLR (decide_eq_true h2) (qAw rfl)
  ·exact qJB (decide_eq_false h2) (qLR (decide_eq_true (by omega)) (qAw rfl))
 rw [decide_eq_true h1,Bool.true_and]
 refine qJB (decide_eq_false (by omega)) (qJB (decide_eq_false (by omega)) ?_)
 refine qEb (r:=if s.toList.all zA5=true then Sum.inr () else Sum.inl false) ⟨s.size+1,fun m hm=>?_⟩ ?_
 ·have h:=qSN (B:=qEr m) (fun i=>(s,(i:Int))) s.toList (fun i c=>if zA5 c=true then none else some (.inl false)) (.inr ())
   (fun i c he=>by
    have hi:=(List.getElem?_eq_some_iff.1 he).1
    have w:IntKind.i64.wrap ((i:Int)+1)=((i+1:Nat):Int):=by rw [qT (by omega)];omega
    have hg:s.toList[((i:Int)).toNat]?=some c:=by rw [Int.toNat_natCast];exact he
    refine qD (decide_eq_true (show (i:Int)<(s.size:Int) by omega)) (qD (decide_eq_true (by omega)) (qA hg ?_))
    unfold zA5
    by_cases h1:(c.toNat:Int)<97
    ·rw [decide_eq_false (p:=97≤c.toNat∧c.toNat≤122) (by omega)]
     exact qD (decide_eq_true h1) rfl
    ·refine qO (decide_eq_false h1) (qD (decide_eq_true (by omega)) (qA hg ?_))
     by_cases h2:(c.toNat:Int)>122
     ·rw [decide_eq_false (p:=97≤c.toNat∧c.toNat≤122) (by omega)]
      exact qD (decide_eq_true h2) rfl
     ·rw [decide_eq_true (p:=97≤c.toNat∧c.toNat≤122) (by omega)]
      refine qO (decide_eq_false h2) ?_
      dsimp only
      rw [w]
      rfl)
   (qO (decide_eq_false (by dsimp only;omega)) rfl) m (by omega)
  rw [qU4 (p:=fun _ c=>zA5 c) (fun i a=>rfl),qTl] at h
  refine h.trans ?_
  cases s.toList.all zA5<;>rfl
 ·cases s.toList.all zA5 with
  |true=>exact qOP (qAw rfl)
  |false=>exact qOQ (qAw rfl)
theorem qT3 (s:ByteArray) (hb:s.size≤140737488351232):Ev (qFZ · s) (qNK s):=by
 refine qKk (qHC (R:=fun n=>qHz n s) ?_ fun n=>rfl)
 unfold qNK
 by_cases h1:(s.size:Int)≥1
 rotate_left
 ·rw [decide_eq_false (p:=1≤s.size∧s.size≤12) (by omega),Bool.false_and]
  exact qJB (decide_eq_false h1) (qAw rfl)
 refine qLR (decide_eq_true h1) ?_
 by_cases h2:(s.size:Int)≤12
 rotate_left
 ·rw [decide_eq_false (p:=1≤s.size∧s.size≤12) (by omega),Bool.false_and]
  exact qJB (decide_eq_false h2) (qAw rfl)
 rw [decide_eq_true (p:=1≤s.size∧s.size≤12) (by omega),Bool.true_and]
 refine qLR (decide_eq_true h2) ?_
 have tr:Ev (qDe · s ⟨#[97,98,99,100,101,102,103,104,105,106,107,108,109,110,111,112,113,114,115,116,117,118,119,120,121,122]⟩) (BR (((s.toList.reverse.dropWhile zA5).reverse).dropWhile zA5)):=⟨1,fun n hn=>by
  obtain ⟨m,rfl,hm⟩:=up1 hn
  show zm s ⟨#[97,98,99,100,101,102,103,104,105,106,107,108,109,110,111,112,113,114,115,116,117,118,119,120,121,122]⟩=_
  unfold zm
  rw [if_pos ⟨by omega,by decide,by decide+kernel⟩]
  unfold Lib.trimS Lib.trimLeftS Lib.trimRightS
  have:(fun c=>(⟨#[97,98,99,100,101,102,103,104,105,106,107,108,109,110,111,112,113,114,115,116,117,118,119,120,121,122]⟩:ByteArray).data.toList.contains c)=zA5:=funext (qSD qU6)
  rw [this,←Go.Lib.toList_data s]
  rfl⟩
 refine qEb tr (qAw ?_)
 rw [qAM,qAE]
 by_cases ha:s.toList.all zA5=true
 ·rw [qNE.2 ha,ha];rfl
 ·have hx:¬(s.toList.reverse.dropWhile zA5).reverse.dropWhile zA5= []:=fun e=>ha (qNE.1 e)
  rw [beq_eq_false_iff_ne.2 hx,Bool.eq_false_iff.2 ha]
theorem qIZ {α β:Type} {enc:α→List PV} {r:α→α→Bool} {l:List α} {i:Nat} {a:α} (he:l[i]?=some a) (hb:l.length≤140737488351232) (bad:Tr β) {t:Tr β} {K:List PV→Tr β} (hK:∀p,(K (enc p)).run=if r p a=true then t.run else bad.run):
  (Tr.ask (decide ((i:Int)>0)) (.ask (decide (0≤IntKind.i64.wrap ((i:Int)-1)∧IntKind.i64.wrap ((i:Int)-1)<((l.map enc).length:Int))) (.opt ((l.map enc)[(IntKind.i64.wrap ((i:Int)-1)).toNat]?) K) .fail) t).run=if qIY r l i a=true then t.run else bad.run:=by
 have hi:=(List.getElem?_eq_some_iff.1 he).1
 cases i with
 |zero=>exact qO rfl (by rw [show qIY r l 0 a=true from rfl,if_pos rfl])
 |succ j=>
  obtain ⟨p,hp⟩:=qT2 he
  obtain ⟨b1,b2⟩:=qU5 (by omega) (qNJ (enc:=enc) hp)
  rw [qUb hp]
  exact qD (decide_eq_true (by omega)) (qD b1 (qA b2 (hK p)))
theorem qUc (x:Int) (l:List Vs) (b:List (List PV)) (hl:l.length≤140737488351232) (ups:List Int) (hu:ups.length≤140737488351232) (id:Int):Ev (qC7 · x (l.map qAt) b (ups.map q9) id) (qS5 l id ups&&decide ((ups.length:Int)≤2)):=by
 obtain ⟨n1,h1⟩:=qAl (F:=fun (up:Int) n=>qBL n x (l.map qAt) b up) (f:=fun up=>qIX (fun v:Vs=>v.1==up) l) ups fun up _=>qQd x l b hl up
 refine ⟨n1+ups.length+3,fun n hn=>?_⟩
 obtain ⟨m,rfl,hm⟩:=up1 hn
 have h:=qSN (B:=qDz m) (fun i=>(ups.map q9,id,ups.map q9,((ups.map q9).length:Int),(i:Int),x,l.map qAt,b)) ups (fun i c=>if upP l id ups i c=true then none else some (.inl false)) (.inr (ups.map q9))
  (fun i c he=>by
   have hi:=(List.getElem?_eq_some_iff.1 he).1
   obtain ⟨a1,a2⟩:=qJC rfl (qNJ (enc:=q9) he)
   have h1:=h1 m (by omega) c (List.mem_of_getElem? he)
   have w:IntKind.i64.wrap ((i:Int)+1)=((i+1:Nat):Int):=by rw [qT (by omega)];omega
   refine qD (decide_eq_true (by simpa using hi)) (qD a1 (qA a2 (qD rfl (qA rfl ?_))))
   dsimp only
   rw [w]
   unfold upP
   by_cases k1:c≥id
   ·rw [decide_eq_false (p:=c<id) (by omega)];exact qD (decide_eq_true k1) rfl
   refine qO (decide_eq_false k1) (qA h1 ?_)
   rw [decide_eq_true (p:=c<id) (by omega),Bool.true_and]
   have hv:=qPW l c
   cases hh:qTM l c with
   |false=>rw [hh] at hv;exact qD hv rfl
   |true=>
    rw [hh] at hv
    refine qO hv ?_
    rw [Bool.true_and]
    refine (qIZ (enc:=q9) (r:=ltI) he hu (.done (.inr (.inl false))) fun p=>?_).trans ?_
    ·refine qD rfl (qA rfl ?_)
     unfold ltI
     by_cases k3:p≥c
     ·rw [decide_eq_false (p:=p<c) (by omega)];exact qD (decide_eq_true k3) rfl
     ·rw [decide_eq_true (p:=p<c) (by omega)];exact qO (decide_eq_false k3) rfl
    ·cases qIY ltI ups i c<;>rfl)
  (qO (decide_eq_false (by simp)) rfl) m (by omega)
 refine qA h ?_
 rw [qFq]
 unfold qS5
 cases qA8 (upP l id ups) 0 ups with
 |true=>
  rw [Bool.true_and]
  show some (decide (((ups.map q9).length:Int)≤2))=_
  rw [List.length_map]
 |false=>rfl
theorem qRE (x:Int) (hx:2≤x∧x≤1000000000) (l:List Vs) (b:List (List PV)) (hl:l.length≤140737488351232) (hv:∀v∈l,qNI v):∃n0,∀m,n0≤m→zD (qEJ m) m (l.map qAt,((l.map qAt).length:Int),0,x,l.map qAt,b)=some (if qA8 (qOS x l) 0 l=true then .inr (x,l.map qAt,b) else .inl false):=by
 obtain ⟨n1,h1⟩:=qAl (F:=fun (v:Vs) n=>qw n v.1 1 (x-1)) (f:=fun v=>decide (1≤v.1∧v.1≤x-1)) l fun v _=>qv v.1 1 (x-1)
 obtain ⟨n2,h2⟩:=qAl (F:=fun (v:Vs) n=>qC7 n x (l.map qAt) b (v.2.1.map q9) v.1) (f:=fun v=>qS5 l v.1 v.2.1&&decide ((v.2.1.length:Int)≤2)) l fun v hm=>qUc x l b hl v.2.1 (by have:=(hv v hm).1;omega) v.1
 obtain ⟨n3,h3⟩:=qAl (F:=fun (v:Vs) n=>qDf n (v.2.2.map q8)) (f:=fun v=>qJA v.2.2) l fun v hm=>qPP v.2.2 (by have:=(hv v hm).2.1;omega) (hv v hm).2.2
 refine ⟨n1+n2+n3+l.length+3,fun m hm=>?_⟩
 have h:=qSN (B:=qEJ m) (fun i=>(l.map qAt,((l.map qAt).length:Int),(i:Int),x,l.map qAt,b)) l (fun i c=>if qOS x l i c=true then none else some (.inl false)) (.inr (x,l.map qAt,b))
  (fun i c he=>by
   have hi:=(List.getElem?_eq_some_iff.1 he).1
   obtain ⟨a1,a2⟩:=qJC rfl (qNJ (enc:=qAt) he)
   have h1:=h1 m (by omega) c (List.mem_of_getElem? he)
   have h2:=h2 m (by omega) c (List.mem_of_getElem? he)
   have h3:=h3 m (by omega) c (List.mem_of_getElem? he)
   have w:IntKind.i64.wrap ((i:Int)+1)=((i+1:Nat):Int):=by rw [qT (by omega)];omega
   have wx:IntKind.i64.wrap (x-1)=x-1:=qT (by omega)
   refine qD (decide_eq_true (by simpa using hi)) (qD a1 (qA a2 (qD rfl (qA rfl (qA rfl (qA rfl ?_))))))
   dsimp only
   rw [w,wx]
   refine qA h1 ?_
   unfold qOS
   cases decide (1≤c.1∧c.1≤x-1) with
   |false=>exact qD rfl rfl
   |true=>
    refine qO rfl ?_
    rw [Bool.true_and]
    refine (qIZ (enc:=qAt) (r:=ltV) he hl (.done (.inr (.inl false))) fun p=>?_).trans ?_
    ·refine qD rfl (qA rfl ?_)
     unfold ltV
     by_cases k3:p.1≥c.1
     ·rw [decide_eq_false (p:=p.1<c.1) (by omega)];exact qD (decide_eq_true k3) rfl
     ·rw [decide_eq_true (p:=p.1<c.1) (by omega)];exact qO (decide_eq_false k3) rfl
    ·cases qIY ltV l i c with
     |false=>rfl
     |true=>
      rw [if_pos rfl,Bool.true_and]
      refine qA h2 ?_
      cases qS5 l c.1 c.2.1&&decide ((c.2.1.length:Int)≤2) with
      |false=>exact qD rfl rfl
      |true=>
       refine qO rfl (qA h3 ?_)
       cases qJA c.2.2 with
       |false=>exact qD rfl rfl
       |true=>exact qO rfl rfl)
  (qO (decide_eq_false (by simp)) rfl) m (by omega)
 rw [qFq] at h
 refine h.trans ?_
 cases qA8 (qOS x l) 0 l<;>rfl
theorem qRF (x:Int) (l:List Vs) (bs:List Br) (hl:l.length≤140737488351232) (hb:bs.length≤140737488351232) (hs:∀b∈bs,b.1.size≤140737488351232):∃n0,∀m,n0≤m→zD (qEK m) m (bs.map qA1,((bs.map qA1).length:Int),0,x,l.map qAt,bs.map qA1)=some (if qA8 (brP l bs) 0 bs=true then .inr () else .inl false):=by
 obtain ⟨n1,h1⟩:=qAl (F:=fun (b:Br) n=>qFZ n b.1) (f:=fun b=>qNK b.1) bs fun b h=>qT3 b.1 (hs b h)
 obtain ⟨n2,h2⟩:=qAl (F:=fun (b:Br) n=>qBL n x (l.map qAt) (bs.map qA1) b.2) (f:=fun b=>qIX (fun v:Vs=>v.1==b.2) l) bs fun b _=>qQd x l _ hl b.2
 refine ⟨n1+n2+bs.length+3,fun m hm=>?_⟩
 have h:=qSN (B:=qEK m) (fun i=>(bs.map qA1,((bs.map qA1).length:Int),(i:Int),x,l.map qAt,bs.map qA1)) bs (fun i c=>if brP l bs i c=true then none else some (.inl false)) (.inr ())
  (fun i c he=>by
   have hi:=(List.getElem?_eq_some_iff.1 he).1
   obtain ⟨a1,a2⟩:=qJC rfl (qNJ (enc:=qA1) he)
   have h1:=h1 m (by omega) c (List.mem_of_getElem? he)
   have h2:=h2 m (by omega) c (List.mem_of_getElem? he)
   have w:IntKind.i64.wrap ((i:Int)+1)=((i+1:Nat):Int):=by rw [qT (by omega)];omega
   refine qD (decide_eq_true (by simpa using hi)) (qD a1 (qA a2 (qD rfl (qA rfl (qA rfl ?_)))))
   dsimp only
   rw [w]
   refine qA h1 ?_
   unfold brP
   cases qNK c.1 with
   |false=>exact qD rfl rfl
   |true=>
    refine qO rfl ?_
    rw [Bool.true_and]
    refine (qIZ (enc:=qA1) (r:=ltB) he hb (.done (.inr (.inl false))) fun p=>?_).trans ?_
    ·refine qD rfl (qA rfl ?_)
     unfold ltB
     cases Op.bytesLess p.1.toList c.1.toList with
     |false=>exact qD rfl rfl
     |true=>exact qO rfl rfl
    ·cases qIY ltB bs i c with
     |false=>rfl
     |true=>
      rw [if_pos rfl,Bool.true_and]
      refine qA h2 ?_
      have hv:=qPW l c.2
      cases hh:qTM l c.2 with
      |false=>rw [hh] at hv;exact qD hv rfl
      |true=>rw [hh] at hv;exact qO hv rfl)
  (qO (decide_eq_false (by simp)) rfl) m (by omega)
 rw [qFq] at h
 refine h.trans ?_
 cases qA8 (brP l bs) 0 bs<;>rfl
theorem qRG (x:Int) (l:List Vs) (bs:List Br) (hl:l.length≤140737488351232) (hv:∀v∈l,qNI v) (hb:bs.length≤140737488351232) (hs:∀b∈bs,b.1.size≤140737488351232):Ev (qIy · x (l.map qAt) (bs.map qA1)) (qU3 x l bs):=by
 refine qKk (qHC (R:=fun n=>qIx n x (l.map qAt) (bs.map qA1)) (qEb (qv x 2 1000000000) ?_) fun n=>rfl)
 unfold qU3
 by_cases hx:2≤x∧x≤1000000000
 rotate_left
 ·rw [decide_eq_false hx];exact qLR rfl (qAw rfl)
 rw [decide_eq_true hx,Bool.true_and]
 refine qJB rfl (qEb (qv _ 1 40) ?_)
 rw [List.length_map]
 cases decide (1≤(l.length:Int)∧(l.length:Int)≤40) with
 |false=>exact qLR rfl (qAw rfl)
 |true=>
  rw [Bool.true_and]
  refine qJB rfl (qEb (qv _ 1 8) ?_)
  rw [List.length_map]
  cases decide (1≤(bs.length:Int)∧(bs.length:Int)≤8) with
  |false=>exact qLR rfl (qAw rfl)
  |true=>
   rw [Bool.true_and]
   have e1:=qRE x hx l (bs.map qA1) hl hv
   have e2:=qRF x l bs hl hb hs
   rw [List.length_map] at e1 e2
   refine qJB rfl (qEb (r:=if qA8 (qOS x l) 0 l=true then Sum.inr (x,l.map qAt,bs.map qA1) else Sum.inl false) e1 ?_)
   cases qA8 (qOS x l) 0 l with
   |false=>exact qOQ (qAw rfl)
   |true=>
    rw [Bool.true_and,if_pos rfl]
    refine qOP ?_
    dsimp only
    rw [List.length_map]
    refine qEb (r:=if qA8 (brP l bs) 0 bs=true then Sum.inr () else Sum.inl false) e2 ?_
    cases qA8 (brP l bs) 0 bs with
    |false=>exact qOQ (qAw rfl)
    |true=>exact qOP (qAw rfl)
theorem qTO (n:Nat) (x:Int) (l:List Vs) (b:List (List PV)) (k:Int) (ups:List Int) (hu:ups.length≤140737488351232) (id:Int) (sh:List (List PV)) (h1:∀c∈ups,qCN n x (l.map qAt) b c=some (qIX (fun v:Vs=>v.1==c) l)):
  ∀M,ups.length+1≤M→zD (qC5 n) M (k,0,x,l.map qAt,b,id,ups.map q9,sh)=some (if qS5 l id ups=true then .inr (k,x,l.map qAt,b) else .inl false):=by
 intro M hM
 have h:=qSN (B:=qC5 n) (fun i=>(k,(i:Int),x,l.map qAt,b,id,ups.map q9,sh)) ups (fun i c=>if upP l id ups i c=true then none else some (.inl false)) (.inr (k,x,l.map qAt,b))
  (fun i c he=>by
   have hi:=(List.getElem?_eq_some_iff.1 he).1
   obtain ⟨a1,a2⟩:=qJC rfl (qNJ (enc:=q9) he)
   have h1:=h1 c (List.mem_of_getElem? he)
   have w:IntKind.i64.wrap ((i:Int)+1)=((i+1:Nat):Int):=by rw [qT (by omega)];omega
   refine qD (decide_eq_true (by simpa using hi)) (qD a1 (qA a2 (qD rfl (qA rfl ?_))))
   dsimp only
   rw [w]
   unfold upP
   by_cases k1:c≥id
   ·rw [decide_eq_false (p:=c<id) (by omega)];exact qD (decide_eq_true k1) rfl
   refine qO (decide_eq_false k1) (qD a1 (qA a2 (qD rfl (qA rfl (qA h1 ?_)))))
   rw [decide_eq_true (p:=c<id) (by omega),Bool.true_and]
   have hv:=qPW l c
   cases hh:qTM l c with
   |false=>rw [hh] at hv;exact qD hv rfl
   |true=>
    rw [hh] at hv
    refine qO hv ?_
    rw [Bool.true_and]
    refine (qIZ (enc:=q9) (r:=ltI) he hu (.done (.inr (.inl false))) fun p=>?_).trans ?_
    ·refine qD rfl (qA rfl (qD a1 (qA a2 (qD rfl (qA rfl ?_)))))
     unfold ltI
     by_cases k3:p≥c
     ·rw [decide_eq_false (p:=p<c) (by omega)];exact qD (decide_eq_true k3) rfl
     ·rw [decide_eq_true (p:=p<c) (by omega)];exact qO (decide_eq_false k3) rfl
    ·cases qIY ltI ups i c<;>rfl)
  (qO (decide_eq_false (by simp)) rfl) M hM
 rw [qFq] at h
 unfold qS5
 refine h.trans ?_
 cases qA8 (upP l id ups) 0 ups<;>rfl
theorem qUd:∀(l:List Vs),∃M,∀v∈l,v.2.1.length≤M
 | []=>⟨0,fun v h=>by cases h⟩
 |a::l=>by
  obtain ⟨M,h⟩:=qUd l
  refine ⟨M+a.2.1.length,fun v hv=>?_⟩
  rcases List.mem_cons.1 hv with rfl|hv
  ·omega
  ·have:=h v hv
   omega
theorem qRH (x:Int) (hx:2≤x∧x≤1000000000) (l:List Vs) (b:List (List PV)) (hl:l.length≤140737488351232) (hv:∀v∈l,qNI v):∃n0,∀m,n0≤m→zD (qEG m) m (0,x,l.map qAt,b)=some (if qA8 (qOS x l) 0 l=true then .inr (x,l.map qAt,b) else .inl false):=by
 obtain ⟨n1,h1⟩:=qAl (F:=fun (v:Vs) n=>qAq n v.1 1 (x-1)) (f:=fun v=>decide (1≤v.1∧v.1≤x-1)) l fun v _=>qBw v.1 1 (x-1)
 obtain ⟨n2,h2⟩:=qAl (F:=fun (c:Int) n=>qCN n x (l.map qAt) b c) (f:=fun c=>qIX (fun v:Vs=>v.1==c) l) (l.flatMap fun v=>v.2.1) fun c _=>qQc x l b hl c
 obtain ⟨n3,h3⟩:=qAl (F:=fun (v:Vs) n=>qDX n (v.2.2.map q8)) (f:=fun v=>qJA v.2.2) l fun v hm=>qPO v.2.2 (by have:=(hv v hm).2.1;omega) (hv v hm).2.2
 obtain ⟨n4,h4⟩:=qUd l
 refine ⟨n1+n2+n3+n4+l.length+3,fun m hm=>?_⟩
 have h:=qSN (B:=qEG m) (fun i=>((i:Int),x,l.map qAt,b)) l (fun i c=>if qOS x l i c=true then none else some (.inl false)) (.inr (x,l.map qAt,b))
  (fun i c he=>by
   have hi:=(List.getElem?_eq_some_iff.1 he).1
   have hmem:=List.mem_of_getElem? he
   obtain ⟨a1,a2⟩:=qJC rfl (qNJ (enc:=qAt) he)
   have h1:=h1 m (by omega) c hmem
   have h3:=h3 m (by omega) c hmem
   have h4:=h4 c hmem
   have hu:=qTO m x l b (i:Int) c.2.1 (by have:=(hv c hmem).1;omega) c.1 (c.2.2.map q8) (fun u hu=>h2 m (by omega) u (List.mem_flatMap.2 ⟨c,hmem,hu⟩)) m (by omega)
   have w:IntKind.i64.wrap ((i:Int)+1)=((i+1:Nat):Int):=by rw [qT (by omega)];omega
   have wx:IntKind.i64.wrap (x-1)=x-1:=qT (by omega)
   refine qD (decide_eq_true (by simpa using hi)) (qD a1 (qA a2 (qD rfl (qA rfl (qA rfl (qA rfl ?_))))))
   dsimp only
   rw [wx]
   refine qA h1 ?_
   unfold qOS
   cases decide (1≤c.1∧c.1≤x-1) with
   |false=>exact qD rfl rfl
   |true=>
    refine qO rfl ?_
    rw [Bool.true_and]
    refine (qIZ (enc:=qAt) (r:=ltV) he hl (.done (.inr (.inl false))) fun p=>?_).trans ?_
    ·refine qD rfl (qA rfl ?_)
     unfold ltV
     by_cases k3:p.1≥c.1
     ·rw [decide_eq_false (p:=p.1<c.1) (by omega)];exact qD (decide_eq_true k3) rfl
     ·rw [decide_eq_true (p:=p.1<c.1) (by omega)];exact qO (decide_eq_false k3) rfl
    ·cases qIY ltV l i c with
     |false=>rfl
     |true=>
      rw [if_pos rfl,Bool.true_and]
      by_cases k2:((c.2.1.map q9).length:Int)>2
      ·have k2':=k2
       rw [List.length_map] at k2'
       rw [decide_eq_false (p:=(c.2.1.length:Int)≤2) (by omega),Bool.and_false]
       exact qD (decide_eq_true k2) rfl
      have k2':=k2
      rw [List.length_map] at k2'
      rw [decide_eq_true (p:=(c.2.1.length:Int)≤2) (by omega),Bool.and_true]
      refine qO (decide_eq_false k2) (qA h3 ?_)
      cases qJA c.2.2 with
      |false=>rw [Bool.and_false];exact qD rfl rfl
      |true=>
       rw [Bool.and_true]
       refine qO rfl (qA hu ?_)
       cases qS5 l c.1 c.2.1 with
       |false=>rfl
       |true=>
        show some (Sum.inl (IntKind.i64.wrap ((i:Int)+1),x,l.map qAt,b))=_
        rw [w]
        rfl)
  (qO (decide_eq_false (by simp)) rfl) m (by omega)
 rw [qFq] at h
 refine h.trans ?_
 cases qA8 (qOS x l) 0 l<;>rfl
theorem qRI (x:Int) (l:List Vs) (bs:List Br) (hl:l.length≤140737488351232) (hb:bs.length≤140737488351232) (hs:∀b∈bs,b.1.size≤140737488351232):∃n0,∀m,n0≤m→zD (qEH m) m (0,x,l.map qAt,bs.map qA1)=some (if qA8 (brP l bs) 0 bs=true then .inr () else .inl false):=by
 obtain ⟨n1,h1⟩:=qAl (F:=fun (b:Br) n=>qEs n b.1) (f:=fun b=>qNK b.1) bs fun b h=>qTN b.1 (hs b h)
 obtain ⟨n2,h2⟩:=qAl (F:=fun (b:Br) n=>qCN n x (l.map qAt) (bs.map qA1) b.2) (f:=fun b=>qIX (fun v:Vs=>v.1==b.2) l) bs fun b _=>qQc x l _ hl b.2
 refine ⟨n1+n2+bs.length+3,fun m hm=>?_⟩
 have h:=qSN (B:=qEH m) (fun i=>((i:Int),x,l.map qAt,bs.map qA1)) bs (fun i c=>if brP l bs i c=true then none else some (.inl false)) (.inr ())
  (fun i c he=>by
   have hi:=(List.getElem?_eq_some_iff.1 he).1
   obtain ⟨a1,a2⟩:=qJC rfl (qNJ (enc:=qA1) he)
   have h1:=h1 m (by omega) c (List.mem_of_getElem? he)
   have h2:=h2 m (by omega) c (List.mem_of_getElem? he)
   have w:IntKind.i64.wrap ((i:Int)+1)=((i+1:Nat):Int):=by rw [qT (by omega)];omega
   refine qD (decide_eq_true (by simpa using hi)) (qD a1 (qA a2 (qD rfl (qA rfl (qA rfl ?_)))))
   dsimp only
   rw [w]
   refine qA h1 ?_
   unfold brP
   cases qNK c.1 with
   |false=>exact qD rfl rfl
   |true=>
    refine qO rfl (qA h2 ?_)
    rw [Bool.true_and]
    have hv:=qPW l c.2
    cases hh:qTM l c.2 with
    |false=>rw [hh] at hv;rw [Bool.and_false];exact qD hv rfl
    |true=>
     rw [hh] at hv
     rw [Bool.and_true]
     refine qO hv ?_
     refine (qIZ (enc:=qA1) (r:=ltB) he hb (.done (.inr (.inl false))) fun p=>?_).trans ?_
     ·refine qD rfl (qA rfl ?_)
      unfold ltB
      cases Op.bytesLess p.1.toList c.1.toList with
      |false=>exact qD rfl rfl
      |true=>exact qO rfl rfl
     ·cases qIY ltB bs i c<;>rfl)
  (qO (decide_eq_false (by simp)) rfl) m (by omega)
 rw [qFq] at h
 refine h.trans ?_
 cases qA8 (brP l bs) 0 bs<;>rfl
theorem qRJ (x:Int) (l:List Vs) (bs:List Br) (hl:l.length≤140737488351232) (hv:∀v∈l,qNI v) (hb:bs.length≤140737488351232) (hs:∀b∈bs,b.1.size≤140737488351232):Ev (qIi · x (l.map qAt) (bs.map qA1)) (qU3 x l bs):=by
 refine qKk (qHC (R:=fun n=>qIh n x (l.map qAt) (bs.map qA1)) (qEb (qBw x 2 1000000000) ?_) fun n=>rfl)
 unfold qU3
 by_cases hx:2≤x∧x≤1000000000
 rotate_left
 ·rw [decide_eq_false hx];exact qLR rfl (qAw rfl)
 rw [decide_eq_true hx,Bool.true_and]
 refine qJB rfl ?_
 have el:((l.map qAt).length:Int)=(l.length:Int):=by rw [List.length_map]
 have eb:((bs.map qA1).length:Int)=(bs.length:Int):=by rw [List.length_map]
 by_cases k1:((l.map qAt).length:Int)<1
 ·rw [decide_eq_false (p:=1≤(l.length:Int)∧(l.length:Int)≤40) (by omega)];exact qLR (decide_eq_true k1) (qAw rfl)
 refine qJB (decide_eq_false k1) ?_
 by_cases k2:((l.map qAt).length:Int)>40
 ·rw [decide_eq_false (p:=1≤(l.length:Int)∧(l.length:Int)≤40) (by omega)];exact qLR (decide_eq_true k2) (qAw rfl)
 refine qJB (decide_eq_false k2) ?_
 rw [decide_eq_true (p:=1≤(l.length:Int)∧(l.length:Int)≤40) (by omega),Bool.true_and]
 by_cases k3:((bs.map qA1).length:Int)<1
 ·rw [decide_eq_false (p:=1≤(bs.length:Int)∧(bs.length:Int)≤8) (by omega)];exact qLR (decide_eq_true k3) (qAw rfl)
 refine qJB (decide_eq_false k3) ?_
 by_cases k4:((bs.map qA1).length:Int)>8
 ·rw [decide_eq_false (p:=1≤(bs.length:Int)∧(bs.length:Int)≤8) (by omega)];exact qLR (decide_eq_true k4) (qAw rfl)
 refine qJB (decide_eq_false k4) ?_
 rw [decide_eq_true (p:=1≤(bs.length:Int)∧(bs.length:Int)≤8) (by omega),Bool.true_and]
 refine qEb (r:=if qA8 (qOS x l) 0 l=true then Sum.inr (x,l.map qAt,bs.map qA1) else Sum.inl false) (qRH x hx l (bs.map qA1) hl hv) ?_
 cases qA8 (qOS x l) 0 l with
 |false=>exact qOQ (qAw rfl)
 |true=>
  rw [Bool.true_and,if_pos rfl]
  refine qOP ?_
  refine qEb (r:=if qA8 (brP l bs) 0 bs=true then Sum.inr () else Sum.inl false) (qRI x l bs hl hb hs) ?_
  cases qA8 (brP l bs) 0 bs with
  |false=>exact qOQ (qAw rfl)
  |true=>exact qOP (qAw rfl)
theorem law (x:Int) (vr br:List (List PV)) (wx:(Lit.int .i64 x).wf=true) (wv:vr.length*56≤140737488351232∧∀r∈vr,okR [.i .i64,.sl 8 [.i .i64],.sl 32 [.i .i64,.i .i64,.s]] r) (wb:br.length*24≤140737488351232∧∀r∈br,okR [.s,.i .i64] r):Ev (qGH · x vr br) true:=by
 obtain ⟨l,rfl,hv⟩:=qU1 wv.2
 obtain ⟨bs,rfl,hs⟩:=qU2 wb.2
 have hl:l.length*56≤140737488351232:=by simpa using wv.1
 have hb:bs.length*24≤140737488351232:=by simpa using wb.1
 obtain ⟨n1,h1⟩:=qUW x l bs hl hv hb
 obtain ⟨n2,h2⟩:=qRJ x l bs (by omega) hv (by omega) hs
 obtain ⟨n3,h3⟩:=qRG x l bs (by omega) hv (by omega) hs
 obtain ⟨n4,h4⟩:=qUZ x l bs (by omega) hv (by omega)
 obtain ⟨n5,h5⟩:=qUY x l bs (by omega) hv (by omega) 1048576
 refine ⟨n1+n2+n3+n4+n5+1,fun n hn=>?_⟩
 obtain ⟨m,rfl,hm⟩:=up1 hn
 obtain ⟨r,hr⟩:=h5 m (by omega)
 have h1:=h1 m (by omega)
 have h2:=h2 m (by omega)
 have h3:=h3 m (by omega)
 have h4:=h4 m (by omega)
 refine qA hr ?_
 by_cases h0:r<0
 ·exact qD (decide_eq_true h0) rfl
 ·exact qO (decide_eq_false h0) (qA h1 (qA h2 (qA h1 (qA h3 (qO (qAr (beq_self_eq_true _)) (qA h1 (qA h4 (qO rfl rfl))))))))
inductive Rch (sc:Nat→List Nat) (a:Nat):Nat→Prop
 |one {j:Nat}:j∈sc a→Rch sc a j
 |more {i j:Nat}:Rch sc a i→j∈sc i→Rch sc a j
def qJD (Q:List Nat):List Nat→List Nat
 | []=>Q
 |x::M=>qJD (if Q.contains x=true then Q else Q++ [x]) M
theorem qFR {x:Nat}:∀(M Q:List Nat),x∈qJD Q M↔x∈Q∨x∈M
 | [],Q=>by simp [qJD]
 |y::M,Q=>by
  unfold qJD
  rw [qFR M]
  by_cases h:Q.contains y=true
  ·rw [if_pos h]
   have hy:y∈Q:=by simpa using h
   rw [List.mem_cons]
   constructor
   ·rintro (h|h)
    ·exact .inl h
    ·exact .inr (.inr h)
   ·rintro (h|rfl|h)
    ·exact .inl h
    ·exact .inl hy
    ·exact .inr h
  ·rw [if_neg h,List.mem_append,List.mem_singleton,List.mem_cons,or_assoc]
theorem qNL:∀(M Q:List Nat),Q.Nodup→(qJD Q M).Nodup
 | [],Q,h=>h
 |y::M,Q,h=>by
  unfold qJD
  refine qNL M _ ?_
  by_cases hy:Q.contains y=true
  ·rw [if_pos hy];exact h
  ·rw [if_neg hy]
   have hy':y∉Q:=by simpa using hy
   rw [List.nodup_append]
   refine ⟨h,by simp,fun a ha b hb=>?_⟩
   rw [List.mem_singleton] at hb
   subst hb
   rintro rfl
   exact hy' ha
theorem qMM:∀(M Q:List Nat) (k:Nat),k<Q.length→(qJD Q M)[k]?=Q[k]?
 | [],Q,k,h=>rfl
 |y::M,Q,k,h=>by
  unfold qJD
  by_cases hy:Q.contains y=true
  ·rw [if_pos hy];exact qMM M Q k h
  ·rw [if_neg hy,qMM M _ k (by simp;omega),List.getElem?_append_left h]
theorem qTP:∀(n:Nat) (l:List Nat),l.Nodup→(∀x∈l,x<n)→l.length≤n
 |0,l,_,h=>by
  cases l with
  |nil=>simp
  |cons a l=>exact absurd (h a (List.mem_cons_self ..)) (Nat.not_lt_zero a)
 |n+1,l,hd,h=>by
  by_cases hn:n∈l
  ·have h1:=qTP n (l.erase n) (hd.erase n) fun x hx=>by
    have h2:=(hd.mem_erase_iff).1 hx
    have:=h x h2.2
    omega
   rw [List.length_erase_of_mem hn] at h1
   omega
  ·have:=qTP n l hd fun x hx=>by
    have h2:=h x hx
    have h3:x≠n:=fun e=>hn (e▸hx)
    omega
   omega
structure QI (sc:Nat→List Nat) (a n:Nat) (Q:List Nat) (k:Nat):Prop where
 nd:Q.Nodup
 lt:∀x∈Q,x<n
 rc:∀x∈Q,Rch sc a x
 st:∀j∈sc a,j∈Q
 dn:∀i q,i<k→Q[i]?=some q→q≠a∧∀j∈sc q,j∈Q
theorem QI.len {sc:Nat→List Nat} {a n:Nat} {Q:List Nat} {k:Nat} (h:QI sc a n Q k):Q.length≤n:=qTP n Q h.nd h.lt
theorem QI.all {sc:Nat→List Nat} {a n:Nat} {Q:List Nat} (h:QI sc a n Q Q.length):¬Rch sc a a:=by
 have key:∀x,Rch sc a x→x∈Q:=fun x hx=>by
  induction hx with
  |one h1=>exact h.st _ h1
  |more h1 h2 ih=>
   obtain ⟨i,hi,e⟩:=List.mem_iff_getElem.1 ih
   exact (h.dn i _ hi (by rw [List.getElem?_eq_getElem hi,e])).2 _ h2
 intro hr
 obtain ⟨i,hi,e⟩:=List.mem_iff_getElem.1 (key a hr)
 exact (h.dn i _ hi (by rw [List.getElem?_eq_getElem hi,e])).1 rfl
theorem QI.next {sc:Nat→List Nat} {a n:Nat} {Q:List Nat} {k q:Nat} (h:QI sc a n Q k) (hq:Q[k]?=some q) (hne:q≠a) (hs:∀j∈sc q,j<n):QI sc a n (qJD Q (sc q)) (k+1):=by
 have hk:=(List.getElem?_eq_some_iff.1 hq).1
 have hm:=List.mem_of_getElem? hq
 refine ⟨qNL _ _ h.nd,fun x hx=>?_,fun x hx=>?_,fun j hj=>(qFR _ _).2 (.inl (h.st j hj)),fun i r hi hr=>?_⟩
 ·rcases (qFR _ _).1 hx with hx|hx
  ·exact h.lt x hx
  ·exact hs x hx
 ·rcases (qFR _ _).1 hx with hx|hx
  ·exact h.rc x hx
  ·exact .more (h.rc q hm) hx
 ·rw [qMM _ _ i (by omega)] at hr
  by_cases e:i=k
  ·subst e
   rw [hq] at hr
   cases hr
   exact ⟨hne,fun j hj=>(qFR _ _).2 (.inr hj)⟩
  ·obtain ⟨h1,h2⟩:=h.dn i r (by omega) hr
   exact ⟨h1,fun j hj=>(qFR _ _).2 (.inl (h2 j hj))⟩
theorem QI.start {sc:Nat→List Nat} {a n:Nat} (hd:(sc a).Nodup) (hs:∀j∈sc a,j<n):QI sc a n (sc a) 0:=⟨hd,hs,fun x hx=> .one hx,fun j hj=>hj,fun i q hi=>absurd hi (Nat.not_lt_zero i)⟩
structure MI (sc:Nat→List Nat) (a n:Nat) (met:List Bool) (Q:List Nat) (k:Nat):Prop where
 ln:met.length=n
 kl:k≤Q.length
 lt:∀x∈Q,x<n
 rc:∀x∈Q,Rch sc a x
 st:∀j∈sc a,j∈Q
 mt:∀i,met[i]?=some true→∀j∈sc i,j∈Q
 dn:∀i q,i<k→Q[i]?=some q→q≠a∧met[q]?=some true
theorem MI.all {sc:Nat→List Nat} {a n:Nat} {met:List Bool} {Q:List Nat} (h:MI sc a n met Q Q.length):¬Rch sc a a:=by
 have key:∀x,Rch sc a x→x∈Q:=fun x hx=>by
  induction hx with
  |one h1=>exact h.st _ h1
  |more h1 h2 ih=>
   obtain ⟨i,hi,e⟩:=List.mem_iff_getElem.1 ih
   exact h.mt _ (h.dn i _ hi (by rw [List.getElem?_eq_getElem hi,e])).2 _ h2
 intro hr
 obtain ⟨i,hi,e⟩:=List.mem_iff_getElem.1 (key a hr)
 exact (h.dn i _ hi (by rw [List.getElem?_eq_getElem hi,e])).1 rfl
theorem MI.start {sc:Nat→List Nat} {a n:Nat} (hs:∀j∈sc a,j<n):MI sc a n (List.replicate n false) (sc a) 0:=⟨by simp,Nat.zero_le _,hs,fun x hx=> .one hx,fun j hj=>hj,fun i hi=>by
 obtain ⟨h1,h2⟩:=List.getElem?_eq_some_iff.1 hi
 simp at h2,fun i q hi=>absurd hi (Nat.not_lt_zero i)⟩
inductive Tch (bs:Nat→Prop) (sc:Nat→List Nat):Nat→Prop
 |zero {i:Nat}:bs i→Tch bs sc i
 |lean {i k:Nat}:k∈sc i→Tch bs sc k→Tch bs sc i
structure TI (bs:Nat→Prop) (sc:Nat→List Nat) (n:Nat) (o:List Bool):Prop where
 ln:o.length=n
 ok:∀i,o[i]?=some true→Tch bs sc i
 st:∀i,i<n→bs i→o[i]?=some true
theorem TI.set {bs:Nat→Prop} {sc:Nat→List Nat} {n:Nat} {o:List Bool} (h:TI bs sc n o) {i k:Nat} (hk:k∈sc i) (ho:o[k]?=some true):TI bs sc n (o.set i true):=by
 refine ⟨by rw [List.length_set];exact h.ln,fun j hj=>?_,fun j hj hb=>?_⟩
 ·by_cases e:i=j
  ·subst e;exact .lean hk (h.ok k ho)
  ·rw [List.getElem?_set_ne e] at hj;exact h.ok j hj
 ·by_cases e:i=j
  ·subst e;exact List.getElem?_set_self (by rw [h.ln];exact hj)
  ·rw [List.getElem?_set_ne e];exact h.st j hj hb
theorem TI.all {bs:Nat→Prop} {sc:Nat→List Nat} {n:Nat} {o:List Bool} (h:TI bs sc n o) (hn:∀i,∀k∈sc i,k<n) (hc:∀i,i<n→∀k∈sc i,o[k]?=some true→o[i]?=some true) {i:Nat} (hi:i<n):o[i]?=some true↔Tch bs sc i:=by
 refine ⟨h.ok i,fun ht=>?_⟩
 induction ht with
 |zero hb=>exact h.st _ hi hb
 |lean hk _ ih=>exact hc _ hi _ hk (ih (hn _ _ hk))
structure SI (hr b2:Nat→Bool) (sc:Nat→List Nat) (n:Nat) (A:List Nat):Prop where
 nd:A.Nodup
 lt:∀a∈A,a<n
 ok:∀a∈A,Tch (fun i=>hr i=true∨b2 i=true) sc a
theorem SI.add {hr b2:Nat→Bool} {sc:Nat→List Nat} {n:Nat} {A:List Nat} {i:Nat} (h:SI hr b2 sc n A) (hi:i<n) (h1:¬(hr i||A.contains i)=true) (h2:(b2 i||A.any fun k=>(sc i).contains k)=true):SI hr b2 sc n (A++ [i]):=by
 have hn:i∉A:=fun hi=>h1 (by rw [Bool.or_eq_true];exact .inr (by simpa using hi))
 refine ⟨?_,fun a ha=>?_,fun a ha=>?_⟩
 ·rw [List.nodup_append]
  refine ⟨h.nd,by simp,fun a ha b hb=>?_⟩
  rw [List.mem_singleton] at hb
  subst hb
  rintro rfl
  exact hn ha
 ·rcases List.mem_append.1 ha with ha|ha
  ·exact h.lt a ha
  ·rw [List.mem_singleton] at ha;omega
 ·rcases List.mem_append.1 ha with ha|ha
  ·exact h.ok a ha
  ·rw [List.mem_singleton] at ha
   subst ha
   rcases Bool.or_eq_true_iff.1 h2 with hb|hb
   ·exact .zero (.inr hb)
   ·obtain ⟨k,hk,hc⟩:=List.any_eq_true.1 hb
    exact .lean (by simpa using hc) (h.ok k hk)
theorem SI.all {hr b2:Nat→Bool} {sc:Nat→List Nat} {n:Nat} {A:List Nat} (h:SI hr b2 sc n A) (hn:∀i,∀k∈sc i,k<n) (hb:∀i,∀k∈sc i,hr k=true→b2 i=true)
  (hc:∀i,i<n→(b2 i||A.any fun k=>(sc i).contains k)=true→(hr i||A.contains i)=true) {i:Nat} (hi:i<n):(hr i||A.contains i)=true↔Tch (fun i=>hr i=true∨b2 i=true) sc i:=by
 constructor
 ·intro h1
  rcases Bool.or_eq_true_iff.1 h1 with h1|h1
  ·exact .zero (.inl h1)
  ·exact h.ok i (by simpa using h1)
 ·intro ht
  induction ht with
  |zero hq=>
   rcases hq with hq|hq
   ·rw [hq];rfl
   ·exact hc _ hi (by rw [hq];rfl)
  | @lean i k hk _ ih=>
   refine hc i hi ?_
   rw [Bool.or_eq_true]
   rcases Bool.or_eq_true_iff.1 (ih (hn _ _ hk)) with h1|h1
   ·exact .inl (hb i k hk h1)
   ·exact .inr (List.any_eq_true.2 ⟨k,by simpa using h1,by simpa using hk⟩)
end Go.Proofs.YtkkkfjgagjdcoaaGreatDoor.KFnExactDagOk

