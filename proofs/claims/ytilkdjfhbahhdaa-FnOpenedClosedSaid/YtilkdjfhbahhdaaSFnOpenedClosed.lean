import Derived.Test.YtilkdjfhbahhdaaTFnOpenedClosed
import Derived.Test.YtilkdjfhbahhdaaE32
import Derived.Lib.Strings
import Derived.Test.YtilkdjfhbahhdaaE34
import Derived.Test.YtilkdjfhbahhdaaSFnOpenedClosedp1
namespace Go.Proofs.Ytilkdjfhbahhdaa.KFnOpenedClosed
open Go.Eng
set_option linter.unusedVariables false
set_option linter.unusedSimpArgs false
theorem Ri (H:RdOK) (N:Nat) (hB:Q1 N) (hC:∀M,M<N->Rf M):Rf N:=by
 intro p q deep op kids f g hl hN hd hdN hf hg;cases f with
 |zero=>omega
 |succ f=>
 cases g with
 |zero=>omega
 |succ g=>
 cases g with
 |zero=>omega
 |succ g=>
 have hpq:=hl.2.2.2;have hpb:¬p.2.1=true:=by rw [hl.1];simp
 have hqb:¬q.2.1=true:=by rw [hl.2.1];simp
 have harg:Sim (HL (Fu p) (λp=>pP f (.bin 1 (deep+1)) p)) (sP (g+1) .arg q)/\(tb (HL (Fu p) (λp=>pP f (.bin 1 (deep+1)) p)).2.1).length<=N:=by
  refine ⟨?_,?_⟩
  ·have hw:Lk (wr (tb p.1),p.2) (wr (tb q.1),q.2):=⟨hl.1,hl.2.1,hl.2.2.1,by rw [hpq]⟩;obtain ⟨e1,e2⟩:=J3 (c:=58) (by decide) hw;simp only [sP];unfold HL Fu;simp only;rw [hpq] at e1 e2⊢;by_cases hc:(EI (BR (wd (tb q.1)))).2.2.2.2=true/\(Cm [58] (wr (tb q.1),p.2)).1=true
   ·rw [if_pos hc,if_pos ⟨hc.1,e1▸hc.2⟩];simp only;rw [e2.2.2.2];by_cases h2:(EI (BR (wd (tb (sIs [58] (wr (tb q.1),q.2)).2.1)))).2.2.2.2=true
    ·rw [if_pos h2,h2];simp only [Bool.not_true,Bool.or_false];exact Ix ⟨e2.1,e2.2.1,e2.2.2.1,rfl⟩
    ·rw [if_neg h2];refine .inr ⟨rfl,El (.inl ?_)⟩;simp only;have h2:(EI (BR (wd (tb (sIs [58] (wr (tb q.1),q.2)).2.1)))).2.2.2.2=false:=by simpa using h2
     rw [h2];simp
   ·rw [if_neg hc,if_neg (λe=>hc ⟨e.1,e1.symm▸e.2⟩)];simp only;have:=hB p (tb q.1,q.2) (deep+1) 4 f g (by omega) ⟨hl.1,hl.2.1,hl.2.2.1,by simp only;rw [FD];exact hpq⟩ hN (by omega) (by omega) (by omega) (by omega);exact this.sim
  ·unfold HL;split
   ·rw [Dd];have:=J1 p;omega
   ·have h1:=Gc f (.bin 1 (deep+1)) (Fu p).2;have h2:=J1 p;exact zX h1 (by omega)
 obtain ⟨harg,hal⟩:=harg;simp only [pP];rw [if_neg hpb];have hs:sP (g+1+1) (.call op kids) q=(if (sIs [41] (sP (g+1) .arg q).2).1=true then F6 (ndK 6 op (kids++ [(sP (g+1) .arg q).1])) (sIs [41] (sP (g+1) .arg q).2).2
  else sP (g+1) (.call op (kids++ [(sP (g+1) .arg q).1])) (if (sIs [44] (sIs [41] (sP (g+1) .arg q).2).2).1=true then (sIs [44] (sIs [41] (sP (g+1) .arg q).2).2).2 else Kt (sIs [44] (sIs [41] (sP (g+1) .arg q).2).2).2)):=by
  rw [sP];rw [if_neg hqb]
 rw [hs];generalize HL (Fu p) (λp=>pP f (.bin 1 (deep+1)) p)=Q at harg hal⊢;generalize sP (g+1) .arg q=A at harg⊢;rcases harg with ⟨h1,h2⟩|⟨h1,h2⟩
 ·have hb2:=h2.2.1;obtain ⟨c1,c2⟩:=J3 (c:=44) (by decide) h2;have i41:=LW (c:=41) hb2;have i44:=LW (c:=44) hb2;by_cases hc:(Cm [44] Q.2).1=true
  ·rw [if_pos hc];have hh:=i44.1 (c1▸hc);have n41:¬(sIs [41] A.2).1=true:=λe=>by rw [i41.1 e] at hh;cases hh
   rw [if_neg n41];have e41:(sIs [41] A.2).2=(tb A.2.1,A.2.2):=by
    unfold sIs at n41⊢;rw [if_neg (by rw [hb2];simp)] at n41⊢;split
    ·rename_i hx;rw [if_pos hx] at n41;exact absurd rfl n41
    ·rfl
   rw [e41];have e44:sIs [44] (tb A.2.1,A.2.2)=sIs [44] A.2:=by unfold sIs;simp only [FD]
   rw [e44,if_pos (c1▸hc),h1];have hlt:=Jq (w:= [44]) (by simp) hc;have htb:=C4 (Cm [44] Q.2).2.1;exact hC _ (by omega) (Cm [44] Q.2).2 (sIs [44] A.2).2 deep op _ f (g+1) c2 rfl hd (by omega) (by omega) (by omega)
  ·rw [if_neg hc];have et:(Cm [44] Q.2).2=(tb Q.2.1,Q.2.2):=by
    unfold Cm at hc⊢;split
    ·rename_i hx;rw [if_pos hx] at hc;exact absurd rfl hc
    ·rfl
   rw [et];have hl2:Lk (tb Q.2.1,Q.2.2) A.2:=⟨h2.1,h2.2.1,h2.2.2.1,by simp only;rw [FD];exact h2.2.2.2⟩;have hm:=Pw (c:=41) (by decide) (a:=(A.1,(tb Q.2.1,Q.2.2))) (b:=(A.1,A.2)) (.inl ⟨rfl,hl2⟩);by_cases h41:(sIs [41] A.2).1=true
   ·rw [if_pos h41];simp only [h41,if_true] at hm;have:=Pv (λ_=>ndK 6 op (kids++ [A.1])) hm;rw [h1];exact this
   ·rw [if_neg h41];have e41:(sIs [41] A.2).2=(tb A.2.1,A.2.2):=by
     unfold sIs at h41⊢;rw [if_neg (by rw [hb2];simp)] at h41⊢;split
     ·rename_i hx;rw [if_pos hx] at h41;exact absurd rfl h41
     ·rfl
    have e44:sIs [44] (tb A.2.1,A.2.2)=sIs [44] A.2:=by unfold sIs;simp only [FD]
    rw [e41,e44,if_neg (c1▸hc)];refine .inr ⟨MH _ _ _ rfl,El ?_⟩;simp only [if_neg h41] at hm;rcases hm with ⟨_,_,hb,_⟩|⟨_,hdm⟩
    ·simp [Kt] at hb
    ·exact hdm
 ·have e41:sIs [41] A.2=(false,tb A.2.1,A.2.2):=Iw h1;have e44:sIs [44] (tb A.2.1,A.2.2)=(false,tb (tb A.2.1),A.2.2):=Iw h1;rw [e41];simp only [dD,if_false];rw [e44];simp only [dD,if_false];refine .inr ⟨MH _ _ _ rfl,?_⟩;split
  ·exact Ey f _ _ (GJ h2)
  ·exact El (Ig (GJ h2))
theorem P0 {c d:UInt8} (h:c≠d) {r:LBy} (hr:r.head?=some c):¬r.head?=some d:=by rw [hr];simpa using h
theorem Rj (H:RdOK) (N:Nat) (hA:∀M,M<N->Rc M) (hB:∀M,M<N->Q1 M) (hC:∀M,M<N->Rf M):Rc N:=by
 intro p q deep f g hl hN hd hdN hf hg;cases f with
 |zero=>omega
 |succ f=>
 cases f with
 |zero=>omega
 |succ f=>
 cases g with
 |zero=>omega
 |succ g=>
 cases g with
 |zero=>omega
 |succ g=>
 have hpq:=hl.2.2.2;have hpb:¬p.2.1=true:=by rw [hl.1];simp
 have hqb:¬q.2.1=true:=by rw [hl.2.1];simp
 have hq0:=hl.2.1;have hs:sP (g+1+1) (.row 5) q=sP (g+1) .one q:=by
  rw [sP,if_neg hqb,if_pos rfl]
 rw [hs];obtain ⟨e1,e2⟩:=J3 (c:=45) (by decide) hl;rw [pP];rw [if_neg (by intro e;rcases e with e|e;omega;exact hpb e)];by_cases hc:(Cm [45] p).1=true
 ·rw [if_pos hc];simp only [sP];rw [if_pos (e1▸hc)];have hlt:=Jq (w:= [45]) (by simp) hc;have htb:=C4 (Cm [45] p).2.1;exact Pv (λk=>ndK 4 0 [k]) (hA _ (by omega) _ _ (deep+1) (f+1) g e2 rfl (by omega) (by omega) (by omega) (by omega))
 ·rw [if_neg hc];have hp':(Cm [45] p).2=(tb p.1,p.2):=by
   unfold Cm at hc⊢;split
   ·rename_i hx;rw [if_pos hx] at hc;exact absurd rfl hc
   ·rfl
  have hq':(sIs [45] q).2=(tb q.1,q.2):=by
   have hc:¬(sIs [45] q).1=true:=e1▸hc;unfold sIs at hc⊢;rw [if_neg hqb] at hc⊢;split
   ·rename_i hx;rw [if_pos hx] at hc;exact absurd rfl hc
   ·rfl
  rw [hp'];simp only [sP];rw [if_neg (e1▸hc),hq'];simp only [pP,FD];have hl2:Lk (tb p.1,p.2) (tb q.1,q.2):=⟨hl.1,hl.2.1,hl.2.2.1,by simp only [FD];exact hpq⟩;obtain ⟨f1,f2⟩:=J3 (c:=40) (by decide) hl2;have i40:=LW (c:=40) (q:=(tb q.1,q.2)) hq0;have i34:=LW (c:=34) (q:=(tb q.1,q.2)) hq0;have i35:=LW (c:=35) (q:=(tb q.1,q.2)) hq0;simp only [FD] at i40 i34 i35;rw [hpq] at hN f1 f2⊢;by_cases h34:(tb q.1).head?=some 34
  ·rw [if_pos h34,if_neg (λe=>P0 (by decide) h34 (i40.1 e)),if_pos (i34.2 h34)];have es:(sIs [34] (tb q.1,q.2)).2.1=(tb q.1).tail:=by
    have:=i34.2 h34;unfold sIs at this⊢;rw [if_neg hqb] at this⊢;simp only [FD] at this⊢;split
    ·simp
    ·rename_i hx;rw [if_neg hx] at this;cases this
   rw [es];cases hqr:FC [] (tb q.1).tail with
   |none=>exact .inr ⟨rfl,.inl rfl⟩
   |some st=>
    obtain ⟨s,t⟩:=st;exact Ix ⟨hl.1,hl.2.1,hl.2.2.1,rfl⟩
  ·rw [if_neg h34];by_cases h35:(tb q.1).head?=some 35
   ·rw [if_pos h35,if_neg (λe=>P0 (by decide) h35 (i40.1 e)),if_neg (λe=>h34 (i34.1 e)),if_pos (i35.2 h35)];have es:(sIs [35] (tb q.1,q.2)).2.1=(tb q.1).tail:=by
     have:=i35.2 h35;unfold sIs at this⊢;rw [if_neg hqb] at this⊢;simp only [FD] at this⊢;split
     ·simp
     ·rename_i hx;rw [if_neg hx] at this;cases this
    rw [es,Q0 H h35 5 1 (by omega) (by omega)];cases he:Nn (tb q.1) 1 5 with
    |some n=>
     simp only;obtain ⟨t,ht⟩:=H.n n (by have:=Py 5 1 he;omega);have hsz:(qz n).size=t.length+1:=by rw [<-Dk,ht];rfl
     refine Ix ⟨hl.1,hl.2.1,hl.2.2.1,?_⟩;simp only;rw [hsz];cases hr:tb q.1 with
     |nil=>rw [hr] at h35;cases h35
     |cons c r=>rfl
    |none=>
     simp only;rw [if_neg (λe=>e.1 h35)];have hw:wd (tb q.1)= []:=by
      cases hr:tb q.1 with
      |nil=>rw [hr] at h35;cases h35
      |cons c r=>
       rw [hr] at h35;simp only [List.head?_cons,zO] at h35;subst h35;rfl
     rw [hw,if_neg (λe=>H.v0 e.2),if_neg (by rw [H.p0];simp),H.f0];exact .inr ⟨rfl,HA _⟩
   ·rw [if_neg h35];simp only;by_cases h40:(Cm [40] (tb q.1,p.2)).1=true
    ·rw [if_pos ⟨h35,h40⟩,if_pos (f1▸h40)];have hlt:=Jq (w:= [40]) (by simp) h40;simp only [FD] at hlt;have htb:=C4 (Cm [40] (tb q.1,p.2)).2.1;have hb:=(hB _ (by omega) _ _ (deep+1) 4 f g (by omega) f2 rfl (by omega) (by omega) (by omega) (by omega)).sim;have e5:(5-((4:Nat):Int))=1:=by omega
     rw [e5] at hb;exact Pw (by decide) hb
    ·have n40:¬(sIs [40] (tb q.1,q.2)).1=true:=f1▸h40;have n34:¬(sIs [34] (tb q.1,q.2)).1=true:=λe=>h34 (i34.1 e)
     have n35:¬(sIs [35] (tb q.1,q.2)).1=true:=λe=>h35 (i35.1 e)
     rw [if_neg (λe=>h40 e.2),if_neg n40,if_neg n34,if_neg n35];have hl3:Lk (wr (tb q.1),p.2) (wr (tb q.1),q.2):=⟨hl.1,hl.2.1,hl.2.2.1,rfl⟩;cases hfn:M1 (wd (tb q.1)) 1 10 with
     |some op=>
      simp only;obtain ⟨z1,z2⟩:=H.f _ _ hfn;rw [if_neg (by rw [z1];simp),if_neg (by rw [z2];simp)];have hne:1<=(wd (tb q.1)).length:=by
       cases hw:wd (tb q.1) with
       |nil=>rw [hw,H.f0] at hfn;cases hfn
       |cons c t=>simp
      have hlen:(wr (tb q.1)).length+1<=N:=by
       have:=congrArg List.length (wdr (tb q.1));simp only [zamO] at this;omega
      obtain ⟨k1,k2⟩:=J3 (c:=40) (by decide) hl3;cases f with
      |zero=>omega
      |succ f=>
       simp only [pP];by_cases ht:(sIs [40] (wr (tb q.1),q.2)).1=true
       ·rw [if_pos ht];have em:G9 [40] (wr (tb q.1),p.2)=(Cm [40] (wr (tb q.1),p.2)).2:=by
         unfold G9;rw [if_neg hpb,if_pos (k1▸ht)]
        rw [em];have hlt:=Jq (w:= [40]) (by simp) (k1.symm▸ht);have h2:=C4 (wr (tb q.1));have h3:=C4 (Cm [40] (wr (tb q.1),p.2)).2.1;simp only at hlt;exact hC _ (by omega) _ _ deep op [] f g k2 rfl hd (by omega) (by omega) (by omega)
       ·rw [if_neg ht];have em:G9 [40] (wr (tb q.1),p.2)=Qy (Cm [40] (wr (tb q.1),p.2)).2:=by
         unfold G9;rw [if_neg hpb,if_neg (k1▸ht)]
        rw [em];exact .inr ⟨rfl,Ey f _ _ (HA _)⟩
     |none=>
      simp only;by_cases hw0:wd (tb q.1)= []
      ·rw [hw0,if_neg (λe=>H.v0 e.2),if_neg (by rw [H.p0];simp),if_neg (λe=>e.2 rfl),if_neg (by rw [H.p0];simp)];exact .inr ⟨rfl,HA _⟩
      ·by_cases hv:(Cr (BR (wd (tb q.1)))).2.2.2=true
       ·rw [if_pos ⟨hv,H.v _ (QD _) hw0 hv⟩,if_pos ⟨hv,hw0⟩];exact Ix hl3
       ·have nv1:¬((Cr (BR (wd (tb q.1)))).2.2.2=true/\((Cr (BR (wd (tb q.1)))).1=1\/(Cr (BR (wd (tb q.1)))).1=3)):=λe=>hv e.1
        have nv2:¬((Cr (BR (wd (tb q.1)))).2.2.2=true/\wd (tb q.1)≠ []):=λe=>hv e.1
        rw [if_neg nv1,if_neg nv2];by_cases hp:(EI (BR (wd (tb q.1)))).2.2.2.2=true
        ·rw [if_pos hp,if_pos hp];exact Ix hl3
        ·rw [if_neg hp,if_neg hp];exact .inr ⟨rfl,HA _⟩
theorem Rk (H:RdOK) (N:Nat):Rc N/\Re N/\Q1 N/\Rf N:=by
 induction N using Nat.strongRecOn with
 |ind N ih=>
  have hA:=Rj H N (λM h=>(ih M h).1) (λM h=>(ih M h).2.2.1) (λM h=>(ih M h).2.2.2);have hT:=Sf N (λM h=>(ih M h).2.2.1) (λM h=>(ih M h).2.1);have hB:=Rh N hA (λM h=>(Nat.lt_or_eq_of_le h).elim (λh=>(ih M h).2.1) (λh=>h▸hT));exact ⟨hA,hT,hB,Ri H N hB (λM h=>(ih M h).2.2.2)⟩
theorem FJ (r:LBy):(BR r).toList=r:=Oh r
theorem C5 (r:LBy):(BR r).size=r.length:=by rw [<-Dk,FJ]
theorem Np (s:BA):BR s.toList=s:=II (FJ _)
theorem Q2 (r:LBy) (a b:Nat):(BR r).extract a b=BR ((r.take b).drop a):=by
 refine II ?_;rw [FJ,zao,ByteArray.data_extract,Array.toList_extract];simp [BR,List.extract_eq_take_drop,List.drop_take]
theorem Q3 (a b:LBy):BR a++BR b=BR (a++b):=by
 refine II ?_;rw [FJ,zao];simp [BR]
def HB (c:Nd):Prop:=(kd c).length<=2000/\c.2.2.2.2.1.size<=2000
structure Gd (p:PS):Prop where
 r:p.1.length<=1000
 n:p.2.2.length<=60
 s:∀x∈p.2.2,HB x
theorem Iy {x:Nd} {p:PS} (h:Gd p) (hx:HB x):Gd (If x p).2:=by
 unfold If;split
 ·exact ⟨h.r,h.n,h.s⟩
 ·rename_i hh;refine ⟨h.r,?_,λy hy=>?_⟩
  ·have:¬60<=p.2.2.length:=λe=>hh (.inr e)
   simp;omega
  ·simp at hy;rcases hy with hy|rfl
   ·exact h.s _ hy
   ·exact hx
theorem HN {w:LBy} {p:PS} (h:Gd p):Gd (Cm w p).2:=by
 have:=J0 w p;have h2:=C4 p.1;have h3:=h.r;refine ⟨by omega,?_,?_⟩
 ·unfold Cm;split<;>exact h.n
 ·unfold Cm;split<;>exact h.s
theorem Q4 (r:LBy):(wd r).length<=r.length:=by
 have:=congrArg List.length (wdr r);simp only [zamO] at this;omega
theorem SS (acc t:LBy):FC acc (34::34::t)=FC (acc++ [34]) t:=(FC.eq_def acc _).trans (by simp)
theorem SU (acc t:LBy) (h:t.head?≠some 34):FC acc (34::t)=some (acc,t):=by
 refine (FC.eq_def acc _).trans ?_;cases t with
 |nil=>simp
 |cons d t=>
  have:¬d=34:=λe=>h (by rw [e];rfl)
  simp [this]
theorem SV (acc t:LBy) {c:UInt8} (h:¬c=34):FC acc (c::t)=FC (acc++ [c]) t:=(FC.eq_def acc _).trans (by simp only [if_neg h])
theorem Hh:∀(k:Nat) (acc r:LBy) {s t:LBy},r.length<=k->FC acc r=some (s,t)->s.length<=acc.length+r.length+1
 |k,acc,[],s,t,hk,h=>by simp [FC] at h
 |0,acc,c::r,s,t,hk,h=>by simp at hk
 |k+1,acc,c::r,s,t,hk,h=>by
  simp only [zamM] at hk;unfold FC at h;split at h
  ·cases r with
   |nil=>
    simp at h;rw [<-h.1];simp;omega
   |cons d r'=>
    simp only at h;split at h
    ·have:=Hh k _ r' (by simp at hk;omega) h;simp at this⊢;omega
    ·simp at h;rw [<-h.1];simp;omega
  ·have:=Hh k _ r (by omega) h;simp at this⊢;omega
theorem Rl {p:PS} (h:Gd p):Gd (Fu p).2/\(Fu p).2.1.length<=p.1.length/\∀x,(Fu p).1=some x->HB x:=by
 have h1:=C4 p.1;have h2:=Jp (tb p.1);have h0:=h.r;unfold Fu;simp only;split
 ·have h3:=J0 [58] (wr (tb p.1),p.2);have h4:=C4 (Cm [58] (wr (tb p.1),p.2)).2.1;have h5:=Jp (tb (Cm [58] (wr (tb p.1),p.2)).2.1);have h6:=C4 (wr (tb p.1));have e:(Cm [58] (wr (tb p.1),p.2)).2.2.2=p.2.2:=by unfold Cm;split<;>rfl
  simp only at h3;refine ⟨⟨by simp only;omega,by rw [e];exact h.n,by rw [e];exact h.s⟩,by simp only;omega,λx hx=>?_⟩;cases hx;exact ⟨by simp [kd,ndA],by simp [ndA,em];decide⟩
 ·exact ⟨h,zI _,λx hx=>by cases hx⟩
theorem Jr {s:BA} (h:(Cr s).2.2.2=true) (hk:(Cr s).1=1\/(Cr s).1=3):(Cr s).2.2.1.size<=2000:=by
 unfold Cr at h hk⊢;split at h
 ·rename_i hc;rw [if_pos hc] at hk⊢;have h1:=hc.1;unfold okV at h1;have h2:¬(E9 s).1=2:=by
   simp only at hk;omega
  rw [if_neg h2] at h1;simp only [zY,zanG] at h1;have:=congrArg List.length h1.1;rw [Dk] at this;have h0:(E9 s).2.2.size=0:=this;show (E9 s).2.2.size<=2000;omega
 ·cases h
def Kj:PJ->PS->Prop
 | .args _ _ kids,p=>kids.length+p.1.length<=1500
 |_,_=>True
theorem PT {w:LBy} {p:PS} (h:Gd p):Gd (G9 w p)/\(G9 w p).1.length<=p.1.length:=by
 have h1:=J0 w p;have h2:=C4 p.1;unfold G9;split
 ·exact ⟨h,zI _⟩
 ·split
  ·exact ⟨HN h,by omega⟩
  ·exact ⟨⟨(HN h).r,(HN h).n,(HN h).s⟩,by show (Cm w p).2.1.length<=_;omega⟩
theorem LX {p:PS} {r:LBy} (h:Gd p) (hr:r.length<=p.1.length):Gd (r,p.2):=⟨by have:=h.r;simp only;omega,h.n,h.s⟩
theorem Ih:∀(f:Nat) (j:PJ) (p:PS),Gd p->Kj j p->Gd (pP f j p).2/\(pP f j p).2.1.length<=p.1.length
 |0,j,p,h,_=>⟨h,zI _⟩
 |f+1,.bin least deep,p,h,_=>by
  unfold pP;have a:=Ih f (.un deep) p h trivial;have b:=Ih f (.loop least deep (pP f (.un deep) p).1) (pP f (.un deep) p).2 a.1 trivial;exact ⟨b.1,zX b.2 a.2⟩
 |f+1,.loop least deep a,p,h,_=>by
  have h1:=C4 p.1;unfold pP;split
  ·exact ⟨h,zI _⟩
  ·split
   ·exact ⟨LX h h1,h1⟩
   ·have l1:((tb p.1).drop (sgn (tb p.1)).length).length<=p.1.length:=by simp;omega
    have b:=Ih f (.bin (lvl (EO (tb p.1))+1) deep) ((tb p.1).drop (sgn (tb p.1)).length,p.2) (LX h l1) trivial;simp only;have c:=Iy (x:=ndK 5 (EO (tb p.1)) [a,(pP f (.bin (lvl (EO (tb p.1))+1) deep) ((tb p.1).drop (sgn (tb p.1)).length,p.2)).1]) b.1 ⟨by simp [kd,ndK],by simp [ndK,em];decide⟩;have d:=Ih f (.loop least deep (If (ndK 5 (EO (tb p.1)) [a,(pP f (.bin (lvl (EO (tb p.1))+1) deep) ((tb p.1).drop (sgn (tb p.1)).length,p.2)).1]) (pP f (.bin (lvl (EO (tb p.1))+1) deep) ((tb p.1).drop (sgn (tb p.1)).length,p.2)).2).1) _ c trivial;refine ⟨d.1,zX d.2 ?_⟩;rw [Dd];exact zX b.2 l1
 |f+1,.un deep,p,h,_=>by
  have h1:=C4 p.1;have h2:=J0 [45] p;unfold pP;split
  ·exact ⟨⟨h.r,h.n,h.s⟩,zI _⟩
  ·split
   ·simp only;have b:=Ih f (.un (deep+1)) (Cm [45] p).2 (HN h) trivial;refine ⟨Iy b.1 ⟨by simp [kd,ndK],by simp [ndK,em];decide⟩,?_⟩;rw [Dd];exact zX b.2 (by omega)
   ·have b:=Ih f (.at deep) (Cm [45] p).2 (HN h) trivial;exact ⟨b.1,zX b.2 (by omega)⟩
 |f+1,.at deep,p,h,_=>by
  have h1:=C4 p.1;have h2:=J0 [40] p;have h3:=Jp (tb p.1);have h4:=h.r;have g2:Gd (wr (tb p.1),p.2):=LX h (by omega);unfold pP;simp only;split
  ·split
   ·exact ⟨⟨by simp only;omega,h.n,h.s⟩,h1⟩
   ·rename_i hh _ s t hq;have a:=J2 _ _ hq;have b:=Hh _ _ _ (zI _) hq;simp only [List.length_tail,zanD] at a b;refine ⟨Iy (LX h (by omega)) ⟨by simp [kd,nd1],by simp only [nd1,C5];omega⟩,?_⟩;rw [Dd];simp only;omega
  ·split
   ·refine ⟨Iy (LX h (by simp;omega)) ⟨by simp [kd,nd1],by simp [nd1,em];decide⟩,?_⟩;rw [Dd];simp;omega
   ·split
    ·have b:=Ih f (.bin 1 (deep+1)) (Cm [40] p).2 (HN h) trivial;have c:=PT (w:= [41]) b.1;exact ⟨c.1,zX c.2 (zX b.2 (by omega))⟩
    ·split
     ·rename_i hv;refine ⟨Iy g2 ⟨by simp [kd,nd1],Jr hv.1 hv.2⟩,?_⟩;rw [Dd];simp only;omega
     ·split
      ·refine ⟨Iy g2 ⟨by simp [kd,ndC],by simp [ndC,em];decide⟩,?_⟩;rw [Dd];simp only;omega
      ·split
       ·rename_i op _;have b:=Ih f (.call op deep) (wr (tb p.1),p.2) g2 trivial;exact ⟨b.1,zX b.2 (by simp only;omega)⟩
       ·exact ⟨⟨g2.r,g2.n,g2.s⟩,by show (wr (tb p.1)).length<=_;omega⟩
 |f+1,.call op deep,p,h,_=>by
  unfold pP;have a:=PT (w:= [40]) h;have b:=Ih f (.args op deep []) (G9 [40] p) a.1 (by have:=a.1.r;show 0+_<=_;omega);exact ⟨b.1,zX b.2 a.2⟩
 |f+1,.args op deep kids,p,h,hk=>by
  replace hk:kids.length+p.1.length<=1500:=hk
  unfold pP;split
  ·refine ⟨Iy h ⟨by simp [kd,ndK];omega,by simp [ndK,em];decide⟩,?_⟩;rw [Dd];exact zI _
  ·simp only;have a:=Rl h;have qg:Gd (HL (Fu p) (λp=>pP f (.bin 1 (deep+1)) p)).2/\(HL (Fu p) (λp=>pP f (.bin 1 (deep+1)) p)).2.1.length<=p.1.length:=by
    unfold HL;split
    ·rename_i x hx;refine ⟨Iy a.1 (a.2.2 x hx),?_⟩;rw [Dd];exact a.2.1
    ·have b:=Ih f (.bin 1 (deep+1)) (Fu p).2 a.1 trivial;exact ⟨b.1,zX b.2 a.2.1⟩
   generalize HL (Fu p) (λp=>pP f (.bin 1 (deep+1)) p)=q at qg⊢;have t0:=qg.2;have t1:=C4 q.2.1;have t2:=J0 [44] q.2;split
   ·rename_i ht;have t3:=Jq (by simp) ht;have b:=Ih f (.args op deep (kids++ [q.1])) (Cm [44] q.2).2 (HN qg.1) (by show (kids++ [q.1]).length+_<=_;simp;omega);exact ⟨b.1,zX b.2 (by omega)⟩
   ·have c:=PT (w:= [41]) (HN (w:= [44]) qg.1);refine ⟨Iy c.1 ⟨by simp [kd,ndK];omega,by simp [ndK,em];decide⟩,?_⟩;rw [Dd];exact zX c.2 (by omega)
theorem QW {r w:LBy} (hw:w≠ []) (h:w<+:r):(tb (r.drop w.length)).length<r.length:=by
 have h1:=C4 (r.drop w.length);have h2:=h.length_le;have h3:0<w.length:=List.length_pos_iff.2 hw;simp only [List.length_drop] at h1;omega
theorem Ot {c:UInt8} {r:LBy} (h:r.head?=some c):∃t,r=c::t:=by
 cases r with
 |nil=>cases h
 |cons d t=>simp at h;subst h;exact ⟨t,rfl⟩
def pos (s r:LBy):Int:=((s.length-r.length:Nat):Int)
def Eu (s:LBy) (q:PS):BA×Int×Bool×Nat×RW:=(BR s,pos s q.1,q.2.1,q.2.2.length,q.2.2.map qf)
def Ee (s:LBy) (r:Int×PS):Int×BA×Int×Bool×Nat×RW:=(r.1,Eu s r.2)
theorem P1 {s r:LBy} (h:r<:+s):s.drop (s.length-r.length)=r:=by
 obtain ⟨t,rfl⟩:=h;simp
theorem QX (s r:LBy):(pos s r).toNat=s.length-r.length:=by unfold pos;simp
theorem Ka (s r:LBy):0<=pos s r:=by unfold pos;omega
theorem FK {s r:LBy} (h:r<:+s):r.length<=s.length:=h.length_le
theorem J4 {s r t:LBy} {k:Nat} (h:r<:+s) (e:t=r.drop k) (hk:k<=r.length):pos s r+(k:Int)=pos s t:=by
 subst e;have:=FK h;unfold pos;simp only [List.length_drop];omega
theorem LY {s r:LBy} (h:r<:+s):(BR s).toList[(pos s r).toNat]?=r.head?:=by
 rw [FJ,QX,<-List.head?_drop,P1 h]
theorem QE {s r:LBy} (h:r<:+s):tb r<:+s:=(List.dropWhile_suffix _).trans h
theorem Nq {s t:LBy} {c:UInt8} (h:(c::t)<:+s):t<:+s:=(List.suffix_cons c t).trans h
theorem M5 {s r:LBy} {k:Nat} (h:r<:+s):(BR s).extract (pos s r).toNat (pos s r+(k:Int)).toNat=BR (r.take k):=by
 rw [Q2,QX,show (pos s r+(k:Int)).toNat=(s.length-r.length)+k by unfold pos;omega,<-List.take_drop,P1 h]
theorem Nr {b:Bool} (h:b=true):(!b)=false:=by rw [h];rfl
theorem Js {b:Bool} (h:b=false):(!b)=true:=by rw [h];rfl
theorem Ou {s:LBy} (hs:s.length<=1000) (n:Nat) (b:Bool) (m:Nat) (rows:RW):∀(r:LBy) (M:Nat),r<:+s->r.length+1<=M->zL (Fc n) M (BR s,pos s r,b,m,rows)=some (BR s,pos s (tb r),b,m,rows)
 |r,0,_,h=>by omega
 | [],M+1,h,_=>by
  exact qd (qh (zu (show ¬pos s []<((BR s).size:Int) by rw [C5];unfold pos;simp)) rfl)
 |c::t,M+1,h,hM=>by
  have hl:=FK h;simp only [zamM] at hl hM;have g:=LY h;have p1:pos s (c::t)<((BR s).size:Int):=by rw [C5];unfold pos;simp only [zamM];omega
  by_cases hc:c=32
  ·subst hc;have w1:IntKind.i64.wrap (pos s (32::t)+1)=pos s t:=by
    have:=J4 (k:=1) h (t:=t) rfl (by simp);rw [qn (by unfold pos;omega)];exact this
   rw [qu (v':=(BR s,pos s t,b,m,rows)) (by
    refine qb (zJ p1) (qb (zJ (Ka _ _)) (qa g (qb rfl ?_)));rw [Da,w1])]
   have e:tb (32::t)=tb t:=by simp [tb]
   rw [e];exact Ou hs n b m rows t M (Nq h) (by omega)
  ·have e:tb (c::t)=c::t:=by simp [tb,hc]
   rw [e];refine qd (qb (zJ p1) (qb (zJ (Ka _ _)) (qa g (qh ?_ rfl))));rw [zanF];intro e;exact hc (UInt8.toNat_inj.1 (show c.toNat=32 by omega))
theorem PU {s:LBy} (hs:s.length<=1000) (q:PS) (h:q.1<:+s):Ev (D7 · (BR s) (pos s q.1) q.2.1 q.2.2.length (q.2.2.map qf)) (Eu s (tb q.1,q.2)):=by
 have hl:=FK h;refine ⟨q.1.length+2,λn hn=>?_⟩;obtain ⟨k,rfl,hm⟩:=up1 hn;exact qa (Ou hs k q.2.1 q.2.2.length (q.2.2.map qf) q.1 k h (by omega)) rfl
theorem Hi {s:LBy} (hs:s.length<=1000) (w:LBy) (hw:w.length<=1000) (q:PS) (h:q.1<:+s):Ev (q7 · (BR w) (BR s) (pos s q.1) q.2.1 q.2.2.length (q.2.2.map qf)) ((sIs w q).1,Eu s (sIs w q).2):=by
 obtain ⟨n1,h1⟩:=PU hs q h;have ht:=QE h;have hl:=FK ht;refine ⟨n1+1,λn hn=>?_⟩;obtain ⟨k,rfl,hm⟩:=up1 hn;have w1:IntKind.i64.wrap (pos s (tb q.1)+((BR w).size:Int))=pos s (tb q.1)+(w.length:Int):=by rw [C5];exact qn (by unfold pos;omega)
 unfold sIs;cases hb:q.2.1 with
 |true=>
  rw [if_pos rfl];have h1:=h1 k (by omega);rw [hb] at h1;refine qa h1 (qb hb ?_);rw [Da]
 |false=>
  have h1:=h1 k (by omega);rw [hb] at h1;rw [if_neg (by simp)];by_cases hf:pos s (tb q.1)+(w.length:Int)>(s.length:Int)
  ·have hn:¬w.isPrefixOf (tb q.1)=true:=by
    intro e;have:=(List.isPrefixOf_iff_prefix.1 e).length_le;unfold pos at hf;omega
   rw [if_neg hn];refine qa h1 (qh hb (qb (zJ (show IntKind.i64.wrap (pos s (tb q.1)+((BR w).size:Int))>((BR s).size:Int) by rw [w1,C5];exact hf)) ?_));rw [Da]
  ·have hx:=M5 (k:=w.length) ht;have hwl:w.length<=(tb q.1).length:=by unfold pos at hf;omega
   have cmp:((BR s).extract (pos s (tb q.1)).toNat (IntKind.i64.wrap (pos s (tb q.1)+((BR w).size:Int))).toNat).toList==(BR w).toList↔w.isPrefixOf (tb q.1)=true:=by
    rw [w1,hx,FJ,FJ,zanG,List.isPrefixOf_iff_prefix,List.prefix_iff_eq_take];exact ⟨λe=>e.symm,λe=>e.symm⟩
   refine qa h1 (qh hb (qh (zu (show ¬IntKind.i64.wrap (pos s (tb q.1)+((BR w).size:Int))>((BR s).size:Int) by rw [w1,C5];exact hf)) (qb (zJ (show 0<=pos s (tb q.1)/\pos s (tb q.1)<=IntKind.i64.wrap (pos s (tb q.1)+((BR w).size:Int))/\IntKind.i64.wrap (pos s (tb q.1)+((BR w).size:Int))<=((BR s).size:Int) by rw [w1,C5];exact ⟨Ka _ _,by omega,by omega⟩)) ?_)));by_cases hp:w.isPrefixOf (tb q.1)=true
   ·rw [if_pos hp];refine qh (Nr (cmp.2 hp)) ?_;rw [Da];show some (true,BR s,IntKind.i64.wrap (pos s (tb q.1)+((BR w).size:Int)),q.2.1,q.2.2.length,q.2.2.map qf)=_;rw [w1,J4 ht rfl hwl];rfl
   ·rw [if_neg hp];refine qb (Js (by rw [jR];exact λe=>hp (cmp.1 e))) ?_;rw [Da]
theorem Jt {s:LBy} (x:Nd) (q:PS) (h:q.2.2.length<=5000) (hx:HB x):Ev (qv · x.1 x.2.1 x.2.2.1 x.2.2.2.1 x.2.2.2.2.1 x.2.2.2.2.2.1 x.2.2.2.2.2.2.1 x.2.2.2.2.2.2.2.1 x.2.2.2.2.2.2.2.2.1 x.2.2.2.2.2.2.2.2.2.1 x.2.2.2.2.2.2.2.2.2.2.1 x.2.2.2.2.2.2.2.2.2.2.2.1 x.2.2.2.2.2.2.2.2.2.2.2.2.1 ((kd x).map DG) (BR s) (pos s q.1) q.2.1 q.2.2.length (q.2.2.map qf)) (Ee s (F6 x q)):=by
 obtain ⟨n1,h1⟩:=Gr x (by have:=hx.2;omega);refine ⟨n1+1,λn hn=>?_⟩;obtain ⟨k,rfl,hm⟩:=up1 hn;have w2:IntKind.i64.wrap ((((q.2.2.length+1):Nat):Int)-1)=(q.2.2.length:Int):=by rw [qn (by omega)];omega
 refine qb rfl (qb (zJ ⟨by simp,by decide,by decide,by simp;omega,rfl⟩) ?_);unfold F6;by_cases h6:60<q.2.2.length+1
 ·rw [if_pos (.inl h6)];refine qb (zJ (by omega)) ?_;rw [Da,w2];simp only [Ee,Eu,List.map_append,zamO];rfl
 ·refine qh (zu (by omega)) (qa (h1 k (by omega)) ?_);cases ho:EJ x with
  |true=>
   rw [if_neg (λe=>e.elim h6 (by simp))];refine qh rfl ?_;rw [Da,w2];simp only [Ee,Eu,List.map_append,zamO];rfl
  |false=>
   rw [if_pos (.inr rfl)];refine qb rfl ?_;rw [Da,w2];simp only [Ee,Eu,List.map_append,zamO];rfl
theorem MW {s:LBy} (hs:s.length<=1000) (n:Nat) (at0:Int) (b:Bool) (m:Nat) (rows:RW):∀(r:LBy) (M:Nat),r<:+s->r.length+1<=M->zL (ER n) M (at0,BR s,pos s r,b,m,rows)=some (at0,BR s,pos s (wr r),b,m,rows)
 |r,0,_,h=>by omega
 | [],M+1,h,_=>by
  exact qd (qh (zu (show ¬pos s []<((BR s).size:Int) by rw [C5];unfold pos;simp)) rfl)
 |c::t,M+1,h,hM=>by
  have hl:=FK h;simp only [zamM] at hl hM;have g:=LY h;have p1:pos s (c::t)<((BR s).size:Int):=by rw [C5];unfold pos;simp only [zamM];omega
  have p0:decide (0<=pos s (c::t))=true:=zJ (Ka _ _);have w1:IntKind.i64.wrap (pos s (c::t)+1)=pos s t:=by
   have:=J4 (k:=1) h (t:=t) rfl (by simp);rw [qn (by unfold pos;omega)];exact this
  have yes:(wch c=true)->(ER n (at0,BR s,pos s (c::t),b,m,rows)).run=some (.inl (at0,BR s,pos s t,b,m,rows)):=λhc=>by
   have fin:some (Sum.inl (at0,BR s,IntKind.i64.wrap (pos s (c::t)+1),b,m,rows))=(some (Sum.inl (at0,BR s,pos s t,b,m,rows)):Option (_⊕(Int×BA×Int×Bool×Nat×RW))):=by rw [w1]
   refine qb (zJ p1) (qb p0 (qa g ?_));by_cases a1:(c.toNat:Int)≥65
   ·refine qb (zJ a1) (qb p0 (qa g ?_));by_cases a2:(c.toNat:Int)<=90
    ·exact qb (zJ a2) fin
    ·refine qh (zu a2) (qb p0 (qa g ?_));by_cases a3:(c.toNat:Int)≥48
     ·refine qb (zJ a3) (qb p0 (qa g ?_));by_cases a4:(c.toNat:Int)<=57
      ·exact qb (zJ a4) fin
      ·refine qh (zu a4) (qb p0 (qa g ?_));have a5:c=36:=by
        unfold wch at hc;simp only [Bool.or_eq_true,zY,aZ,zanG] at hc;rcases hc with hc|hc|hc
        ·omega
        ·omega
        ·exact hc
       exact qb (by rw [a5];rfl) fin
     ·omega
   ·refine qh (zu a1) (qb p0 (qa g ?_));by_cases a3:(c.toNat:Int)≥48
    ·refine qb (zJ a3) (qb p0 (qa g ?_));by_cases a4:(c.toNat:Int)<=57
     ·exact qb (zJ a4) fin
     ·refine qh (zu a4) (qb p0 (qa g ?_));have a5:c=36:=by
       unfold wch at hc;simp only [Bool.or_eq_true,zY,aZ,zanG] at hc;rcases hc with hc|hc|hc
       ·omega
       ·omega
       ·exact hc
      exact qb (by rw [a5];rfl) fin
    ·refine qh (zu a3) (qb p0 (qa g ?_));have a5:c=36:=by
      unfold wch at hc;simp only [Bool.or_eq_true,zY,aZ,zanG] at hc;rcases hc with hc|hc|hc
      ·omega
      ·omega
      ·exact hc
     exact qb (by rw [a5];rfl) fin
  have no:(wch c=false)->(ER n (at0,BR s,pos s (c::t),b,m,rows)).run=some (.inr (at0,BR s,pos s (c::t),b,m,rows)):=λhc=>by
   have hc':¬((65<=c.toNat/\c.toNat<=90)\/(48<=c.toNat/\c.toNat<=57)\/c=36):=λe=>by
    have:wch c=true:=by
     unfold wch;simp only [Bool.or_eq_true,zY,aZ,zanG];exact e
    rw [hc] at this;cases this
   have a5:((c.toNat:Int)==36)=false:=by
    rw [zanF];intro e;exact hc' (.inr (.inr (UInt8.toNat_inj.1 (show c.toNat=36 by omega))))
   refine qb (zJ p1) (qb p0 (qa g ?_));by_cases a1:(c.toNat:Int)≥65
   ·have a2:¬(c.toNat:Int)<=90:=λe=>hc' (.inl ⟨by omega,by omega⟩)
    refine qb (zJ a1) (qb p0 (qa g (qh (zu a2) ?_)));refine qb p0 (qa g (qb (zJ (show (c.toNat:Int)≥48 by omega)) ?_));exact qb p0 (qa g (qh (zu (show ¬(c.toNat:Int)<=57 by omega)) (qb p0 (qa g (qh a5 rfl)))))
   ·refine qh (zu a1) (qb p0 (qa g ?_));by_cases a3:(c.toNat:Int)≥48
    ·have a4:¬(c.toNat:Int)<=57:=λe=>hc' (.inr (.inl ⟨by omega,by omega⟩))
     exact qb (zJ a3) (qb p0 (qa g (qh (zu a4) (qb p0 (qa g (qh a5 rfl))))))
    ·exact qh (zu a3) (qb p0 (qa g (qh a5 rfl)))
  cases hc:wch c with
  |true=>
   rw [qu (yes hc),show wr (c::t)=wr t by simp [wr,hc]];exact MW hs n at0 b m rows t M (Nq h) (by omega)
  |false=>
   rw [qd (no hc),show wr (c::t)=c::t by simp [wr,hc]]
theorem Ns {s:LBy} (hs:s.length<=1000) (q:PS) (h:q.1<:+s):Ev (E3 · (BR s) (pos s q.1) q.2.1 q.2.2.length (q.2.2.map qf)) (BR (wd q.1),Eu s (wr q.1,q.2)):=by
 have hl:=FK h;have hw:=Jp q.1;have hd:=congrArg List.length (wdr q.1);simp only [zamO] at hd;refine ⟨q.1.length+2,λn hn=>?_⟩;obtain ⟨k,rfl,hm⟩:=up1 hn;refine qa (MW hs k (pos s q.1) q.2.1 q.2.2.length (q.2.2.map qf) q.1 k h (by omega)) (qb (zJ ⟨Ka _ _,by unfold pos;simp only;omega,by rw [C5];unfold pos;simp only;omega⟩) ?_);rw [Da];have e:(pos s (wr q.1))=pos s q.1+((wd q.1).length:Int):=by unfold pos;omega
 have x:=M5 (k:=(wd q.1).length) h;rw [<-e] at x;have t:q.1.take (wd q.1).length=wd q.1:=by
  have:=List.take_left (l₁:=wd q.1) (l₂:=wr q.1)
  rwa [wdr] at this
 rw [t] at x;show some ((BR s).extract (pos s q.1).toNat (pos s (wr q.1)).toNat,_)=_;rw [x];rfl
theorem Hq {s:LBy} (hs:s.length<=1000) {n:Nat} (b:Bool) (l:List Nd) (res:Int×PS):∀(k:Nat) (r acc:LBy) (M:Nat),r.length<=k->r<:+s->acc.length+r.length<=1001->r.length+1<=M->
  (∀w t,FC acc r=some (w,t)->qv n 1 0 2 0 (BR w) 0 0 false false 0 0 false false [] (BR s) (pos s t) b l.length (l.map qf)=some (Ee s res))->
  zL (Fx n) M (BR acc,BR s,pos s r,b,l.length,l.map qf)=some (match FC acc r with
   |none=> .inr (BR s,pos s [],b,l.length,l.map qf)
   |some _=> .inl (Ee s res))
 |k,r,acc,0,_,_,_,h,_=>by omega
 |k,[],acc,M+1,_,h,_,_,_=>by
  exact qd (qh (zu (show ¬pos s []<((BR s).size:Int) by rw [C5];unfold pos;simp)) rfl)
 |0,c::t,acc,M+1,hk,_,_,_,_=>by simp at hk
 |k+1,c::t,acc,M+1,hk,h,ha,hM,hr=>by
  have hl:=FK h;simp only [zamM] at hl hM hk ha;have g:=LY h;have p1:pos s (c::t)<((BR s).size:Int):=by rw [C5];unfold pos;simp only [zamM];omega
  have p0:decide (0<=pos s (c::t))=true:=zJ (Ka _ _);have pa:=J4 (k:=1) h (t:=t) rfl (by simp);have w1:IntKind.i64.wrap (pos s (c::t)+1)=pos s t:=by rw [qn (by unfold pos;omega)];exact pa
  by_cases hc:c=34
  ·subst hc;have ht:=Nq h;by_cases hq:t.head?=some 34
   ·obtain ⟨u,rfl⟩:=Ot hq;simp only [zamM] at hl hM hk ha;rw [SS] at hr⊢;have g2:=LY ht;have pb:=J4 (k:=1) ht (t:=u) rfl (by simp);have w2:IntKind.i64.wrap (pos s (34::u)+1)=pos s u:=by rw [qn (by unfold pos;omega)];exact pb
    rw [qu (v':=(BR (acc++ [34]),BR s,pos s u,b,l.length,l.map qf)) (by
     refine qb (zJ p1) (qb p0 (qa g (qh rfl (qh (zu (show ¬IntKind.i64.wrap (pos s (34::34::u)+1)≥((BR s).size:Int) by rw [w1,C5];unfold pos;simp only [zamM];omega)) (qb (zJ (show 0<=IntKind.i64.wrap (pos s (34::34::u)+1) by rw [w1];exact Ka _ _)) (qa (x:=34) (by show (BR s).toList[(IntKind.i64.wrap (pos s (34::34::u)+1)).toNat]?=_;rw [w1];exact g2) (qh rfl (qb (zJ (show (BR acc).size+1<=9223372036854775807 by rw [C5];omega)) ?_))))))));rw [Da];show some (Sum.inl (BR acc++BR [34],BR s,IntKind.i64.wrap (IntKind.i64.wrap (pos s (34::34::u)+1)+1),b,l.length,l.map qf))=_;rw [w1,w2,Q3])]
    exact Hq hs b l res k u _ M (by omega) (Nq ht) (by simp;omega) (by omega) hr
   ·rw [SU acc t hq] at hr⊢;have hr:=hr acc t rfl;refine qd (qb (zJ p1) (qb p0 (qa g (qh rfl ?_))));cases t with
    |nil=>
     refine qb (zJ (show IntKind.i64.wrap (pos s [34]+1)≥((BR s).size:Int) by rw [w1,C5];unfold pos;simp)) ?_;rw [<-w1] at hr;exact qa hr rfl
    |cons d u=>
     have g2:=LY ht;have hd:¬d=34:=λe=>hq (by rw [e];rfl)
     refine qh (zu (show ¬IntKind.i64.wrap (pos s (34::d::u)+1)≥((BR s).size:Int) by rw [w1,C5];unfold pos;simp only [zamM] at hl⊢;omega)) (qb (zJ (show 0<=IntKind.i64.wrap (pos s (34::d::u)+1) by rw [w1];exact Ka _ _)) (qa (x:=d) (by show (BR s).toList[(IntKind.i64.wrap (pos s (34::d::u)+1)).toNat]?=_;rw [w1];exact g2) (qb ?_ ?_)))
     ·rw [bne_iff_ne];intro e;exact hd (UInt8.toNat_inj.1 (show d.toNat=34 by omega))
     ·rw [<-w1] at hr;exact qa hr rfl
  ·rw [SV acc t hc] at hr⊢;have hx:=M5 (k:=1) h;rw [show ((1:Nat):Int)=1 from rfl] at hx pa;have hx:(BR s).extract (pos s (c::t)).toNat (IntKind.i64.wrap (pos s (c::t)+1)).toNat=BR [c]:=by
    rw [w1,<-pa];exact hx
   rw [qu (v':=(BR (acc++ [c]),BR s,pos s t,b,l.length,l.map qf)) (by
    refine qb (zJ p1) (qb p0 (qa g (qb ?_ (qb (zJ (show 0<=pos s (c::t)/\pos s (c::t)<=IntKind.i64.wrap (pos s (c::t)+1)/\IntKind.i64.wrap (pos s (c::t)+1)<=((BR s).size:Int) by rw [w1,C5];exact ⟨Ka _ _,by unfold pos;simp only [zamM];omega,by unfold pos;omega⟩)) (qb (zJ (show (BR acc).size+((BR s).extract (pos s (c::t)).toNat (IntKind.i64.wrap (pos s (c::t)+1)).toNat).size<=9223372036854775807 by rw [hx,C5,C5];simp;omega)) ?_)))))
    ·rw [bne_iff_ne];intro e;exact hc (UInt8.toNat_inj.1 (show c.toNat=34 by omega))
    ·rw [Da];show some (Sum.inl (BR acc++(BR s).extract (pos s (c::t)).toNat (IntKind.i64.wrap (pos s (c::t)+1)).toNat,BR s,IntKind.i64.wrap (pos s (c::t)+1),b,l.length,l.map qf))=_;rw [hx,Q3,w1])]
   exact Hq hs b l res k t _ M (by omega) (Nq h) (by simp;omega) (by omega) hr
theorem Q5 {s:LBy} (hs:s.length<=1000) (q:PS) (h:q.1<:+s) (hn:q.2.2.length<=5000):Ev (Gn · (BR s) (pos s q.1) q.2.1 q.2.2.length (q.2.2.map qf)) (Ee s (match FC [] q.1 with
  |none=>(0,[],true,q.2.2)
  |some (w,t)=>F6 (nd1 (2,0,BR w)) (t,q.2))):=by
 have hl:=FK h;cases hq:FC [] q.1 with
 |none=>
  refine ⟨q.1.length+2,λn hn=>?_⟩;obtain ⟨k,rfl,hm⟩:=up1 hn;have lp:=Hq hs (n:=k) q.2.1 q.2.2 (0,q) q.1.length q.1 [] k (zI _) h (by simp;omega) (by omega) (λw t e=>by rw [hq] at e;cases e);rw [hq] at lp;exact qa lp rfl
 |some wt=>
  obtain ⟨w,t⟩:=wt;have hw:=Hh _ _ _ (zI _) hq;simp only [zanD] at hw;obtain ⟨n1,h1⟩:=Jt (s:=s) (nd1 (2,0,BR w)) (t,q.2) hn ⟨by simp [kd,nd1],by simp only [nd1,C5];omega⟩;refine ⟨n1+q.1.length+2,λn hn=>?_⟩;obtain ⟨k,rfl,hm⟩:=up1 hn;have lp:=Hq hs (n:=k) q.2.1 q.2.2 (F6 (nd1 (2,0,BR w)) (t,q.2)) q.1.length q.1 [] k (zI _) h (by simp;omega) (by omega) (λw' t' e=>by rw [hq] at e;cases e;exact h1 k (by omega));rw [hq] at lp;exact qa lp rfl
theorem PW:∀o∈EV,(DL o).toList≠ []/\(DL o).size<=2:=by decide+kernel
theorem Q6:∀o∈EV,1<=o/\o<=11:=by decide
def opR:RW:=EV.map DG
def rsL (level:Int) (r:LBy):List Int->LBy
 | []=>r
 |o::l=>if lvl o=level then rsL level (tb r) l else rsL level r l
theorem MK {s:LBy} (hs:s.length<=1000) {n:Nat} (level:Int) (R:LBy) (hR:tb R=R) (m:Nat) (rows:RW)
  (h1:∀o∈EV,E4 n o=some (lvl o)) (h2:∀o∈EV,Em n o=some (DL o)):
  ∀(k i:Nat) (r:LBy) (M:Nat),i+k=11->k+1<=M->tb r=R->
  (∀r',tb r'=R->(r'=r\/r'=R)->∀o∈EV,q7 n (DL o) (BR s) (pos s r') false m rows=some (if (DL o).toList.isPrefixOf R=true then (true,BR s,pos s (R.drop (DL o).size),false,m,rows) else (false,BR s,pos s R,false,m,rows)))->
  zL (GN n) M (level,11,(i:Int),opR,BR s,pos s r,false,m,rows)=some (if Ft level R (EV.drop i)=0 then .inr (BR s,pos s (rsL level r (EV.drop i)),false,m,rows) else .inl (Ft level R (EV.drop i),BR s,pos s (R.drop (DL (Ft level R (EV.drop i))).size),false,m,rows))
 |k,i,r,0,_,h,_,_=>by omega
 |0,i,r,M+1,hk,_,_,_=>by
  have hi:i=11:=by omega
  subst hi;exact qd (qh rfl rfl)
 |k+1,i,r,M+1,hk,hM,hr,h3=>by
  have hi:i<EV.length:=by simp [EV];omega
  obtain ⟨o,ho⟩:∃o,EV[i]?=some o:=⟨_,zc hi⟩;have hin:=zl ho;have hR2:opR[i]?=some [PV.i .i64 o]:=by simp [opR,zamS,ho,DG]
  have hc:zF .i64 [PV.i .i64 o] 0=some o:=rfl;have hd:EV.drop i=o::EV.drop (i+1):=Ia ho;have w5:IntKind.i64.wrap ((i:Int)+1)=((i+1:Nat):Int):=by rw [qn (by omega)];omega
  have g1:decide ((i:Int)<((11:Nat):Int))=true:=zJ (by omega);have g2:decide (11=opR.length/\0<=(i:Int)/\(i:Int)<((11:Nat):Int))=true:=zJ ⟨rfl,by omega,by omega⟩;have h0:o≠0:=by have:=Q6 o hin;omega
  rw [hd];by_cases hl:lvl o=level
  ·have is:=h3 r hr (.inl rfl) o hin;by_cases hp:(DL o).toList.isPrefixOf R=true
   ·have e:Ft level R (o::EV.drop (i+1))=o:=by unfold Ft;rw [if_pos ⟨hl,hp⟩]
    rw [e,if_neg h0];rw [if_pos hp] at is;exact qd (qb g1 (qb g2 (qa hR2 (qa hc (qa (h1 o hin) (qb (zanG.2 hl) (qb g2 (qa hR2 (qa hc (qa (h2 o hin) (qa is (qb rfl (qb g2 (qa hR2 (qa hc rfl)))))))))))))))
   ·have e:Ft level R (o::EV.drop (i+1))=Ft level R (EV.drop (i+1)):=by
     conv=>lhs;unfold Ft
     rw [if_neg (λh=>hp h.2)]
    have e2:rsL level r (o::EV.drop (i+1))=rsL level R (EV.drop (i+1)):=by
     conv=>lhs;unfold rsL
     rw [if_pos hl,hr]
    rw [e,e2];rw [if_neg hp] at is;rw [qu (v':=(level,11,((i+1:Nat):Int),opR,BR s,pos s R,false,m,rows)) (by
     refine qb g1 (qb g2 (qa hR2 (qa hc (qa (h1 o hin) (qb (zanG.2 hl) (qb g2 (qa hR2 (qa hc (qa (h2 o hin) (qa is (qh rfl ?_)))))))))));rw [Da,w5])]
    exact MK hs level R hR m rows h1 h2 k (i+1) R M (by omega) (by omega) hR (λr' a b=>h3 r' a (.inr (b.elim id id)))
  ·have e:Ft level R (o::EV.drop (i+1))=Ft level R (EV.drop (i+1)):=by
    conv=>lhs;unfold Ft
    rw [if_neg (λh=>hl h.1)]
   have e2:rsL level r (o::EV.drop (i+1))=rsL level r (EV.drop (i+1)):=by
    conv=>lhs;unfold rsL
    rw [if_neg hl]
   rw [e,e2];rw [qu (v':=(level,11,((i+1:Nat):Int),opR,BR s,pos s r,false,m,rows)) (by
    refine qb g1 (qb g2 (qa hR2 (qa hc (qa (h1 o hin) (qh (zanF.2 hl) ?_)))));rw [Da,w5])]
   exact MK hs level R hR m rows h1 h2 k (i+1) r M (by omega) (by omega) hr h3
theorem R4 {level:Int} (h:1<=level/\level<=4) (r:LBy):rsL level r EV=tb r:=by
 have c:level=1\/level=2\/level=3\/level=4:=by omega
 rcases c with rfl|rfl|rfl|rfl<;>simp [rsL,EV,lvl,FD]
theorem R5 {s:LBy} (hs:s.length<=1000) {level:Int} (hl:1<=level/\level<=4) (q:PS) (hb:q.2.1=false) (h:q.1<:+s):Ev (GO · level (BR s) (pos s q.1) q.2.1 q.2.2.length (q.2.2.map qf)) (Ee s (sOp level q)):=by
 obtain ⟨n1,h1⟩:=De (F:=λo n=>E4 n o) (f:=lvl) EV (λo _=>M0 o);obtain ⟨n2,h2⟩:=De (F:=λo n=>Em n o) (f:=DL) EV (λo ho=>Jo o (Q6 o ho));obtain ⟨n3,h3⟩:=De (F:=λo n=>q7 n (DL o) (BR s) (pos s q.1) q.2.1 q.2.2.length (q.2.2.map qf)) (f:=λo=>((sIs (DL o).toList q).1,Eu s (sIs (DL o).toList q).2)) EV (λo ho=>by
  have:=Hi hs (DL o).toList (by rw [Dk];have:=(PW o ho).2;omega) q h
  rwa [Np] at this)
 obtain ⟨n4,h4⟩:=De (F:=λo n=>q7 n (DL o) (BR s) (pos s (tb q.1)) q.2.1 q.2.2.length (q.2.2.map qf)) (f:=λo=>((sIs (DL o).toList (tb q.1,q.2)).1,Eu s (sIs (DL o).toList (tb q.1,q.2)).2)) EV (λo ho=>by
  have:=Hi hs (DL o).toList (by rw [Dk];have:=(PW o ho).2;omega) (tb q.1,q.2) (QE h)
  rwa [Np] at this)
 refine ⟨n1+n2+n3+n4+13,λn hn=>?_⟩;obtain ⟨k,rfl,hm⟩:=up1 hn;have lp:=MK hs (n:=k) level (tb q.1) (FD q.1) q.2.2.length (q.2.2.map qf) (h1 k (by omega)) (h2 k (by omega)) 11 0 q.1 k (by omega) (by omega) rfl (λr' _ hr' o ho=>by
  rcases hr' with rfl|rfl
  ·have:=h3 k (by omega) o ho;rw [hb] at this;refine this.trans ?_;unfold sIs;rw [if_neg (by rw [hb];simp)];by_cases hp:(DL o).toList.isPrefixOf (tb q.1)=true
   ·rw [if_pos hp,if_pos hp,Dk];simp only [Eu,hb]
   ·rw [if_neg hp,if_neg hp];simp only [Eu,hb]
  ·have:=h4 k (by omega) o ho;rw [hb] at this;refine this.trans ?_;unfold sIs;rw [if_neg (by rw [hb];simp)];simp only [FD];by_cases hp:(DL o).toList.isPrefixOf (tb q.1)=true
   ·rw [if_pos hp,if_pos hp,Dk];simp only [Eu,hb]
   ·rw [if_neg hp,if_neg hp];simp only [Eu,hb])
 rw [List.drop_zero,R4 hl] at lp;unfold sOp;rw [if_neg (by rw [hb];simp)];show GO (k+1) level (BR s) (pos s q.1) q.2.1 q.2.2.length (q.2.2.map qf)=_;rw [hb];by_cases h0:Ft level (tb q.1) EV=0
 ·rw [if_pos h0] at lp;rw [if_pos h0];refine qa lp ?_;simp only [Ee,Eu,hb,h0];rfl
 ·rw [if_neg h0] at lp;rw [if_neg h0];refine qa lp ?_;simp only [Ee,Eu,hb];rfl
theorem Nt {s:LBy} (hs:s.length<=1000) {n:Nat} (r:LBy) (hr:r<:+s) (b:Bool) (l:List Nd)
  (h1:∀i,1<=i/\i<=5->EA n i=some (qz i)) (h2:∀i,1<=i/\i<=5->EZ n i=some (4,i,em))
  (h4:∀i,1<=i/\i<=5->qv n 1 0 4 i em 0 0 false false 0 0 false false [] (BR s) (pos s (r.drop ((qz i).size-1))) b l.length (l.map qf)=some (Ee s (F6 (nd1 (4,i,em)) (r.drop ((qz i).size-1),b,l)))):
  ∀(k:Nat) (i:Int) (M:Nat),1<=i->i+k=6->k+1<=M->zL (Ei n) M (i,BR s,pos s r,b,l.length,l.map qf)=some (match Pu r i k with
   |some e=> .inl (Ee s (F6 (nd1 (4,e,em)) (r.drop ((qz e).size-1),b,l)))
   |none=> .inr (BR s,pos s r,b,l.length,l.map qf))
 |k,i,0,_,_,h=>by omega
 |0,i,M+1,hi,hk,h=>by
  exact qd (qh (zu (show ¬i<=5 by omega)) rfl)
 |k+1,i,M+1,hi,hk,h=>by
  have hi5:1<=i/\i<=5:=⟨hi,by omega⟩;have hsz:1<=(qz i).size/\(qz i).size<=7:=by
   have c:i=1\/i=2\/i=3\/i=4\/i=5:=by omega
   rcases c with rfl|rfl|rfl|rfl|rfl<;>decide+kernel
  have hx:(qz i).extract ((1:Int)).toNat (((qz i).size:Nat):Int).toNat=BR (qz i).toList.tail:=by
   conv=>lhs;rw [<-Np (qz i)]
   rw [Q2,C5,Dk]
   congr 1
   rw [gD,List.take_of_length_le (by rw [Dk];omega)];exact List.drop_one
  have hxs:((qz i).extract ((1:Int)).toNat (((qz i).size:Nat):Int).toNat).size=(qz i).size-1:=by
   rw [hx,C5,List.length_tail,Dk]
  have hl:=FK hr;have w1:IntKind.i64.wrap (pos s r+(((qz i).extract ((1:Int)).toNat (((qz i).size:Nat):Int).toNat).size:Int))=pos s r+(((qz i).size-1:Nat):Int):=by
   rw [hxs];exact qn (by unfold pos;omega)
  have w2:IntKind.i64.wrap (i+1)=i+1:=qn (by omega);have ih:=Nt hs r hr b l h1 h2 h4 k (i+1) M (by omega) (by omega) (by omega);unfold Pu;by_cases hf:pos s r+(((qz i).size-1:Nat):Int)<=(s.length:Int)
  ·have hk2:(qz i).size-1<=r.length:=by unfold pos at hf;omega
   have cmp:(((BR s).extract (pos s r).toNat (IntKind.i64.wrap (pos s r+(((qz i).extract ((1:Int)).toNat (((qz i).size:Nat):Int).toNat).size:Int))).toNat).toList==((qz i).extract ((1:Int)).toNat (((qz i).size:Nat):Int).toNat).toList)=true↔(qz i).toList.tail.isPrefixOf r=true:=by
    rw [w1,M5 hr,hx,FJ,FJ,zanG,List.isPrefixOf_iff_prefix,List.prefix_iff_eq_take,List.length_tail,Dk];exact ⟨λe=>e.symm,λe=>e.symm⟩
   have g1:decide (IntKind.i64.wrap (pos s r+(((qz i).extract ((1:Int)).toNat (((qz i).size:Nat):Int).toNat).size:Int))<=((BR s).size:Int))=true:=zJ (by rw [w1,C5];exact hf);have g2:decide (0<=pos s r/\pos s r<=IntKind.i64.wrap (pos s r+(((qz i).extract ((1:Int)).toNat (((qz i).size:Nat):Int).toNat).size:Int))/\IntKind.i64.wrap (pos s r+(((qz i).extract ((1:Int)).toNat (((qz i).size:Nat):Int).toNat).size:Int))<=((BR s).size:Int))=true:=zJ (by rw [w1,C5];exact ⟨Ka _ _,by omega,hf⟩);by_cases hp:(qz i).toList.tail.isPrefixOf r=true
   ·rw [if_pos hp];have h4:=h4 i hi5;rw [<-J4 hr rfl hk2,<-w1] at h4;exact qd (qb (zJ (show i<=5 by omega)) (qa (h1 i hi5) (qb (zJ ⟨by decide,by omega,Int.le_refl _⟩) (qb g1 (qb g2 (qb (cmp.2 hp) (qa (h2 i hi5) (qa h4 rfl))))))))
   ·rw [if_neg hp];rw [qu (v':=(i+1,BR s,pos s r,b,l.length,l.map qf)) (by
     refine qb (zJ (show i<=5 by omega)) (qa (h1 i hi5) (qb (zJ ⟨by decide,by omega,Int.le_refl _⟩) (qb g1 (qb g2 (qh (by rw [jR];exact λe=>hp (cmp.1 e)) ?_)))));rw [Da,w2])]
    exact ih
  ·have hp:¬(qz i).toList.tail.isPrefixOf r=true:=by
    intro e;have:=(List.isPrefixOf_iff_prefix.1 e).length_le;rw [List.length_tail,Dk] at this;unfold pos at hf;omega
   rw [if_neg hp];rw [qu (v':=(i+1,BR s,pos s r,b,l.length,l.map qf)) (by
    refine qb (zJ (show i<=5 by omega)) (qa (h1 i hi5) (qb (zJ ⟨by decide,by omega,Int.le_refl _⟩) (qh (zu (by rw [w1,C5];exact hf)) ?_)));rw [Da,w2])]
   exact ih
theorem Rm {s:LBy} (hs:s.length<=1000) (r:LBy) (hr:r<:+s) (b:Bool) (l:List Nd) (hl:l.length<=5000):∃n0,∀n,n0<=n->∀M,n0<=M->zL (Ei n) M (1,BR s,pos s r,b,l.length,l.map qf)=some (match Pu r 1 5 with
   |some e=> .inl (Ee s (F6 (nd1 (4,e,em)) (r.drop ((qz e).size-1),b,l)))
   |none=> .inr (BR s,pos s r,b,l.length,l.map qf)):=by
 obtain ⟨n1,h1⟩:=M3 (F:=EA) (f:=qz) (lo:=1) (by decide) (λi hi=>Jj i ⟨by omega,hi.2⟩);obtain ⟨n2,h2⟩:=M3 (F:=EZ) (f:=λi=>(4,i,em)) (lo:=1) (by decide) (λi _=>JG i);obtain ⟨n4,h4⟩:=M3 (F:=λn i=>qv n 1 0 4 i em 0 0 false false 0 0 false false [] (BR s) (pos s (r.drop ((qz i).size-1))) b l.length (l.map qf)) (f:=λi=>Ee s (F6 (nd1 (4,i,em)) (r.drop ((qz i).size-1),b,l))) (lo:=1) (by decide) (λi _=>Jt (s:=s) (nd1 (4,i,em)) (r.drop ((qz i).size-1),b,l) hl ⟨by simp [kd,nd1],by simp [nd1,em];decide⟩);exact ⟨n1+n2+n4+7,λn hn M hM=>Nt hs r hr b l (h1 n (by omega)) (h2 n (by omega)) (h4 n (by omega)) 5 1 M (by omega) (by omega) (by omega)⟩
theorem Ro:∃n0,∀n,n0<=n->∀i,1<=i/\i<=10->FB n i=some (fnS i):=by
 obtain ⟨n1,h1⟩:=De (F:=λ(i:Nat) n=>FB n ((i:Int)+1)) (f:=λi=>fnS ((i:Int)+1)) (List.range 10) (λi hi=>PP _ (by have:=List.mem_range.1 hi;omega));refine ⟨n1,λn hn i hi=>?_⟩;have:=h1 n hn (i-1).toNat (List.mem_range.2 (by omega))
 rwa [show (((i-1).toNat:Nat):Int)+1=i by omega] at this
theorem R6 {i j:Int} (hi:1<=i/\i<=10) (hj:1<=j/\j<=10) (h:(fnS i).toList=(fnS j).toList):i=j:=by
 have t:∀a:Fin 10,∀b:Fin 10,(fnS (((a.val:Nat):Int)+1)).toList=(fnS (((b.val:Nat):Int)+1)).toList->a=b:=by decide+kernel
 have:=t ⟨(i-1).toNat,by omega⟩ ⟨(j-1).toNat,by omega⟩ (by
  simp only;rw [show (((i-1).toNat:Nat):Int)+1=i by omega,show (((j-1).toNat:Nat):Int)+1=j by omega];exact h)
 have:=congrArg Fin.val this;simp only at this;omega
theorem Ov {g:G_spec_l3Rd_row} {n:Nat} {s:LBy} (w:LBy) (q:PS) (h1:∀i,1<=i/\i<=10->FB n i=some (fnS i)):
  ∀(k:Nat) (i:Int) (M:Nat),1<=i->i+k=11->k+1<=M->(∀j,i<=j/\j<=10->(fnS j).toList≠w)->zL (FF g n) M (BR w,i,Eu s q)=some (.inr (BR w,Eu s q))
 |k,i,0,_,_,h,_=>by omega
 |0,i,M+1,hi,hk,h,_=>qd (qh (zu (show ¬i<=10 by omega)) rfl)
 |k+1,i,M+1,hi,hk,h,hn=>by
  have w1:IntKind.i64.wrap (i+1)=i+1:=qn (by omega);rw [qu (v':=(BR w,i+1,Eu s q)) (by
   refine qb (zJ (show i<=10 by omega)) (qa (h1 i ⟨hi,by omega⟩) (qh (by rw [zanF];show (fnS i).toList≠(BR w).toList;rw [FJ];exact hn i ⟨Int.le_refl _,by omega⟩) ?_));rw [Da,w1])]
  exact Ov w q h1 k (i+1) M (by omega) (by omega) (by omega) (λj hj=>hn j ⟨by omega,hj.2⟩)
theorem J5 {g:G_spec_l3Rd_row} {n:Nat} {s:LBy} (w:LBy) (q:PS) (res:Int->Int×PS) (h1:∀i,1<=i/\i<=10->FB n i=some (fnS i))
  (h2:q7 n ⟨#[40]⟩ (BR s) (pos s q.1) q.2.1 q.2.2.length (q.2.2.map qf)=some ((sIs [40] q).1,Eu s (sIs [40] q).2)):
  ∀(k:Nat) (i:Int) (M:Nat),1<=i->i+k=11->k+1<=M->(∀op,M1 w i k=some op->(sIs [40] q).1=true->g.spec_l3Rd_call op (BR s) (pos s (sIs [40] q).2.1) (sIs [40] q).2.2.1 (sIs [40] q).2.2.2.length ((sIs [40] q).2.2.2.map qf)=some (Ee s (res op)))->
   zL (FF g n) M (BR w,i,Eu s q)=some (match M1 w i k with
   |some op=>if (sIs [40] q).1=true then .inl (Ee s (res op)) else .inr (BR w,Eu s (sIs [40] q).2)
   |none=> .inr (BR w,Eu s q))
 |k,i,0,_,_,h,_=>by omega
 |0,i,M+1,hi,hk,h,_=>qd (qh (zu (show ¬i<=10 by omega)) rfl)
 |k+1,i,M+1,hi,hk,h,hc=>by
  have w1:IntKind.i64.wrap (i+1)=i+1:=qn (by omega);unfold M1 at hc⊢;by_cases hq:(fnS i).toList=w
  ·rw [if_pos hq] at hc⊢;have hqb:((fnS i).toList==(BR w).toList)=true:=by rw [zanG,FJ];exact hq
   simp only;cases hi2:(sIs [40] q).1 with
   |true=>
    rw [if_pos rfl];exact qd (qb (zJ (show i<=10 by omega)) (qa (h1 i ⟨hi,by omega⟩) (qb hqb (qa h2 (qb hi2 (qa (hc i rfl hi2) rfl))))))
   |false=>
    rw [if_neg (by simp)];rw [qu (v':=(BR w,i+1,Eu s (sIs [40] q).2)) (by
     refine qb (zJ (show i<=10 by omega)) (qa (h1 i ⟨hi,by omega⟩) (qb hqb (qa h2 (qh hi2 ?_))));rw [Da,w1])]
    exact Ov w _ h1 k (i+1) M (by omega) (by omega) (by omega) (λj hj e=>by
     have:=R6 (i:=i) (j:=j) ⟨hi,by omega⟩ ⟨by omega,hj.2⟩ (hq.trans e.symm);omega)
  ·rw [if_neg hq] at hc⊢;rw [qu (v':=(BR w,i+1,Eu s q)) (by
    refine qb (zJ (show i<=10 by omega)) (qa (h1 i ⟨hi,by omega⟩) (qh (by rw [zanF];show (fnS i).toList≠(BR w).toList;rw [FJ];exact hq) ?_));rw [Da,w1])]
   exact J5 w q res h1 h2 k (i+1) M (by omega) (by omega) (by omega) hc
structure Go (k:Nat) (q q':PS):Prop where
 suf:q'.1<:+q.1
 sum:q'.2.2.length+q'.1.length+k<=q.2.2.length+q.1.length
 sm:(∀x∈q.2.2,HB x)->∀x∈q'.2.2,HB x
theorem Go.refl (q:PS):Go 0 q q:=⟨List.suffix_rfl,zI _,id⟩
theorem Go.trans {a b:Nat} {p q r:PS} (h:Go a p q) (h':Go b q r):Go (a+b) p r:=⟨h'.suf.trans h.suf,by have:=h.sum;have:=h'.sum;omega,λe=>h'.sm (h.sm e)⟩
theorem Go.tr0 {p q r:PS} (h:Go 0 p q) (h':Go 0 q r):Go 0 p r:=h.trans h'
theorem Go.add {p q:PS} {x:Nd} (h:Go 1 p q) (hx:HB x):Go 0 p (F6 x q).2:=by
 refine ⟨h.suf,?_,λe y hy=>?_⟩
 ·have:=h.sum;simp only [F6,zamO,List.length_singleton];omega
 ·simp only [F6,List.mem_append,zamQ] at hy;rcases hy with hy|rfl
  ·exact h.sm e y hy
  ·exact hx
theorem Go.weak {k:Nat} {p q:PS} (h:Go k p q):Go 0 p q:=⟨h.suf,by have:=h.sum;omega,h.sm⟩
theorem Go.of (q:PS) {r:LBy} (b:Bool) {k:Nat} (h:r<:+q.1) (hk:r.length+k<=q.1.length):Go k q (r,b,q.2.2):=⟨h,by simp only;omega,id⟩
theorem LZ (q:PS):Go 0 q (tb q.1,q.2):=⟨List.dropWhile_suffix _,by have:=C4 q.1;simp only;omega,id⟩
theorem Ow (q:PS):Go 0 q (wr (tb q.1),q.2):=⟨(List.dropWhile_suffix _).trans (List.dropWhile_suffix _),by have:=C4 q.1;have:=Jp (tb q.1);simp only;omega,id⟩
theorem Q7 (q:PS) (h:wd (tb q.1)≠ []):Go 1 q (wr (tb q.1),q.2):=⟨(List.dropWhile_suffix _).trans (List.dropWhile_suffix _),by
 have:=C4 q.1;have e:=congrArg List.length (wdr (tb q.1));have:=List.length_pos_iff.2 h;simp only [zamO] at e;simp only;omega,id⟩
theorem Kb {w:LBy} {q:PS} (h:(sIs w q).1=true):w<+:tb q.1/\(sIs w q).2=((tb q.1).drop w.length,q.2)/\q.2.1=false:=by
 unfold sIs at h⊢;split at h
 ·cases h
 ·rename_i hb;rw [if_neg hb];split at h
  ·rename_i hp;rw [if_pos hp];exact ⟨List.isPrefixOf_iff_prefix.1 hp,rfl,by rw [jR];exact hb⟩
  ·cases h
theorem Ox {w:LBy} {q:PS} (h:(sIs w q).1=false):(sIs w q).2=(tb q.1,q.2):=by
 unfold sIs at h⊢;split at h
 ·rename_i hb;rw [if_pos hb]
 ·rename_i hb;rw [if_neg hb];split at h
  ·cases h
  ·rename_i hp;rw [if_neg hp]
theorem Ju (w:LBy) (q:PS):Go 0 q (sIs w q).2:=by
 cases h:(sIs w q).1 with
 |true=>
  obtain ⟨_,h2,_⟩:=Kb h;rw [h2];exact Go.tr0 (LZ q) ⟨List.drop_suffix _ _,by simp,id⟩
 |false=>rw [Ox h];exact LZ q
theorem Ge {w:LBy} (hw:w≠ []) {q:PS} (h:(sIs w q).1=true):Go 1 q (sIs w q).2:=by
 obtain ⟨h1,h2,_⟩:=Kb h;rw [h2];have l1:=h1.length_le;have l2:=List.length_pos_iff.2 hw;have:=C4 q.1;exact ⟨(List.drop_suffix _ _).trans (List.dropWhile_suffix _),by simp;omega,id⟩
theorem Nu {k:Nat} {p q:PS} (h:Go k p q):Go k p (Kt q):=⟨h.suf,h.sum,h.sm⟩
theorem Q8:∀(t r:LBy),(tb r).length<=(tb (t++r)).length
 | [],r=>zI _
 |c::t,r=>by
  have ih:=Q8 t r;have:=C4 (t++r);by_cases hc:c=32
  ·rw [show tb (c::t++r)=tb (t++r) by simp [tb,hc]];exact ih
  ·rw [show tb (c::t++r)=c::(t++r) by simp [tb,hc]];simp only [zamM];omega
theorem Go.tb {k:Nat} {p q:PS} (h:Go k p q):(tb q.1).length<=(tb p.1).length:=by
 obtain ⟨t,ht⟩:=h.suf;rw [<-ht];exact Q8 t q.1
theorem QY {w:LBy} (hw:w≠ []) {q:PS} (h:(sIs w q).1=true):(tb (sIs w q).2.1).length<(tb q.1).length:=by
 obtain ⟨h1,h2,_⟩:=Kb h;rw [h2];exact QW hw h1
theorem QZ (level:Int) (r:LBy):∀l:List Int,Ft level r l≠0->Ft level r l∈l/\(DL (Ft level r l)).toList<+:r
 | [],h=>absurd rfl h
 |o::l,h=>by
  unfold Ft at h⊢;split at h
  ·rename_i hc;rw [if_pos hc];exact ⟨zamN ..,List.isPrefixOf_iff_prefix.1 hc.2⟩
  ·rename_i hc;rw [if_neg hc];have:=QZ level r l h;exact ⟨zamR _ this.1,this.2⟩
theorem Rx (level:Int) (q:PS):Go 0 q (sOp level q).2/\((sOp level q).1≠0->Go 1 q (sOp level q).2/\(tb (sOp level q).2.1).length<(tb q.1).length):=by
 unfold sOp;split
 ·exact ⟨LZ q,λh=>absurd rfl h⟩
 ·simp only;by_cases h:Ft level (tb q.1) EV=0
  ·rw [if_pos h];exact ⟨LZ q,λe=>absurd h e⟩
  ·rw [if_neg h];obtain ⟨h1,h2⟩:=QZ level (tb q.1) EV h;have ne:=(PW _ h1).1;have l1:=h2.length_le;have l2:=List.length_pos_iff.2 ne;rw [Dk] at l1 l2;have l3:=C4 q.1;have g:Go 1 q ((tb q.1).drop (DL (Ft level (tb q.1) EV)).size,q.2):=⟨(List.drop_suffix _ _).trans (List.dropWhile_suffix _),by simp;omega,id⟩;have t:=QW ne h2;rw [Dk] at t;exact ⟨g.weak,λ_=>⟨g,t⟩⟩
theorem ML:∀(k:Nat) (acc r:LBy) {w t:LBy},r.length<=k->FC acc r=some (w,t)->t<:+r
 |k,acc,[],w,t,hk,h=>by simp [FC] at h
 |0,acc,c::r,w,t,hk,h=>by simp at hk
 |k+1,acc,c::r,w,t,hk,h=>by
  simp only [zamM] at hk;by_cases hc:c=34
  ·subst hc;by_cases hq:r.head?=some 34
   ·obtain ⟨u,rfl⟩:=Ot hq;rw [SS] at h;simp only [zamM] at hk;have:=ML k _ u (by omega) h;exact this.trans ((List.suffix_cons 34 u).trans (List.suffix_cons 34 _))
   ·rw [SU acc r hq] at h;cases h;exact List.suffix_cons 34 _
  ·rw [SV acc r hc] at h;exact (ML k _ r (by omega) h).trans (List.suffix_cons c _)
def Ks:SJ->PS->Prop
 | .call _ kids,q=>q.2.1=true\/kids.length+q.1.length<=1500
 |_,_=>True
theorem Iz {k op:Int} {kids:List Int} (h:kids.length<=2000):HB (ndK k op kids):=⟨h,by simp [ndK,em];decide⟩
theorem EB {k:Nat} {p q:PS} (h:Go k p q):q.1.length<=p.1.length:=h.suf.length_le
theorem Gi (H:RdOK):∀(f:Nat) (j:SJ) (q:PS),q.1.length<=1000->Ks j q->Go 0 q (sP f j q).2
 |0,j,q,_,_=>Go.refl q
 |f+1,.row level,q,hr,_=>by
  unfold sP;split
  ·exact Go.refl q
  ·split
   ·exact Gi H f .one q hr trivial
   ·have a:=Gi H f (.row (level+1)) q hr trivial;exact a.tr0 (Gi H f (.rl level _) _ (zX (EB a) hr) trivial)
 |f+1,.rl level a,q,hr,_=>by
  unfold sP;split
  ·exact Go.refl q
  ·simp only;have o:=Rx level q;split
   ·exact o.1
   ·rename_i h0;have o1:=(o.2 h0).1;have b:=Gi H f (.row (level+1)) (sOp level q).2 (zX (EB o1) hr) trivial;have c:=Go.add (x:=ndK 5 (sOp level q).1 [a,(sP f (.row (level+1)) (sOp level q).2).1]) (o1.trans b) (Iz (by simp));exact c.tr0 (Gi H f (.rl level _) _ (zX (EB c) hr) trivial)
 |f+1,.one,q,hr,_=>by
  unfold sP;split
  ·rename_i h;have a:=Ge (by simp) h;have b:=Gi H f (.row 5) (sIs [45] q).2 (zX (EB a) hr) trivial;exact Go.add (a.trans b) (Iz (by simp))
  ·have a:=Ju [45] q;split
   ·rename_i h;have c:=a.tr0 (Ge (by simp) h).weak;have b:=Gi H f (.row 1) (sIs [40] (sIs [45] q).2).2 (zX (EB c) hr) trivial;have d:=(c.tr0 b).tr0 (Ju [41] _);simp only;split
    ·exact d
    ·exact Nu d
   ·simp only;have t:=LZ q;split
    ·rename_i h;have c:=Ge (by simp) h;obtain ⟨_,e,_⟩:=Kb h;split
     ·exact ⟨List.nil_suffix,by simp,id⟩
     ·rename_i w u hq;have d:=ML _ _ _ (zI _) hq;have d2:=d.length_le;have dz:=Hh _ _ _ (zI _) hq;have g:=t.trans c;have l:=EB g;have sg:=g.sum;have eq:(sIs [34] (tb q.1,q.2)).2.2=q.2:=by rw [e]
      rw [eq] at sg;simp only [zanD] at dz;exact Go.add (q:=(u,q.2)) ⟨d.trans g.suf,by simp only;omega,id⟩ ⟨by simp [kd,nd1],by simp only [nd1,C5];omega⟩
    ·split
     ·rename_i h;have c:=Ge (by simp) h;obtain ⟨_,e,_⟩:=Kb h;have g:=t.trans c;have l:=EB g;have sg:=g.sum;have eq:(sIs [35] (tb q.1,q.2)).2.2=q.2:=by rw [e]
      rw [eq] at sg;split
      ·exact Go.add (q:=(_,q.2)) ⟨(List.drop_suffix _ _).trans g.suf,by simp;omega,id⟩ ⟨by simp [kd,nd1],by simp [nd1,em];decide⟩
      ·exact ⟨g.suf,by simp only;omega,id⟩
     ·have w:=Ow q;split
      ·split
       ·have c:=w.tr0 (Ju [40] _);exact c.tr0 (Gi H f (.call _ []) _ (zX (EB c) hr) (.inr (by have:=EB c;simp only [zanD];omega)))
       ·exact Nu (w.tr0 (Ju [40] _))
      ·split
       ·rename_i hv;exact Go.add (Q7 q hv.2) ⟨by simp [kd,nd1],Jr hv.1 (H.v _ (QD _) hv.2 hv.1)⟩
       ·split
        ·rename_i hp;exact Go.add (Q7 q (λe=>by rw [e,H.p0] at hp;cases hp)) ⟨by simp [kd,ndC],by simp [ndC,em];decide⟩
        ·exact Nu w
 |f+1,.call op kids,q,hr,hk=>by
  unfold sP;split
  ·exact Go.refl q
  ·rename_i hb;have hk:kids.length+q.1.length<=1500:=hk.elim (λh=>absurd h hb) id;have a:=Gi H f .arg q hr trivial;simp only;split
   ·rename_i h;exact Go.add (a.trans (Ge (by simp) h)) (Iz (by simp;omega))
   ·have c:=a.tr0 (Ju [41] _);split
    ·rename_i h;have d:=c.trans (Ge (by simp) h);obtain ⟨e1,e2,_⟩:=Kb h;have l:=e1.length_le;have l2:=EB c;have l3:=C4 (sIs [41] (sP f .arg q).2).2.1;simp only [zamM,zanD] at l;exact d.weak.tr0 (Gi H f (.call op _) _ (zX (EB d) hr) (.inr (by rw [e2];simp;omega)))
    ·have d:=Nu (c.tr0 (Ju [44] _));exact d.tr0 (Gi H f (.call op _) _ (zX (EB d) hr) (.inl rfl))
 |f+1,.arg,q,hr,_=>by
  unfold sP;simp only;have w:=Ow q;split
  ·rename_i h;have c:=w.trans (Ge (by simp) h.2);have d:=c.trans (Ow _);split
   ·exact Go.add d ⟨by simp [kd,ndA],by simp [ndA,em];decide⟩
   ·exact ⟨d.suf,by have:=d.sum;simp only at this⊢;omega,d.sm⟩
  ·have t:=LZ q;exact t.tr0 (Gi H f (.row 1) _ (zX (EB t) hr) trivial)
def As (f:Nat):SJ->PS->Prop
 | .row level,q=>((20*(tb q.1).length+10:Nat):Int)-level<=f/\1<=level/\level<=5
 | .rl level _,q=>20*(tb q.1).length+5<=f/\1<=level/\level<=4
 | .one,q=>20*(tb q.1).length+4<=f/\q.2.1=false
 | .call _ _,q=>(q.2.1=true/\1<=f)\/20*(tb q.1).length+12<=f
 | .arg,q=>20*(tb q.1).length+10<=f
def Iv (s:LBy) (q:PS):Prop:=q.1<:+s/\q.2.2.length+q.1.length<=2000
theorem Iv.go {s:LBy} {k:Nat} {q q':PS} (h:Iv s q) (g:Go k q q'):Iv s q':=⟨g.suf.trans h.1,by have:=g.sum;have:=h.2;omega⟩
def Ws (s:LBy):SJ->PS->Int×PS->Prop
 | .row level,q,r=>Ev (F8 · level (BR s) (pos s q.1) q.2.1 q.2.2.length (q.2.2.map qf)) (Ee s r)
 | .rl level a,q,r=>∃x,(x= .inl (Ee s r)\/x= .inr (Ee s r))/\∃n0,∀n,n0<=n->∀M,n0<=M->zL (GC (ql n) n) M (level,a,Eu s q)=some x
 | .one,q,r=>Ev (JB · (BR s) (pos s q.1) q.2.1 q.2.2.length (q.2.2.map qf)) (Ee s r)
 | .call op kids,q,r=>∃x,(x= .inl (Ee s r)\/(x= .inr (Eu s r.2)/\r.1=0))/\∃n0,∀n,n0<=n->∀M,n0<=M->zL (Fy (ql n) n) M (op,kids.length,kids.map DG,Eu s q)=some x
 | .arg,q,r=>Ev (JC · (BR s) (pos s q.1) q.2.1 q.2.2.length (q.2.2.map qf)) (Ee s r)
theorem srp (r:LBy) (h:r.length<=1000):Ev (C8 · (BR (wd r))) (EI (BR (wd r))):=LQ _ (by rw [C5];have:=Q4 r;omega)
theorem srv (r:LBy) (h:r.length<=1000):Ev (Ci · (BR (wd r))) (Cr (BR (wd r))):=LM _ (by rw [C5];have:=Q4 r;omega)
theorem SX {r:LBy} (h:wd r≠ []):(tb (wr r)).length<r.length:=by
 have e:=congrArg List.length (wdr r);have:=List.length_pos_iff.2 h;have:=C4 (wr r);simp only [zamO] at e;omega
def PX (n:Nat) (w:BA) (c:BA×Int×Bool×Nat×RW):Tr (Int×BA×Int×Bool×Nat×RW):=
 (.opt (C8 n w) λr=>(.ask (!r.2.2.2.2) (.done (0,c.1,c.2.1,true,c.2.2.2.1,c.2.2.2.2))
  (.opt (qv n 2 0 0 0 ⟨#[]⟩ r.1 r.2.1 r.2.2.1 r.2.2.2.1 0 0 false false [] c.1 c.2.1 c.2.2.1 c.2.2.2.1 c.2.2.2.2) λt=> .done (t.1,t.2.1,t.2.2.1,t.2.2.2.1,t.2.2.2.2.1,t.2.2.2.2.2))))
def R7 (n:Nat) (w:BA) (c:BA×Int×Bool×Nat×RW):Tr (Int×BA×Int×Bool×Nat×RW):=
 (.opt (Ci n w) λr=>(.ask r.2.2.2
  (.ask (!(w.toList==(⟨#[]⟩:BA).toList))
   (.opt (qv n 1 0 r.1 r.2.1 r.2.2.1 0 0 false false 0 0 false false [] c.1 c.2.1 c.2.2.1 c.2.2.2.1 c.2.2.2.2) λt=> .done (t.1,t.2.1,t.2.2.1,t.2.2.2.1,t.2.2.2.2.1,t.2.2.2.2.2))
   (PX n w c))
  (PX n w c)))
def Nv (w:LBy) (q3:PS):Int×PS:=
 if (Cr (BR w)).2.2.2=true/\w≠ [] then F6 (nd1 ((Cr (BR w)).1,(Cr (BR w)).2.1,(Cr (BR w)).2.2.1)) q3
 else if (EI (BR w)).2.2.2.2=true then F6 (ndC (EI (BR w))) q3
 else (0,Kt q3)
theorem Oy (H:RdOK) {s:LBy} (r:LBy) (q:PS) (hr:r.length<=1000) (hn:q.2.2.length<=5000):∃n0,∀n,n0<=n->(R7 n (BR (wd r)) (Eu s q)).run=some (Ee s (Nv (wd r) q)):=by
 obtain ⟨n1,h1⟩:=srv r hr;obtain ⟨n2,h2⟩:=srp r hr;obtain ⟨n4,h4⟩:=Jt (s:=s) (ndC (EI (BR (wd r)))) q hn ⟨by simp [kd,ndC],by simp [ndC,em];decide⟩;have place:∃n0,∀n,n0<=n->(PX n (BR (wd r)) (Eu s q)).run=some (Ee s (if (EI (BR (wd r))).2.2.2.2=true then F6 (ndC (EI (BR (wd r)))) q else (0,Kt q))):=by
  refine ⟨n2+n4,λn hn=>?_⟩;cases hp:(EI (BR (wd r))).2.2.2.2 with
  |true=>rw [if_pos rfl];exact qa (h2 n (by omega)) (qh (Nr hp) (qa (h4 n (by omega)) rfl))
  |false=>rw [if_neg (by simp)];exact qa (h2 n (by omega)) (qb (Js hp) rfl)
 obtain ⟨n5,h5⟩:=place;by_cases hv:(Cr (BR (wd r))).2.2.2=true/\wd r≠ []
 ·obtain ⟨n3,h3⟩:=Jt (s:=s) (nd1 ((Cr (BR (wd r))).1,(Cr (BR (wd r))).2.1,(Cr (BR (wd r))).2.2.1)) q hn ⟨by simp [kd,nd1],Jr hv.1 (H.v _ (QD _) hv.2 hv.1)⟩;refine ⟨n1+n3,λn hn=>?_⟩;unfold Nv;rw [if_pos hv];exact qa (h1 n (by omega)) (qb hv.1 (qb (Js (by rw [zanF,FJ,EM];exact hv.2)) (qa (h3 n (by omega)) rfl)))
 ·refine ⟨n1+n5,λn hn=>?_⟩;unfold Nv;rw [if_neg hv];refine qa (h1 n (by omega)) ?_;by_cases ho:(Cr (BR (wd r))).2.2.2=true
  ·have e:wd r= []:=Classical.byContradiction λe=>hv ⟨ho,e⟩
   exact qb ho (qh (Nr (by rw [zanG,FJ,EM];exact e)) (h5 n (by omega)))
  ·exact qh (by rw [jR];exact ho) (h5 n (by omega))
theorem Gs (H:RdOK) {s:LBy} (hs:s.length<=1000):∀(f:Nat) (j:SJ) (q:PS),As f j q->Iv s q->Ks j q->Ws s j q (sP f j q)
 |0,j,q,ha,_,_=>by cases j<;>simp [As] at ha<;>omega
 |f+1,.row level,q,ha,hi,_=>by
  obtain ⟨ha,hl1,hl5⟩:=ha;have hr:q.1.length<=1000:=zX (FK hi.1) hs;unfold sP;by_cases hb:q.2.1=true
  ·rw [if_pos hb];refine ⟨1,λn hn=>?_⟩;obtain ⟨k,rfl,hm⟩:=up1 hn;exact qb hb rfl
  ·have hb:q.2.1=false:=by rw [jR];exact hb
   rw [if_neg (by rw [hb];simp)];by_cases h5:level=5
   ·rw [if_pos h5];obtain ⟨n1,h1⟩:=Gs H hs f .one q ⟨by omega,hb⟩ hi trivial;refine ⟨n1+1,λn hn=>?_⟩;obtain ⟨k,rfl,hm⟩:=up1 hn;exact qh hb (qb (zanG.2 h5) (qa (h1 k (by omega)) rfl))
   ·rw [if_neg h5];have g:=Gi H f (.row (level+1)) q hr trivial;have gl:=g.tb;obtain ⟨n1,h1⟩:=Gs H hs f (.row (level+1)) q ⟨by omega,by omega,by omega⟩ hi trivial;generalize sP f (.row (level+1)) q=Q at g gl h1⊢;obtain ⟨x,hx,n2,h2⟩:=Gs H hs f (.rl level Q.1) Q.2 ⟨by omega,by omega,by omega⟩ (hi.go g) trivial;refine ⟨n1+n2+1,λn hn=>?_⟩;obtain ⟨k,rfl,hm⟩:=up1 hn;have w1:IntKind.i64.wrap (level+1)=level+1:=qn (by omega);have h1:=h1 k (by omega);rw [<-w1] at h1;have h2:=h2 k (by omega) k (by omega);rcases hx with rfl|rfl
    ·exact qh hb (qh (zanF.2 h5) (qa h1 (qa h2 rfl)))
    ·exact qh hb (qh (zanF.2 h5) (qa h1 (qa h2 rfl)))
 |f+1,.rl level a,q,ha,hi,_=>by
  obtain ⟨ha,hl1,hl4⟩:=ha;have hr:q.1.length<=1000:=zX (FK hi.1) hs;unfold sP;by_cases hb:q.2.1=true
  ·rw [if_pos hb];refine ⟨.inr (Ee s (a,q)),.inr rfl,1,λn hn M hM=>?_⟩;obtain ⟨M,rfl,hM⟩:=up1 hM;exact qd (qh (Nr hb) rfl)
  ·have hb:q.2.1=false:=by rw [jR];exact hb
   rw [if_neg (by rw [hb];simp)];simp only;obtain ⟨n1,h1⟩:=R5 hs (level:=level) ⟨hl1,hl4⟩ q hb hi.1;have o:=Rx level q;generalize sOp level q=O at h1 o⊢;by_cases h0:O.1=0
   ·rw [if_pos h0];refine ⟨.inl (Ee s (a,O.2)),.inl rfl,n1+1,λn hn M hM=>?_⟩;obtain ⟨M,rfl,hM⟩:=up1 hM;exact qd (qb (Js hb) (qa (h1 n (by omega)) (qb (zanG.2 h0) rfl)))
   ·rw [if_neg h0];obtain ⟨o1,o2⟩:=o.2 h0;have b:=Gi H f (.row (level+1)) O.2 (zX (EB o1) hr) trivial;obtain ⟨n2,h2⟩:=Gs H hs f (.row (level+1)) O.2 ⟨by omega,by omega,by omega⟩ (hi.go o1) trivial;have ib:=(hi.go o1).go b;have tbb:=b.tb;have c:=Go.add (x:=ndK 5 O.1 [a,(sP f (.row (level+1)) O.2).1]) (o1.trans b) (Iz (by simp));generalize sP f (.row (level+1)) O.2=Q at h2 b ib tbb c⊢;obtain ⟨n3,h3⟩:=Jt (s:=s) (ndK 5 O.1 [a,Q.1]) Q.2 (by have:=ib.2;omega) (Iz (by simp));have rest:(F6 (ndK 5 O.1 [a,Q.1]) Q.2).2.1=Q.2.1:=rfl;generalize F6 (ndK 5 O.1 [a,Q.1]) Q.2=C at h3 c rest⊢;obtain ⟨x,hx,n4,h4⟩:=Gs H hs f (.rl level C.1) C.2 ⟨by rw [rest];omega,hl1,hl4⟩ (hi.go c) trivial;refine ⟨x,hx,n1+n2+n3+n4+1,λn hn M hM=>?_⟩;obtain ⟨M,rfl,hM⟩:=up1 hM;have w1:IntKind.i64.wrap (level+1)=level+1:=qn (by omega);have h2:=h2 n (by omega);rw [<-w1] at h2;rw [qu (v':=(level,C.1,Eu s C.2)) (by
     exact qb (Js hb) (qa (h1 n (by omega)) (qh (zanF.2 h0) (qa h2 (qb rfl (qa (h3 n (by omega)) rfl))))))]
    exact h4 n (by omega) M (by omega)
 |f+1,.one,q,ha,hi,_=>by
  obtain ⟨ha,hb⟩:=ha;have hr:q.1.length<=1000:=zX (FK hi.1) hs;unfold sP;obtain ⟨n1,h1⟩:=Hi hs [45] (by simp) q hi.1;cases c1:(sIs [45] q).1 with
  |true=>
   rw [if_pos rfl];have a:=Ge (by simp) c1;have al:=QY (by simp) c1;have b:=Gi H f (.row 5) (sIs [45] q).2 (zX (EB a) hr) trivial;obtain ⟨n2,h2⟩:=Gs H hs f (.row 5) (sIs [45] q).2 ⟨by omega,by omega,by omega⟩ (hi.go a) trivial;have ib:=(hi.go a).go b;simp only;generalize sP f (.row 5) (sIs [45] q).2=Q at h2 ib⊢;obtain ⟨n3,h3⟩:=Jt (s:=s) (ndK 4 0 [Q.1]) Q.2 (by have:=ib.2;omega) (Iz (by simp));refine ⟨n1+n2+n3+1,λn hn=>?_⟩;obtain ⟨k,rfl,hm⟩:=up1 hn;exact qa (h1 k (by omega)) (qb c1 (qa (h2 k (by omega)) (qb rfl (qa (h3 k (by omega)) rfl))))
  |false=>
   rw [if_neg (by simp)];have a:=Ju [45] q;obtain ⟨n2,h2⟩:=Hi hs [40] (by simp) (sIs [45] q).2 (hi.go a).1;cases c2:(sIs [40] (sIs [45] q).2).1 with
   |true=>
    rw [if_pos rfl];have b:=Ge (by simp) c2;have al:=QY (by simp) c2;have atb:=a.tb;have g1:=a.trans b;have b2:=Gi H f (.row 1) (sIs [40] (sIs [45] q).2).2 (zX (EB g1) hr) trivial;obtain ⟨n3,h3⟩:=Gs H hs f (.row 1) (sIs [40] (sIs [45] q).2).2 ⟨by omega,by omega,by omega⟩ (hi.go g1) trivial;have ib:=(hi.go g1).go b2;simp only;generalize sP f (.row 1) (sIs [40] (sIs [45] q).2).2=Q at h3 ib⊢;obtain ⟨n4,h4⟩:=Hi hs [41] (by simp) Q.2 ib.1;refine ⟨n1+n2+n3+n4+1,λn hn=>?_⟩;obtain ⟨k,rfl,hm⟩:=up1 hn;refine qa (h1 k (by omega)) (qh c1 (qa (h2 k (by omega)) (qb c2 (qa (h3 k (by omega)) (qa (h4 k (by omega)) ?_)))));cases c3:(sIs [41] Q.2).1 with
    |true=>rw [if_pos rfl];exact qh rfl rfl
    |false=>rw [if_neg (by simp)];exact qb rfl rfl
   |false=>
    rw [if_neg (by simp)];have e2:(sIs [40] (sIs [45] q).2).2=(tb q.1,q.2):=by
     rw [Ox c2,Ox c1];simp only [FD]
    rw [e2] at h2;have t:=LZ q;have it:=hi.go t;obtain ⟨n3,h3⟩:=Hi hs [34] (by simp) (tb q.1,q.2) it.1;simp only;cases c3:(sIs [34] (tb q.1,q.2)).1 with
    |true=>
     rw [if_pos rfl];have b:=Ge (by simp) c3;have ib:=it.go b;have eq2:(sIs [34] (tb q.1,q.2)).2.2=q.2:=by obtain ⟨_,e,_⟩:=Kb c3;rw [e]
     obtain ⟨n4,h4⟩:=Q5 hs (sIs [34] (tb q.1,q.2)).2 ib.1 (by have:=ib.2;omega);refine ⟨n1+n2+n3+n4+1,λn hn=>?_⟩;obtain ⟨k,rfl,hm⟩:=up1 hn;refine qa (h1 k (by omega)) (qh c1 (qa (h2 k (by omega)) (qh c2 (qa (h3 k (by omega)) (qb c3 (qa (h4 k (by omega)) ?_))))));rw [Da,eq2]
     all_goals (cases FC [] (sIs [34] (tb q.1,q.2)).2.1<;>rfl)
    |false=>
     rw [if_neg (by simp)];have e3:(sIs [34] (tb q.1,q.2)).2=(tb q.1,q.2):=by rw [Ox c3];simp only [FD]
     rw [e3] at h3;obtain ⟨n4,h4⟩:=Hi hs [35] (by simp) (tb q.1,q.2) it.1;cases c4:(sIs [35] (tb q.1,q.2)).1 with
     |true=>
      rw [if_pos rfl];have b:=Ge (by simp) c4;have ib:=it.go b;have eq2:(sIs [35] (tb q.1,q.2)).2.2=q.2:=by obtain ⟨_,e,_⟩:=Kb c4;rw [e]
      obtain ⟨n5,h5⟩:=Rm hs (sIs [35] (tb q.1,q.2)).2.1 ib.1 q.2.1 q.2.2 (by have:=hi.2;omega);have h4:=λk hk=>h4 k hk
      refine ⟨n1+n2+n3+n4+n5+1,λn hn=>?_⟩;obtain ⟨k,rfl,hm⟩:=up1 hn;have h4:=h4 k (by omega);have h5:=h5 k (by omega) k (by omega);have e4:Eu s (sIs [35] (tb q.1,q.2)).2=(BR s,pos s (sIs [35] (tb q.1,q.2)).2.1,q.2.1,q.2.2.length,q.2.2.map qf):=by unfold Eu;rw [eq2]
      rw [e4] at h4;refine qa (h1 k (by omega)) (qh c1 (qa (h2 k (by omega)) (qh c2 (qa (h3 k (by omega)) (qh c3 (qa h4 (qb c4 (qa h5 ?_))))))));cases Pu (sIs [35] (tb q.1,q.2)).2.1 1 5<;>rfl
     |false=>
      rw [if_neg (by simp)];have e4:(sIs [35] (tb q.1,q.2)).2=(tb q.1,q.2):=by rw [Ox c4];simp only [FD]
      rw [e4] at h4;obtain ⟨n5,h5⟩:=Ns hs (tb q.1,q.2) it.1;have w:=Ow q;have iw:=hi.go w;have htl:=C4 q.1;obtain ⟨n6,h6⟩:=Hi hs [40] (by simp) (wr (tb q.1),q.2) iw.1;obtain ⟨n7,h7⟩:=Ro;obtain ⟨n9,h9⟩:=Oy H (s:=s) (tb q.1) (wr (tb q.1),q.2) (by omega) (by have:=hi.2;simp only;omega);have gi:=Ju [40] (wr (tb q.1),q.2);cases hf:M1 (wd (tb q.1)) 1 10 with
      |none=>
       simp only;refine ⟨n1+n2+n3+n4+n5+n6+n7+n9+12+1,λn hn=>?_⟩;obtain ⟨k,rfl,hm⟩:=up1 hn;have lp:=J5 (g:=ql k) (s:=s) (wd (tb q.1)) (wr (tb q.1),q.2) (λ_=>(0,q)) (h7 k (by omega)) (h6 k (by omega)) 10 1 k (by omega) (by omega) (by omega) (λop h=>by rw [hf] at h;cases h);rw [hf] at lp;exact qa (h1 k (by omega)) (qh c1 (qa (h2 k (by omega)) (qh c2 (qa (h3 k (by omega)) (qh c3 (qa (h4 k (by omega)) (qh c4 (qa (h5 k (by omega)) (qa lp (h9 k (by omega)))))))))))
      |some op=>
       have wne:wd (tb q.1)≠ []:=λe=>by rw [e,H.f0] at hf;cases hf
       have wlt:=SX wne;simp only;cases c5:(sIs [40] (wr (tb q.1),q.2)).1 with
       |true=>
        rw [if_pos rfl];have il:=QY (by simp) c5;simp only at il;obtain ⟨x,hx,n8,h8⟩:=Gs H hs f (.call op []) (sIs [40] (wr (tb q.1),q.2)).2 (.inr (by omega)) (iw.go gi) (.inr (by have:=EB (w.tr0 gi);simp only [zanD];omega));have hcall:Ev (IW · op (BR s) (pos s (sIs [40] (wr (tb q.1),q.2)).2.1) (sIs [40] (wr (tb q.1),q.2)).2.2.1 (sIs [40] (wr (tb q.1),q.2)).2.2.2.length ((sIs [40] (wr (tb q.1),q.2)).2.2.2.map qf)) (Ee s (sP f (.call op []) (sIs [40] (wr (tb q.1),q.2)).2)):=by
         refine ⟨n8+1,λn hn=>?_⟩;obtain ⟨k,rfl,hm⟩:=up1 hn;have h8:=h8 k (by omega) k (by omega);rcases hx with rfl|⟨rfl,hz⟩
         ·exact qa h8 rfl
         ·refine qa h8 ?_;show some ((0:Int),Eu s _)=some (_,Eu s _);rw [hz]
        obtain ⟨n10,h10⟩:=hcall;refine ⟨n1+n2+n3+n4+n5+n6+n7+n10+12+1,λn hn=>?_⟩;obtain ⟨k,rfl,hm⟩:=up1 hn;have lp:=J5 (g:=ql k) (s:=s) (wd (tb q.1)) (wr (tb q.1),q.2) (λop=>sP f (.call op []) (sIs [40] (wr (tb q.1),q.2)).2) (h7 k (by omega)) (h6 k (by omega)) 10 1 k (by omega) (by omega) (by omega) (λop' h _=>by rw [hf] at h;cases h;exact h10 k (by omega));rw [hf] at lp;simp only at lp;rw [if_pos c5] at lp;exact qa (h1 k (by omega)) (qh c1 (qa (h2 k (by omega)) (qh c2 (qa (h3 k (by omega)) (qh c3 (qa (h4 k (by omega)) (qh c4 (qa (h5 k (by omega)) (qa lp rfl)))))))))
       |false=>
        rw [if_neg (by simp)];obtain ⟨v1,v2⟩:=H.f _ _ hf;obtain ⟨n9,h9⟩:=Oy H (s:=s) (tb q.1) (sIs [40] (wr (tb q.1),q.2)).2 (by omega) (by have:=(iw.go gi).2;omega);have er:Nv (wd (tb q.1)) (sIs [40] (wr (tb q.1),q.2)).2=(0,Kt (sIs [40] (wr (tb q.1),q.2)).2):=by
         unfold Nv;rw [if_neg (λh=>by rw [v1] at h;cases h.1),if_neg (by rw [v2];simp)]
        rw [er] at h9;refine ⟨n1+n2+n3+n4+n5+n6+n7+n9+12+1,λn hn=>?_⟩;obtain ⟨k,rfl,hm⟩:=up1 hn;have lp:=J5 (g:=ql k) (s:=s) (wd (tb q.1)) (wr (tb q.1),q.2) (λ_=>(0,q)) (h7 k (by omega)) (h6 k (by omega)) 10 1 k (by omega) (by omega) (by omega) (λop' h h'=>by rw [c5] at h';cases h');rw [hf] at lp;simp only at lp;rw [if_neg (by rw [c5];simp)] at lp;exact qa (h1 k (by omega)) (qh c1 (qa (h2 k (by omega)) (qh c2 (qa (h3 k (by omega)) (qh c3 (qa (h4 k (by omega)) (qh c4 (qa (h5 k (by omega)) (qa lp (h9 k (by omega)))))))))))
 |f+1,.call op kids,q,ha,hi,hk=>by
  have hr:q.1.length<=1000:=zX (FK hi.1) hs;unfold sP;by_cases hb:q.2.1=true
  ·rw [if_pos hb];refine ⟨.inr (Eu s q),.inr ⟨rfl,rfl⟩,1,λn hn M hM=>?_⟩;obtain ⟨M,rfl,hM⟩:=up1 hM;exact qd (qh (Nr hb) rfl)
  ·have hk:kids.length+q.1.length<=1500:=hk.elim (λh=>absurd h hb) id;have ha:20*(tb q.1).length+12<=f+1:=ha.elim (λh=>absurd h.1 hb) id;have hb:q.2.1=false:=by rw [jR];exact hb
   rw [if_neg (by rw [hb];simp)];simp only;have a:=Gi H f .arg q hr trivial;obtain ⟨n1,h1⟩:=Gs H hs f .arg q (by show 20*_+10<=f;omega) hi trivial;generalize sP f .arg q=A at a h1⊢;have ia:=hi.go a;have ta:=a.tb;have ra:=EB a;obtain ⟨n2,h2⟩:=Hi hs [41] (by simp) A.2 ia.1;have kl:decide (kids.length=(kids.map DG).length/\0<1/\0<8/\(kids.length+([[(PV.i .i64 A.1)]]:RW).length)*8<=140737488355328/\([[(PV.i .i64 A.1)]]:RW).all (λe=>e.length==1)=true)=true:=zJ ⟨by simp,by decide,by decide,by simp;omega,rfl⟩;have k1:(kids++ [A.1]).length=kids.length+1:=by simp
   have k2:(kids++ [A.1]).map DG=kids.map DG++ [[PV.i .i64 A.1]]:=by simp [DG]
   cases c1:(sIs [41] A.2).1 with
   |true=>
    rw [if_pos rfl];have g:=a.trans (Ge (by simp) c1);obtain ⟨n3,h3⟩:=Jt (s:=s) (ndK 6 op (kids++ [A.1])) (sIs [41] A.2).2 (by have:=(hi.go g).2;omega) (Iz (by simp;omega));refine ⟨.inl (Ee s (F6 (ndK 6 op (kids++ [A.1])) (sIs [41] A.2).2)),.inl rfl,n1+n2+n3+1,λn hn M hM=>?_⟩;obtain ⟨M,rfl,hM⟩:=up1 hM;have h3:_=some _:=h3 n (by omega);simp only [ndK,kd] at h3;rw [k2] at h3;exact qd (qb (Js hb) (qa (h1 n (by omega)) (qb rfl (qb kl (qa (h2 n (by omega)) (qb c1 (qb (zJ (by simp)) (qa h3 rfl))))))))
   |false=>
    rw [if_neg (by simp)];have g:=a.tr0 (Ju [41] A.2);have gt:=(Ju [41] A.2).tb;have i2:=hi.go g;obtain ⟨n3,h3⟩:=Hi hs [44] (by simp) (sIs [41] A.2).2 i2.1;cases c2:(sIs [44] (sIs [41] A.2).2).1 with
    |true=>
     rw [if_pos rfl];have b:=Ge (by simp) c2;have bl:=QY (by simp) c2;have bs:=EB (g.trans b);have b1:=b.sum;have eq3:(sIs [44] (sIs [41] A.2).2).2.2=(sIs [41] A.2).2.2:=by obtain ⟨_,e,_⟩:=Kb c2;rw [e]
     rw [eq3] at b1;have g0:=EB g;obtain ⟨x,hx,n4,h4⟩:=Gs H hs f (.call op (kids++ [A.1])) (sIs [44] (sIs [41] A.2).2).2 (.inr (by omega)) (i2.go b) (.inr (by rw [k1];omega));refine ⟨x,hx,n1+n2+n3+n4+1,λn hn M hM=>?_⟩;obtain ⟨M,rfl,hM⟩:=up1 hM;have h4:=h4 n (by omega) M (by omega);rw [k1,k2] at h4;rw [qu (v':=(op,kids.length+1,kids.map DG++ [[PV.i .i64 A.1]],Eu s (sIs [44] (sIs [41] A.2).2).2)) (by
      exact qb (Js hb) (qa (h1 n (by omega)) (qb rfl (qb kl (qa (h2 n (by omega)) (qh c1 (qa (h3 n (by omega)) (qh (Nr c2) rfl))))))))]
     exact h4
    |false=>
     rw [if_neg (by simp)];have b:=Ju [44] (sIs [41] A.2).2;obtain ⟨x,hx,n4,h4⟩:=Gs H hs f (.call op (kids++ [A.1])) (Kt (sIs [44] (sIs [41] A.2).2).2) (.inl ⟨rfl,by omega⟩) (i2.go (Nu b)) (.inl rfl);refine ⟨x,hx,n1+n2+n3+n4+1,λn hn M hM=>?_⟩;obtain ⟨M,rfl,hM⟩:=up1 hM;have h4:=h4 n (by omega) M (by omega);rw [k1,k2] at h4;rw [qu (v':=(op,kids.length+1,kids.map DG++ [[PV.i .i64 A.1]],Eu s (Kt (sIs [44] (sIs [41] A.2).2).2))) (by
      exact qb (Js hb) (qa (h1 n (by omega)) (qb rfl (qb kl (qa (h2 n (by omega)) (qh c1 (qa (h3 n (by omega)) (qb (Js c2) rfl))))))))]
     exact h4
 |f+1,.arg,q,ha,hi,_=>by
  replace ha:20*(tb q.1).length+10<=f+1:=ha
  have hr:q.1.length<=1000:=zX (FK hi.1) hs;have htl:=C4 q.1;unfold sP;simp only;have t:=LZ q;have it:=hi.go t;have w:=Ow q;have iw:=hi.go w;obtain ⟨n1,h1⟩:=PU hs q hi.1;obtain ⟨n2,h2⟩:=Ns hs (tb q.1,q.2) it.1;obtain ⟨n3,h3⟩:=srp (tb q.1) (by omega);obtain ⟨n4,h4⟩:=Hi hs [58] (by simp) (wr (tb q.1),q.2) iw.1;have eq2:(sIs [58] (wr (tb q.1),q.2)).2.2=q.2:=by
   cases c:(sIs [58] (wr (tb q.1),q.2)).1 with
   |true=>obtain ⟨_,e,_⟩:=Kb c;rw [e]
   |false=>rw [Ox c]
  by_cases hc:(EI (BR (wd (tb q.1)))).2.2.2.2=true/\(sIs [58] (wr (tb q.1),q.2)).1=true
  ·rw [if_pos hc];have g:=w.trans (Ge (by simp) hc.2);have ig:=hi.go g;have rg:=EB g;generalize sIs [58] (wr (tb q.1),q.2)=I at*
   have gt:=LZ I.2;have gw:=Ow I.2;have il:=C4 I.2.1;obtain ⟨n5,h5⟩:=PU hs I.2 ig.1;obtain ⟨n6,h6⟩:=Ns hs (tb I.2.1,I.2.2) (ig.go gt).1;obtain ⟨n7,h7⟩:=srp (tb I.2.1) (by omega);cases hp:(EI (BR (wd (tb I.2.1)))).2.2.2.2 with
   |true=>
    rw [if_pos rfl];obtain ⟨n8,h8⟩:=Jt (s:=s) (ndA (EI (BR (wd (tb q.1)))) (EI (BR (wd (tb I.2.1))))) (wr (tb I.2.1),I.2.2) (by have:=(ig.go gw).2;simp only at this⊢;omega) ⟨by simp [kd,ndA],by simp [ndA,em];decide⟩;refine ⟨n1+n2+n3+n4+n5+n6+n7+n8+1,λn hn=>?_⟩;obtain ⟨k,rfl,hm⟩:=up1 hn;exact qa (h1 k (by omega)) (qa (h2 k (by omega)) (qa (h3 k (by omega)) (qb hc.1 (qa (h4 k (by omega)) (qb hc.2 (qa (h5 k (by omega)) (qa (h6 k (by omega)) (qa (h7 k (by omega)) (qh (Nr hp) (qa (h8 k (by omega)) rfl))))))))))
   |false=>
    rw [if_neg (by simp)];refine ⟨n1+n2+n3+n4+n5+n6+n7+1,λn hn=>?_⟩;obtain ⟨k,rfl,hm⟩:=up1 hn;exact qa (h1 k (by omega)) (qa (h2 k (by omega)) (qa (h3 k (by omega)) (qb hc.1 (qa (h4 k (by omega)) (qb hc.2 (qa (h5 k (by omega)) (qa (h6 k (by omega)) (qa (h7 k (by omega)) (qb (Js hp) rfl)))))))))
  ·rw [if_neg hc];obtain ⟨n5,h5⟩:=Gs H hs f (.row 1) (tb q.1,q.2) ⟨by simp only [FD];omega,by omega,by omega⟩ it trivial;refine ⟨n1+n2+n3+n4+n5+1,λn hn=>?_⟩;obtain ⟨k,rfl,hm⟩:=up1 hn;cases hp:(EI (BR (wd (tb q.1)))).2.2.2.2 with
   |true=>
    have ht:(sIs [58] (wr (tb q.1),q.2)).1=false:=by rw [jR];exact λe=>hc ⟨hp,e⟩
    have h4:=h4 k (by omega);have e4:Eu s (sIs [58] (wr (tb q.1),q.2)).2=(BR s,pos s (sIs [58] (wr (tb q.1),q.2)).2.1,q.2.1,q.2.2.length,q.2.2.map qf):=by unfold Eu;rw [eq2]
    rw [e4] at h4;exact qa (h1 k (by omega)) (qa (h2 k (by omega)) (qa (h3 k (by omega)) (qb hp (qa h4 (qh ht (qa (h5 k (by omega)) rfl))))))
   |false=>exact qa (h1 k (by omega)) (qa (h2 k (by omega)) (qa (h3 k (by omega)) (qh hp (qa (h5 k (by omega)) rfl))))
theorem Qm {w:LBy} (h:w.all wch=true) (hn:w≠ []):(E9 (BR w)).1=1\/(E9 (BR w)).1=3:=by
 cases w with
 |nil=>exact absurd rfl hn
 |cons c t=>
  simp only [zanC,zY] at h;have h39:¬(c::t).head?=some 39:=by
   intro e;simp at e;rw [e] at h;exact absurd h.1 (by decide)
  have h35:¬(c::t).head?=some 35:=by
   intro e;simp at e;rw [e] at h;exact absurd h.1 (by decide)
  unfold E9;rw [FJ,if_neg h39];split
  ·exact .inr rfl
  ·split
   ·exact .inr rfl
   ·exact .inl rfl
theorem R8:RdOK where
 v:=λw h hn ho=>by
  have c:=Qm h hn;unfold Cr at ho⊢;split at ho
  ·rename_i hc;rw [if_pos hc];exact c
  ·cases ho
 v0:=by
  have:(Cr (BR [])).1=0:=by
   have:(Cr ⟨#[]⟩).1=0:=by decide+kernel
   exact this
  rw [this];decide
 p0:=by
  have:(EI ⟨#[]⟩).2.2.2.2=false:=by decide+kernel
  exact this
 f:=λw op h=>by
  have t:∀a:Fin 10,(Cr (fnS (((a.val:Nat):Int)+1))).2.2.2=false/\(EI (fnS (((a.val:Nat):Int)+1))).2.2.2.2=false:=by decide+kernel
  have e:∀(k:Nat) (i:Int),1<=i->i+k<=11->M1 w i k=some op->∃j:Int,1<=j/\j<=10/\(fnS j).toList=w:=by
   intro k
   induction k with
   |zero=>intro i _ _ h;cases h
   |succ k ih=>
    intro i h1 h2 h;unfold M1 at h;split at h
    ·rename_i hq;exact ⟨i,h1,by omega,hq⟩
    ·exact ih (i+1) (by omega) (by omega) h
  obtain ⟨j,j1,j2,rfl⟩:=e 10 1 (by omega) (by omega) h;rw [Np];have:=t ⟨(j-1).toNat,by omega⟩;simp only at this
  rwa [show (((j-1).toNat:Nat):Int)+1=j by omega] at this
 f0:=by decide+kernel
 n:=λn hn=>by
  have c:n=1\/n=2\/n=3\/n=4\/n=5:=by omega
  rcases c with rfl|rfl|rfl|rfl|rfl
  ·exact ⟨[68,73,86,33],by decide+kernel⟩
  ·exact ⟨[84,89,80,69,33],by decide+kernel⟩
  ·exact ⟨[82,69,70,33],by decide+kernel⟩
  ·exact ⟨[79,86,69,82,33],by decide+kernel⟩
  ·exact ⟨[67,89,67,76,69,33],by decide+kernel⟩
def P2 (s:BA):PS:=(pP 4050 (.bin 1 0) (s.toList,false,[])).2
def La (s:BA):List Nd×Bool:=
 if HJ s 200=true/\(P2 s).2.1=false/\tb (P2 s).1= []/\FQ (P2 s).2.2=true then ((P2 s).2.2,true) else ([],false)
theorem Oz {s:BA} (h:HJ s 200=true):s.toList.length<=200:=by
 unfold HJ at h;simp only [zY,aZ] at h;rw [Dk];omega
theorem Q9 {s:BA} (h:HJ s 200=true):Gd (s.toList,false,[]):=⟨by have:=Oz h;simp only;omega,by simp,λx hx=>by cases hx⟩
theorem O0 {l:List Nd} (h:∀x∈l,HB x):∀c∈l,(kd c).length<=140737488351232/\c.2.2.2.2.1.size<=140737488351232:=λc hc=>by
 have:=h c hc;exact ⟨by have:=this.1;omega,by have:=this.2;omega⟩
theorem Qn {l:List Nd} (h:∃x∈l,EJ x=false):FQ l=false:=by
 obtain ⟨x,hx,hb⟩:=h;rw [jR];intro ho;unfold FQ at ho;simp only [zY] at ho;obtain ⟨i,hi⟩:=List.mem_iff_getElem?.1 hx;have hil:=(zamJ.1 hi).1;have:=(Fh.1 ho.2.1 (i:Int) (by omega) (by omega)).1;unfold G8 at this;have e:ndi l (i:Int)=x:=by unfold ndi;simp [hi]
 rw [e,hb] at this;cases this
theorem Jv (s:BA) (hb:s.size<=140737488351232):Ev (GD · s) ((La s).1.length,(La s).2,(La s).1.map qf):=by
 obtain ⟨n1,h1⟩:=JF s hb;by_cases hp:HJ s 200=true
 ·have hl:=Oz hp;have hs:s.toList.length<=1000:=by omega
  have htb:=C4 s.toList;have hg:=Q9 hp;have gi:=(Ih 4050 (.bin 1 0) (s.toList,false,[]) hg trivial).1;have sim:=(Rk R8 (tb s.toList).length).2.2.1 (s.toList,false,[]) (s.toList,false,[]) 0 4 4050 4050 (by omega) ⟨rfl,rfl,rfl,rfl⟩ rfl (by omega) (by omega) (by omega) (by omega);rw [show (5:Int)-((4:Nat):Int)=1 from rfl] at sim;have iv:Iv s.toList (s.toList,false,[]):=⟨List.suffix_rfl,by simp;omega⟩;obtain ⟨n2,h2⟩:=Gs R8 hs 4050 (.row 1) (s.toList,false,[]) ⟨by simp only;omega,by omega,by omega⟩ iv trivial;have g:=Gi R8 4050 (.row 1) (s.toList,false,[]) hs trivial;have e0:(pP 4050 (.bin 1 0) (s.toList,false,[])).2=P2 s:=rfl;generalize pP 4050 (.bin 1 0) (s.toList,false,[])=P at sim e0 gi;generalize sP 4050 (.row 1) (s.toList,false,[])=Q at sim h2 g;unfold La;rw [<-e0];obtain ⟨n3,h3⟩:=PU hs Q.2 (iv.go g).1;obtain ⟨n4,h4⟩:=Ga Q.2.2.2 (O0 (g.sm (λx hx=>by cases hx)));have p0:pos s.toList s.toList=0:=by unfold pos;simp
  simp only [Np,p0] at h2 h3;have g2:=(QE (iv.go g).1);refine ⟨n1+n2+n3+n4+1,λn hn=>?_⟩;obtain ⟨k,rfl,hm⟩:=up1 hn;have h1:=h1 k (by omega);rw [hp] at h1;have h2:=h2 k (by omega);have h3:=h3 k (by omega);have e1:Ee s.toList Q=(Q.1,s,pos s.toList Q.2.1,Q.2.2.1,Q.2.2.2.length,Q.2.2.2.map qf):=by unfold Ee Eu;rw [Np]
  have e2:Eu s.toList (tb Q.2.1,Q.2.2)=(s,pos s.toList (tb Q.2.1),Q.2.2.1,Q.2.2.2.length,Q.2.2.2.map qf):=by unfold Eu;rw [Np]
  rw [e1] at h2;rw [e2] at h3;refine qa h1 (qh rfl (qa h2 (qa h3 ?_)));rcases sim with ⟨_,hk,_⟩|⟨hbad,hd⟩
  ·obtain ⟨k1,k2,k3,k4⟩:=hk;rw [k1,k3,k4];refine qh k2 ?_;by_cases hr:tb Q.2.1= []
   ·refine qh (zu (show ¬pos s.toList (tb Q.2.1)<(s.size:Int) by rw [hr];unfold pos;simp [Dk])) (qb (zJ (by simp)) (qa (h4 k (by omega)) (qb (QL _) ?_)));cases ho:FQ Q.2.2.2 with
    |true=>
     rw [if_pos ⟨hp,rfl,hr,rfl⟩];exact qh rfl rfl
    |false=>
     rw [if_neg (λh=>by cases h.2.2.2)];exact qb rfl rfl
   ·rw [if_neg (λh=>hr h.2.2.1)];have hlp:=List.length_pos_iff.2 hr;have hsl:=FK g2;exact qb (zJ (show pos s.toList (tb Q.2.1)<(s.size:Int) by rw [Dk] at hsl;unfold pos;rw [Dk];omega)) rfl
  ·rw [if_neg (λh=>by
    rcases hd with hd|hd
    ·rw [hd] at h;cases h.2.1
    ·rw [Qn hd] at h;cases h.2.2.2)]
   exact qb hbad rfl
 ·refine ⟨n1+1,λn hn=>?_⟩;obtain ⟨k,rfl,hm⟩:=up1 hn;unfold La;rw [if_neg (λh=>hp h.1)];exact qa (h1 k (by omega)) (qb (Js (by rw [jR];exact hp)) rfl)
theorem RA (s:BA):(La s).1.length<=60/\∀x∈(La s).1,HB x:=by
 unfold La;split
 ·rename_i h;have g:=(Ih 4050 (.bin 1 0) (s.toList,false,[]) (Q9 h.1) trivial).1;exact ⟨g.n,g.s⟩
 ·exact ⟨by simp,λx hx=>by cases hx⟩
abbrev Cl:=Int×Int×BA
def Fo (r:LBy):Prop:=∀c,r.head?=some c->c∈([38,43,45,42,47,60,61,62,41,44]:LBy)
def Sta (r:LBy):Prop:=∃c,r.head?=some c/\(wch c=true\/c=45\/c=40\/c=34\/c=35)
def lo (l:List Nd) (i:Int):Int:=Et (qt l) (i.toNat+1) i
def tx (l:List Nd) (g:Nat) (i t:Int):LBy:=(Pt l g i t).toList
structure RT (l:List Nd) (g:Nat) (i:Int):Prop where
 s:∀t,Sta (tx l g i t)
 c:∀(t:Int) (r:LBy),Fo r->∀d:UInt8,(d=58\/d=32)->(wr (tx l g i t++r)).head?≠some d
 u:∀(r:LBy) (deep:Int) (f:Nat),Fo r->0<=deep->deep+g<=400->20*(tx l g i 5++r).length+4<=f->pP f (.un deep) (tx l g i 5++r,false,l.take (lo l i).toNat)=(i,r,false,l.take (i.toNat+1))
 b:∀(t t':Int) (r:LBy) (deep:Int) (f:Nat),1<=t->t<=t'->t'<=5->Fo r->(EO r=0\/lvl (EO r)<=t')->0<=deep->deep+g<=400->20*(tx l g i t'++r).length+6<=f->
  ∃f2,20*r.length+5<=f2/\pP f (.bin t deep) (tx l g i t'++r,false,l.take (lo l i).toNat)=pP f2 (.loop t deep i) (r,false,l.take (i.toNat+1))
def Dwx {β:Type} (Q:β->Prop) (R:Nat->Tr β):Prop:=∃x,Q x/\Ev (λn=>(R n).run) x
theorem qp {α β:Type} {Q:β->Prop} {F:Nat->Option α} {r:α} {K:Nat->α->Tr β} (h:Ev F r) (hk:Dwx Q λn=>K n r):Dwx Q λn=> .opt (F n) (K n):=by
 obtain ⟨x,q,n1,h1⟩:=hk;obtain ⟨n0,h0⟩:=h;exact ⟨x,q,n0+n1,λn hn=>qa (h0 n (by omega)) (h1 n (by omega))⟩
theorem Cg {β:Type} {Q:β->Prop} {b:Bool} {t e:Nat->Tr β} (h:b=true) (hk:Dwx Q t):Dwx Q λn=> .ask b (t n) (e n):=by
 obtain ⟨x,q,n1,h1⟩:=hk;exact ⟨x,q,n1,λn hn=>qb h (h1 n hn)⟩
theorem C7 {β:Type} {Q:β->Prop} {b:Bool} {t e:Nat->Tr β} (h:b=false) (hk:Dwx Q e):Dwx Q λn=> .ask b (t n) (e n):=by
 obtain ⟨x,q,n1,h1⟩:=hk;exact ⟨x,q,n1,λn hn=>qh h (h1 n hn)⟩
theorem EC {α β:Type} {Q:β->Prop} {o:Option α} {r:α} {K:Nat->α->Tr β} (h:o=some r) (hk:Dwx Q λn=>K n r):Dwx Q λn=> .opt o (K n):=by
 obtain ⟨x,q,n1,h1⟩:=hk;exact ⟨x,q,n1,λn hn=>qa h (h1 n hn)⟩
theorem qk {β:Type} {Q:β->Prop} {x:β} (h:Q x):Dwx Q λ_=> .done x:=⟨x,h,0,λ_ _=>rfl⟩
theorem EP {β:Type} {Q:β->Prop} {F:Nat->Option β} {R:Nat->Tr β} (h:Dwx Q R) (hF:∀n,F (n+1)=(R n).run):∃x,Q x/\Ev F x:=by
 obtain ⟨x,q,n1,h1⟩:=h;refine ⟨x,q,n1+1,λn hn=>?_⟩;obtain ⟨m,rfl,hm⟩:=up1 hn;rw [hF];exact h1 m hm
theorem Fv {β:Type} {F:Nat->Option β} {x:β} (h:∃y,y=x/\Ev F y):Ev F x:=by
 obtain ⟨y,rfl,h⟩:=h;exact h
theorem EF {x y:BA} {a b:Nat} (hx:x.size<=a) (hy:y.size<=b):(x++y).size<=a+b:=by rw [pC];omega
theorem fit {x y:BA} {a b:Nat} (hx:x.size<=a) (hy:y.size<=b) (h:a+b<=9000000000000000000):decide (x.size+y.size<=9223372036854775807)=true:=zJ (by omega)
abbrev Drn (l:RW) {α:Type} (P:α->Prop) (x:α×RW×Int):Prop:=x.2.1=l/\(0<=x.2.2/\x.2.2<=l.length)/\P x.1
def Qa (n:Nat) (l:RW) (p:Int):Tr (BA×RW×Int):= .opt (C6 n l p) λr11=> .opt (qo n (5:Int) r11.2.2.1 r11.2.2.2) λr13=> .opt (qo n (5:Int) r13.2.1 r13.2.2) λr14=> .opt (qx n r11.1 r11.2.1 r13.1 r14.1) λr30=> .done (r30,r14.2.1,r14.2.2)
theorem Nw {l:RW} {p:Int} (hl:Jg l) (hp:0<=p/\p<=l.length):Dwx (Drn l λt:BA=>t.size<=1000) λn=>Qa n l p:=by
 obtain ⟨a,b,p1,h1,h2⟩:=PH hl hp;obtain ⟨fc,p2,h3,h4⟩:=G3 5 (by decide) hl h1;obtain ⟨fr,p3,h5,h6⟩:=G3 5 (by decide) hl h3;refine qp (Es h2) (qp (Es h4) (qp (Es h6) (qp (GZ a b fc fr) (qk ⟨rfl,h5,?_⟩))));have:=Jk a b fc fr;dsimp only;omega
def SY (n:Nat) (l:RW) (p:Int):Tr (BA×RW×Int):= .opt (qc n (7:Int) l p) λr8=> .ask (r8.1==(0:Int)) (Qa n r8.2.1 r8.2.2) (.ask (r8.1==(1:Int)) (Qa n r8.2.1 r8.2.2) (.ask (r8.1==(2:Int)) (Qa n r8.2.1 r8.2.2) (.ask (r8.1==(3:Int))
 (.opt (qc n (6:Int) r8.2.1 r8.2.2) λr39=>(.ask (decide (6=([[(.s (⟨#[34,97,34]⟩:BA))],[(.s (⟨#[34,34]⟩:BA))],[(.s (⟨#[84,82,85,69]⟩:BA))],[(.s (⟨#[70,65,76,83,69]⟩:BA))],[(.s (⟨#[35,82,69,70,33]⟩:BA))],[(.s (⟨#[34,113,34,34,34]⟩:BA))]]:RW).length/\0<=r39.1/\r39.1<((6:Nat):Int))) (.opt (([[(.s (⟨#[34,97,34]⟩:BA))],[(.s (⟨#[34,34]⟩:BA))],[(.s (⟨#[84,82,85,69]⟩:BA))],[(.s (⟨#[70,65,76,83,69]⟩:BA))],[(.s (⟨#[35,82,69,70,33]⟩:BA))],[(.s (⟨#[34,113,34,34,34]⟩:BA))]]:RW)[(r39.1).toNat]?) λe40=>(.opt (aY e40 0) λy41=>(.done (y41,r39.2.1,r39.2.2)))) .fail))
 (.opt (qc n (12:Int) r8.2.1 r8.2.2) λr42=>(.opt (Cu n r42.1) λr43=>(.done (r43,r42.2.1,r42.2.2)))))))
theorem P3 {l:RW} {p:Int} (hl:Jg l) (hp:0<=p/\p<=l.length):Dwx (Drn l λt:BA=>t.size<=1000) λn=>SY n l p:=by
 obtain ⟨a,p1,h1,ha,h2⟩:=EU 7 (by decide) hl hp;refine qp (Es h2) ?_;have c:a=0\/a=1\/a=2\/a=3\/¬(a=0\/a=1\/a=2\/a=3):=by omega
 rcases c with rfl|rfl|rfl|rfl|c
 ·exact Cg rfl (Nw hl h1)
 ·exact C7 rfl (Cg rfl (Nw hl h1))
 ·exact C7 rfl (C7 rfl (Cg rfl (Nw hl h1)))
 ·refine C7 rfl (C7 rfl (C7 rfl (Cg rfl ?_)));obtain ⟨b,p2,h3,hb,h4⟩:=EU 6 (by decide) hl h1;refine qp (Es h4) ?_;have c:b=0\/b=1\/b=2\/b=3\/b=4\/b=5:=by omega
  rcases c with rfl|rfl|rfl|rfl|rfl|rfl<;>exact Cg rfl (EC rfl (EC rfl (qk ⟨rfl,h3,by dsimp only;decide⟩)))
 ·refine C7 (zanF.2 (by dsimp only;omega)) (C7 (zanF.2 (by dsimp only;omega)) (C7 (zanF.2 (by dsimp only;omega)) (C7 (zanF.2 (by dsimp only;omega)) ?_)));obtain ⟨b,p2,h3,hb,h4⟩:=EU 12 (by decide) hl h1;refine qp (Es h4) (qp (KZ b (by omega)) (qk ⟨rfl,h3,?_⟩));have:=Qd (x:=b) (by omega);dsimp only;omega
theorem P4 {l:RW} (hl:Jg l):∀(d:Nat),d<=9->∀{p:Int},(0<=p/\p<=l.length)->∃(t:BA) (p':Int),(0<=p'/\p'<=l.length)/\t.size<=1000*4^d/\Ev (λn=>Cj n (d:Int) l p) (t,l,p')
 |0,_,p,hp=>by
  obtain ⟨⟨t,l',p'⟩,⟨rfl,h1,h2⟩,h3⟩:=EP (F:=λn=>Cj n ((0:Nat):Int) l p) (R:=λn=>Eg (Cj n) n ((0:Nat):Int) l p) (Cg rfl (P3 hl hp)) λn=>rfl
  exact ⟨t,p',h1,by simpa using h2,h3⟩
 |d+1,hd,p,hp=>by
  have ih:=fun {p:Int} (hp:0<=p/\p<=l.length)=>P4 hl d (by omega) (p:=p) hp
  have hb:1000<=1000*4^d:=Nat.le_mul_of_pos_right _ (Nat.pow_pos (by decide));have hb9:1000*4^d<=300000000:=by
   have:4^d<=4^9:=Nat.pow_le_pow_right (by decide) (by omega);have e:4^9=262144:=by decide
   omega
  have he:1000*4^(d+1)=4*(1000*4^d):=by rw [Nat.pow_succ];omega
  rw [he];generalize 1000*4^d=B at ih hb hb9;have hw:IntKind.i64.wrap (((d+1:Nat):Int)-(1:Int))=(d:Int):=by rw [qn (by omega)];omega
  have key:Dwx (Drn l λt:BA=>t.size<=4*B) λn=>Eg (Cj n) n ((d+1:Nat):Int) l p:=by
   unfold Eg Fb;rw [hw];refine C7 (zanF.2 (by omega)) ?_;obtain ⟨o,p1,h1,h2⟩:=G3 3 (by decide) hl hp;refine qp (Es h2) ?_;cases o with
   |true=>
    obtain ⟨⟨t,l',p'⟩,⟨rfl,g1,g2⟩,g3⟩:=P3 hl h1;refine Cg rfl ⟨(t,l',p'),⟨rfl,g1,?_⟩,g3⟩;dsimp only at g2⊢;omega
   |false=>
    refine C7 rfl ?_;obtain ⟨a,p2,h3,ha,h4⟩:=EU 8 (by decide) hl h1;refine qp (Es h4) ?_;have one:(⟨#[45]⟩:BA).size<=9/\(⟨#[40]⟩:BA).size<=9/\(⟨#[41]⟩:BA).size<=9/\(⟨#[44]⟩:BA).size<=9/\(⟨#[58]⟩:BA).size<=9/\(⟨#[73,70,40]⟩:BA).size<=9:=by decide
    obtain ⟨o1,o2,o3,o4,o5,o6⟩:=one;have areaG:∀{K:Nat->Int×RW×Int->Int->Int->Int->Int->Tr (BA×RW×Int)},(∀(u:BA) (a b c d q:Int),u.size<=9->True)->True:=λ_=>trivial
    have c:a=0\/a=1\/(a=2\/a=3)\/a=4\/a=5\/¬(a=0\/a=1\/a=2\/a=3\/a=4\/a=5):=by omega
    rcases c with rfl|rfl|c|rfl|rfl|c
    ·refine Cg rfl ?_;obtain ⟨t,p3,g1,g2,g3⟩:=ih h3;exact qp g3 (Cg (fit o1 g2 (by omega)) (qk ⟨rfl,g1,zX (EF o1 g2) (by omega)⟩))
    ·refine C7 rfl (Cg rfl ?_);obtain ⟨t,p3,g1,g2,g3⟩:=ih h3;exact qp g3 (Cg (fit o2 g2 (by omega)) (Cg (fit (EF o2 g2) o3 (by omega)) (qk ⟨rfl,g1,zX (EF (EF o2 g2) o3) (by omega)⟩)))
    ·obtain ⟨a1,a2,a3,a4,p3,g1,g2⟩:=RP hl h3;obtain ⟨b,p4,g3,hb',g4⟩:=EU 6 (by decide) hl g1;have z1:=Jk a1 a2 false false;have z2:=Jk a3 a4 false false;obtain ⟨t,p5,g5,g6,g7⟩:=ih g3;have fin:∀(u:BA),u.size<=9->Dwx (Drn l λt:BA=>t.size<=4*B) λn=>(.ask (decide (u.size+(⟨#[40]⟩:BA).size<=9223372036854775807)) (.opt (qx n a1 a2 false false) λr83=>(.ask (decide ((u++(⟨#[40]⟩:BA)).size+r83.size<=9223372036854775807)) (.ask (decide (((u++(⟨#[40]⟩:BA))++r83).size+(⟨#[58]⟩:BA).size<=9223372036854775807)) (.opt (qx n a3 a4 false false) λr84=>(.ask (decide ((((u++(⟨#[40]⟩:BA))++r83)++(⟨#[58]⟩:BA)).size+r84.size<=9223372036854775807)) (.ask (decide (((((u++(⟨#[40]⟩:BA))++r83)++(⟨#[58]⟩:BA))++r84).size+(⟨#[44]⟩:BA).size<=9223372036854775807)) (.opt (Cj n (d:Int) l p4) λr85=>(.ask (decide ((((((u++(⟨#[40]⟩:BA))++r83)++(⟨#[58]⟩:BA))++r84)++(⟨#[44]⟩:BA)).size+r85.1.size<=9223372036854775807)) (.ask (decide (((((((u++(⟨#[40]⟩:BA))++r83)++(⟨#[58]⟩:BA))++r84)++(⟨#[44]⟩:BA))++r85.1).size+(⟨#[41]⟩:BA).size<=9223372036854775807)) (.done ((((((((u++(⟨#[40]⟩:BA))++r83)++(⟨#[58]⟩:BA))++r84)++(⟨#[44]⟩:BA))++r85.1)++(⟨#[41]⟩:BA)),r85.2.1,r85.2.2)) .fail) .fail)) .fail) .fail)) .fail) .fail)) .fail:Tr (BA×RW×Int)):=λu hu=>by
      have s1:=EF hu o2;have s2:=EF s1 z1;have s3:=EF s2 o5;have s4:=EF s3 z2;have s5:=EF s4 o4;have s6:=EF s5 g6;exact Cg (fit hu o2 (by omega)) (qp (GZ a1 a2 false false) (Cg (fit s1 z1 (by omega)) (Cg (fit s2 o5 (by omega)) (qp (GZ a3 a4 false false) (Cg (fit s3 z2 (by omega)) (Cg (fit s4 o4 (by omega)) (qp g7 (Cg (fit s5 g6 (by omega)) (Cg (fit s6 o3 (by omega)) (qk ⟨rfl,g5,zX (EF s6 o3) (by omega)⟩))))))))))
     have cb:b=0\/b=1\/b=2\/b=3\/b=4\/b=5:=by omega
     rcases c with rfl|rfl
     ·refine C7 rfl (C7 rfl (Cg rfl (qp (Es g2) (qp (Es g4) ?_))));rcases cb with rfl|rfl|rfl|rfl|rfl|rfl<;>exact Cg rfl (EC rfl (EC rfl (fin _ (by decide))))
     ·refine C7 rfl (C7 rfl (C7 rfl (Cg rfl (qp (Es g2) (qp (Es g4) ?_)))));rcases cb with rfl|rfl|rfl|rfl|rfl|rfl<;>exact Cg rfl (EC rfl (EC rfl (fin _ (by decide))))
    ·refine C7 rfl (C7 rfl (C7 rfl (C7 rfl (Cg rfl ?_))));obtain ⟨t1,p3,g1,g2,g3⟩:=ih h3;obtain ⟨t2,p4,g4,g5,g6⟩:=ih g1;obtain ⟨t3,p5,g7,g8,g9⟩:=ih g4;have s1:=EF o6 g2;have s2:=EF s1 o4;have s3:=EF s2 g5;have s4:=EF s3 o4;have s5:=EF s4 g8;exact qp g3 (Cg (fit o6 g2 (by omega)) (Cg (fit s1 o4 (by omega)) (qp g6 (Cg (fit s2 g5 (by omega)) (Cg (fit s3 o4 (by omega)) (qp g9 (Cg (fit s4 g8 (by omega)) (Cg (fit s5 o3 (by omega)) (qk ⟨rfl,g7,zX (EF s5 o3) (by omega)⟩)))))))))
    ·refine C7 rfl (C7 rfl (C7 rfl (C7 rfl (C7 rfl (Cg rfl ?_)))));obtain ⟨b,p3,g1,hb',g2⟩:=EU 3 (by decide) hl h3;obtain ⟨t,p4,g4,g5,g6⟩:=ih g1;refine qp (Es g2) ?_;have cb:b=0\/b=1\/b=2:=by omega
     rcases cb with rfl|rfl|rfl<;>exact Cg rfl (EC rfl (EC rfl (Cg (fit (a:=9) (by decide) o2 (by omega)) (qp g6 (Cg (fit (EF (a:=9) (by decide) o2) g5 (by omega)) (Cg (fit (EF (EF (a:=9) (by decide) o2) g5) o3 (by omega)) (qk ⟨rfl,g4,zX (EF (EF (EF (a:=9) (by decide) o2) g5) o3) (by omega)⟩)))))))
    ·have ne:∀{x:Int},a≠x->(a==x)=false:=λh=>zanF.2 h
     refine C7 (ne (by omega)) (C7 (ne (by omega)) (C7 (ne (by omega)) (C7 (ne (by omega)) (C7 (ne (by omega)) (C7 (ne (by omega)) ?_)))));obtain ⟨t1,p3,g1,g2,g3⟩:=ih h3;obtain ⟨b,p4,g4,hb',g5⟩:=EU 11 (by decide) hl g1;obtain ⟨t2,p5,g7,g8,g9⟩:=ih g4;have w1:IntKind.i64.wrap ((1:Int)+b)=1+b:=qn (by omega);have z:=QC (op:=1+b) (by omega);refine qp g3 (qp (Es g5) ?_);dsimp only;rw [w1];exact qp (Jo (1+b) (by omega)) (Cg (fit g2 z (by omega)) (qp g9 (Cg (fit (EF g2 z) g8 (by omega)) (qk ⟨rfl,g7,zX (EF (EF g2 z) g8) (by omega)⟩))))
  obtain ⟨⟨t,l',p'⟩,⟨rfl,h1,h2⟩,h3⟩:=EP (F:=λn=>Cj n ((d+1:Nat):Int) l p) key λn=>rfl
  exact ⟨t,p',h1,h2,h3⟩
theorem MM (l:List Int) (hb:l.length<=140737488351232):∀n,l.length+5<=n->FP n (l.map DG) (l.map DG)=some true:=by
 intro n hn;obtain ⟨m,rfl,hm⟩:=up1 hn;simp only [FP,HI,qj];have h:=PF (B:=Eb m) (rows:=l.map DG) (r:= .inr ())
  (λi e he=>by
   obtain ⟨c,hc,rfl⟩:=Qv he;have hi:i<l.length:=(zamJ.1 hc).1;have hi':(i:Int)<l.length:=by omega
   have hw:IntKind.i64.wrap ((i:Int)+1)=(i:Int)+1:=qn (by omega);simp [Eb,qj,hi',hc,DG,zF,hw])
  (by simp [Eb,qj]) l.length 0 m (by simp) (by omega)
 simp only [Int.natCast_zero] at h;simp [h,qj]
theorem Lb (l:List Nd) (hb:l.length<=140737488351232) (hk:∀c∈l,(kd c).length<=140737488351232):Ev (DZ · (l.map qf) (l.map qf)) true:=by
 obtain ⟨n0,h0⟩:=De (F:=λc n=>FP n ((kd c).map DG) ((kd c).map DG)) (f:=λ_=>true) l λc hc=>⟨_,MM (kd c) (hk c hc)⟩
 refine ⟨n0+l.length+5,λn hn=>?_⟩;obtain ⟨m,rfl,hm⟩:=up1 hn;have h:=PF (B:=F1 m) (rows:=l.map qf) (r:= .inr ())
  (λi e he=>by
   rw [zamS] at he;obtain ⟨c,hc,rfl⟩:=zD.1 he;have hi:i<l.length:=(zamJ.1 hc).1;have hw:IntKind.i64.wrap ((i:Int)+1)=((i+1:Nat):Int):=by rw [qn (by omega)];omega
   have hg:(l.map qf)[((i:Nat):Int).toNat]?=some (qf c):=by rw [gD,zamS,hc];rfl
   have hc':(0:Int)<=(i:Int)/\(i:Int)<(l.map qf).length:=by simp;omega
   refine qb (zJ (by simpa using hi)) (qb (zJ hc') (qa hg (qb rfl ?_)))
   iterate 14 refine qa rfl ?_
   refine qb (zJ hc') (qa hg (qb rfl ?_))
   iterate 14 refine qa rfl ?_
   refine qh (bne_self_eq_false' _) (qh (bne_self_eq_false' _) (qh (by simp) (qh (by simp) (qh (by simp) (qa (h0 m (by omega) c (zl hc)) (qh rfl ?_))))));show some _=some _;rw [hw])
  (qh (by simp) rfl) l.length 0 m (by simp) (by omega)
 simp only [Int.natCast_zero] at h;exact qh (by simp) (qa h rfl)
def P5 {α R:Type} (f:Nat->α->Option R):Nat->List α->Option R
 |_,[]=>none
 |i,a::r=>match f i a with
  |some x=>some x
  |none=>P5 f (i+1) r
theorem Rp {V R α:Type} {B:V->Tr (V⊕R)} (st:Nat->V) (l:List α) (f:Nat->α->Option R) (z:R) (hs:∀i a,l[i]?=some a->(B (st i)).run=some (match f i a with|some r=> .inr r|none=> .inl (st (i+1))))
  (he:(B (st l.length)).run=some (.inr z)):∀(M:Nat),l.length+1<=M->zL B M (st 0)=some ((P5 f 0 l).getD z):=by
 have key:∀(r:List α) (i M:Nat),l.drop i=r->i+r.length=l.length->r.length+1<=M->zL B M (st i)=some ((P5 f i r).getD z):=by
  intro r
  induction r with
  |nil=>
   intro i M h1 h2 h3;obtain ⟨M,rfl⟩:∃q,M=q+1:=⟨M-1,by omega⟩;have e:i=l.length:=by simpa using h2
   subst e;rw [qd he];rfl
  |cons a r ih=>
   intro i M h1 h2 h3;obtain ⟨M,rfl⟩:∃q,M=q+1:=⟨M-1,by omega⟩;have hg:l[i]?=some a:=by rw [<-List.head?_drop,h1];rfl
   have hd:l.drop (i+1)=r:=by rw [<-List.tail_drop,h1];rfl
   have h4:=hs i a hg;simp only [zamM] at h2 h3;unfold P5;cases hf:f i a with
   |some x=>rw [hf] at h4;rw [qd h4];rfl
   |none=>rw [hf] at h4;rw [qu h4];exact ih (i+1) M hd (by omega) (by omega)
 exact λM h=>key l 0 M rfl (by omega) h
theorem PY {i:Nat} {k:Int} {l:RW} {e:List PV} (hk:k=(i:Int)) (h:l[i]?=some e):decide (0<=k/\k<l.length)=true/\l[k.toNat]?=some e:=by
 subst hk;have:=(zamJ.1 h).1;exact ⟨zJ (by omega),by rw [gD];exact h⟩
abbrev Sm:=Int×Int×Int×BA×Int
theorem SZ (c:Nd) (x:Int):zQ (qf c) 1 [.i .i64 x]=qf (c.1,x,c.2.2):=rfl
theorem Rq (c:Nd) (x:Int):zQ (qf c) 0 [.i .i64 x]=qf (x,c.2):=rfl
theorem Si (c:Nd) (a b:Int) (p q:Bool):zQ (qf c) 5 [.i .i64 a,.i .i64 b,.b p,.b q]=qf (c.1,c.2.1,c.2.2.1,c.2.2.2.1,c.2.2.2.2.1,a,b,p,q,c.2.2.2.2.2.2.2.2.2):=rfl
def DrF (l:RW) (x:RW×RW×Int):Prop:=∃f:List Nd,(f.length<=60/\∀c∈f,HB c)/\x.1=f.map qf/\x.2.1=l/\(0<=x.2.2/\x.2.2<=l.length)
theorem QF {l:RW} (hl:Jg l) {p:Int} (hp:0<=p/\p<=l.length):∃(f:List Nd) (p':Int),(0<=p'/\p'<=l.length)/\(f.length<=60/\∀c∈f,HB c)/\Ev (λn=>Ew n l p) (f.map qf,l,p'):=by
 have key:Dwx (DrF l) λn=>Fz n l p:=by
  obtain ⟨t,p1,h1,h2,h3⟩:=P4 hl 3 (by decide) hp;have h2:t.size<=64000:=h2;obtain ⟨o,p2,g1,g2⟩:=G3 30 (by decide) hl h1;have g:=RA t;refine qp h3 (qp (Jv t (by omega)) (qp (Es g2) ?_));dsimp only;generalize (La t).1=f at g⊢;have eL:decide ((f.length:Nat)=(f.map qf).length)=true:=zJ (by simp);have same:∀{p:Int},(0<=p/\p<=l.length)->Dwx (DrF l) λn=>(.ask (decide ((f.length:Nat)=(f.map qf).length)) (.done (f.map qf,l,p)) .fail:Tr (RW×RW×Int)):=λhp=>Cg eL (qk ⟨f,g,rfl,rfl,hp⟩)
  cases o with
  |false=>exact C7 rfl (same g1)
  |true=>
   refine Cg rfl ?_;by_cases hz:f.length=0
   ·exact C7 (zu (by omega)) (same g1)
   refine Cg (zJ (by omega)) ?_;obtain ⟨i,p3,k1,ki,k2⟩:=Qk (f.length:Int) (by have:=g.1;omega) hl g1;obtain ⟨b,p4,m1,mb,m2⟩:=EU 3 (by decide) hl k1;refine qp (Es k2) (qp (Es m2) ?_);dsimp only;obtain ⟨c,hc⟩:∃c,f[i.toNat]?=some c:=⟨_,zc (by omega)⟩;have ix:decide ((f.length:Nat)=(f.map qf).length/\0<=i/\i<((f.length:Nat):Int))=true:=zJ ⟨by simp,by omega,by omega⟩;have hg:(f.map qf)[i.toNat]?=some (qf c):=by rw [zamS,hc];rfl
   have hcs:=g.2 c (zl hc);have fin:∀(e:List PV) (c':Nd),HB c'->e=qf c'->∀{p:Int},(0<=p/\p<=l.length)->Dwx (DrF l) λn=>(.ask (decide ((f.length:Nat)=((f.map qf).set i.toNat e).length)) (.done ((f.map qf).set i.toNat e,l,p)) .fail:Tr (RW×RW×Int)):=λe c' hs he p hp=>by
    subst he;refine Cg (zJ (by simp)) (qk ⟨f.set i.toNat c',⟨by simpa using g.1,λx hx=>?_⟩,by rw [List.map_set],rfl,hp⟩);rcases List.mem_or_eq_of_mem_set hx with hx|rfl
    ·exact g.2 x hx
    ·exact hs
   have cb:b=0\/b=1\/b=2:=by omega
   rcases cb with rfl|rfl|rfl
   ·obtain ⟨x,p5,q1,_,q2⟩:=Kr 0 11 (by decide) hl m1;exact Cg rfl (qp (Es q2) (Cg ix (EC hg (Cg rfl (fin _ _ (by exact hcs) (SZ c x) q1)))))
   ·obtain ⟨x,p5,q1,_,q2⟩:=Kr 1 6 (by decide) hl m1;exact C7 rfl (Cg rfl (qp (Es q2) (Cg ix (EC hg (Cg rfl (fin _ _ (by exact hcs) (Rq c x) q1))))))
   ·obtain ⟨a,b,u,v,p5,q1,q2⟩:=Qu hl m1;exact C7 rfl (C7 rfl (Cg rfl (qp (Es q2) (Cg ix (EC hg (Cg rfl (fin _ _ (by exact hcs) (Si c a b u v) q1)))))))
 obtain ⟨⟨x,l',p'⟩,⟨f,h1,h2,h3,h4⟩,h5⟩:=EP (F:=λn=>Ew n l p) key λn=>rfl
 dsimp only at h2 h3 h4;subst h2;subst h3;exact ⟨f,p',h4,h1,h5⟩
theorem I0 (l:List Int) (hb:l.length<=1000000):Ev (qi · (l.map DG)) (l.map DG):=by
 refine Fv (EP (R:=λn=>Ea n (l.map DG)) (Cg (zJ ⟨rfl,by decide,by decide,by simp;omega,by simp [DG]⟩) (Cg (zJ (by simp)) (Cg ?_ (qk rfl)))) λn=>rfl);cases l with
 |nil=>rfl
 |cons a r=>rfl
theorem Nx {α β:Type} {g:α->β} {l:List α} {i:Nat} {a:α} (h:l[i]?=some a):(l.take (i+1)).map g=(l.take i).map g++ [g a]:=by
 rw [List.take_add_one,h,List.map_append];rfl
theorem D6 {m:Nat} {acc:RW} {e:List PV} (hm:m=acc.length) (hb:m<=1000) (he:e.length=14):decide (m=acc.length/\0<14/\0<120/\(m+ [e].length)*120<=140737488355328/\ [e].all (λe=>e.length==14)=true)=true:=zJ ⟨hm,by decide,by decide,by simp;omega,by simp [he]⟩
theorem Gt {α R:Type}:∀(l:List α) (i:Nat),P5 (λ(_:Nat) (_:α)=>(none:Option R)) i l=none
 | [],i=>rfl
 |a::l,i=>Gt l (i+1)
def RB:Nd:=(1,0,4,3,em,0,0,false,false,0,0,false,false,[])
def plB (c:Nd):Bool:=if c.1=2 then D2 c.2.2.2.2.2.1 c.2.2.2.2.2.2.1 else if c.1=3 then Fg c.2.2.2.2.2.1 c.2.2.2.2.2.2.1 c.2.2.2.2.2.2.2.2.2.1 c.2.2.2.2.2.2.2.2.2.2.1 else true
def P6 (c:Nd):Int×Int×Int×Int×BA×Int×Int×Bool×Bool×Int×Int×Bool×Bool×RW:=(c.1,c.2.1,c.2.2.1,c.2.2.2.1,c.2.2.2.2.1,c.2.2.2.2.2.1,c.2.2.2.2.2.2.1,c.2.2.2.2.2.2.2.1,c.2.2.2.2.2.2.2.2.1,c.2.2.2.2.2.2.2.2.2.1,c.2.2.2.2.2.2.2.2.2.2.1,c.2.2.2.2.2.2.2.2.2.2.2.1,c.2.2.2.2.2.2.2.2.2.2.2.2.1,(kd c).map DG)
def chN (f:Nd->Nd) (c:Nd):Nd:=if c.1=2\/c.1=3 then (if plB (f c)=true then f c else RB) else c
theorem P7 (a b:Int):Fg a b a b=D2 a b:=by
 unfold Fg;rw [zJ (Int.le_refl a),zJ (Int.le_refl b)];cases D2 a b<;>rfl
theorem Jw (c:Nd):Ev (qm · c.1 c.2.1 c.2.2.1 c.2.2.2.1 c.2.2.2.2.1 c.2.2.2.2.2.1 c.2.2.2.2.2.2.1 c.2.2.2.2.2.2.2.1 c.2.2.2.2.2.2.2.2.1 c.2.2.2.2.2.2.2.2.2.1 c.2.2.2.2.2.2.2.2.2.2.1 c.2.2.2.2.2.2.2.2.2.2.2.1 c.2.2.2.2.2.2.2.2.2.2.2.2.1 ((kd c).map DG)) (plB c):=by
 obtain ⟨k,op,ck,cn,cs,ac,ar,af,ag,bc,br,bf,bg,ks⟩:=c;have ar2:k=2->Ev (Cq · k op ck cn cs ac ar af ag bc br bf bg (ks.map DG)) (ac,ar,ac,ar):=λh=>Fv (EP (R:=λn=>EH n k op ck cn cs ac ar af ag bc br bf bg (ks.map DG)) (Cg (zanG.2 h) (qk rfl)) λn=>rfl)
 have ar3:k≠2->Ev (Cq · k op ck cn cs ac ar af ag bc br bf bg (ks.map DG)) (ac,ar,bc,br):=λh=>Fv (EP (R:=λn=>EH n k op ck cn cs ac ar af ag bc br bf bg (ks.map DG)) (C7 (zanF.2 h) (qk rfl)) λn=>rfl)
 refine Fv (EP (R:=λn=>Ec n k op ck cn cs ac ar af ag bc br bf bg (ks.map DG)) ?_ λn=>rfl);unfold plB;dsimp only;by_cases h2:k=2
 ·rw [if_pos h2,<-P7];exact C7 (by subst h2;rfl) (qp (ar2 h2) (qp (GY ac ar ac ar) (qk rfl)))
 ·rw [if_neg h2];refine Cg (bne_iff_ne.2 h2) ?_;by_cases h3:k=3
  ·rw [if_pos h3];exact C7 (by subst h3;rfl) (qp (ar3 h2) (qp (GY ac ar bc br) (qk rfl)))
  ·rw [if_neg h3];exact Cg (bne_iff_ne.2 h3) (qk rfl)
theorem Ny:Ev (λn=>qy n) (P6 RB):=Fv (EP (R:=λn=>IA n) (qp (JG 3) (qk rfl)) λn=>rfl)
theorem PZ {op ck cn ac ar bc br:Int} {cs:BA} {af ag bf bg:Bool} {ks:List Int}:EJ (2,op,ck,cn,cs,ac,ar,af,ag,bc,br,bf,bg,ks)=(decide (op=0)&&(zV ck cn cs&&(zP bc br bf bg&&(decide (ks.length=0)&&D2 ac ar)))):=by
 unfold EJ;dsimp only;rw [if_neg (by decide),if_pos rfl];rfl
theorem Qb {op ck cn ac ar bc br:Int} {cs:BA} {af ag bf bg:Bool} {ks:List Int}:EJ (3,op,ck,cn,cs,ac,ar,af,ag,bc,br,bf,bg,ks)=(decide (op=0)&&(zV ck cn cs&&(decide (ks.length=0)&&Fg ac ar bc br))):=by
 unfold EJ;dsimp only;rw [if_neg (by decide),if_neg (by decide),if_pos rfl];rfl
theorem Cz {l:List Nd} (h:FQ l=true):(1<=l.length/\l.length<=60)/\∀c∈l,EJ c=true:=by
 unfold FQ at h;simp only [zY,aZ] at h;refine ⟨h.1,λc hc=>?_⟩;obtain ⟨i,hi⟩:=List.mem_iff_getElem?.1 hc;have hil:=(zamJ.1 hi).1;have:=(Fh.1 h.2.1 (i:Int) (by omega) (by omega)).1;unfold G8 at this;have e:ndi l (i:Int)=c:=by unfold ndi;simp [hi]
 rw [e] at this;exact this
theorem Qo:EJ RB=true:=by decide+kernel
structure PlaceCh (f:Nd->Nd):Prop where
 k:∀c,(f c).1=c.1
 n:∀c,EJ c=true->c.1=2\/c.1=3->EJ (f c)=plB (f c)
 kd:∀c,kd (f c)=kd c
theorem Lc {f:Nd->Nd} (hf:PlaceCh f) {c:Nd} (h:EJ c=true):EJ (chN f c)=true/\kd (chN f c)=kd c/\((chN f c).1=3->c.1=3)/\((chN f c).1=6↔c.1=6):=by
 unfold chN;by_cases hk:c.1=2\/c.1=3
 ·rw [if_pos hk];cases hp:plB (f c) with
  |true=>rw [if_pos rfl,hf.n c h hk,hp,hf.kd,hf.k];exact ⟨rfl,rfl,id,Iff.rfl⟩
  |false=>
   rw [if_neg (by simp)];refine ⟨Qo,?_,λe=>?_,?_⟩
   ·have:kd c= []:=by
     obtain ⟨k,op,ck,cn,cs,ac,ar,af,ag,bc,br,bf,bg,ks⟩:=c;dsimp only at hk;rcases hk with rfl|rfl
     ·rw [PZ] at h;simp only [zY,aZ] at h;exact aU h.2.2.2.1
     ·rw [Qb] at h;simp only [zY,aZ] at h;exact aU h.2.2.1
    rw [this];rfl
   ·exact absurd (show (1:Int)=3 from e) (by decide)
   ·constructor
    ·intro e;exact absurd (show (1:Int)=6 from e) (by decide)
    ·intro e;omega
 ·rw [if_neg hk];exact ⟨h,rfl,id,Iff.rfl⟩
theorem RD {f:Nd->Nd} (hf:PlaceCh f) {l:List Nd} (h:FQ l=true):FQ (l.map (chN f))=true:=by
 obtain ⟨hn,hB⟩:=Cz h;have key:∀i:Int,(∃c∈l,ndi l i=c/\ndi (l.map (chN f)) i=chN f c)\/(ndi l i=nd0/\ndi (l.map (chN f)) i=nd0):=λi=>by
  unfold ndi;cases hq:l[i.toNat]? with
  |some c=>exact .inl ⟨c,zl hq,by simp [hq],by simp [hq]⟩
  |none=>exact .inr ⟨by simp [hq],by simp [hq]⟩
 have ek:qt (l.map (chN f))=qt l:=by
  funext i
  unfold qt;rcases key i with ⟨c,hc,e1,e2⟩|⟨e1,e2⟩
  ·rw [e1,e2];exact (Lc hf (hB c hc)).2.1
  ·rw [e1,e2]
 have ea:∀i,Dc (l.map (chN f)) i=true->Dc l i=true:=λi ha=>by
  unfold Dc at ha⊢;rcases key i with ⟨c,hc,e1,e2⟩|⟨e1,e2⟩
  ·rw [e2] at ha;rw [e1];exact zJ ((Lc hf (hB c hc)).2.2.1 (of_decide_eq_true ha))
  ·rw [e2] at ha;rw [e1];exact ha
 have ec:∀i,EE (l.map (chN f)) i=EE l i:=λi=>by
  unfold EE;rcases key i with ⟨c,hc,e1,e2⟩|⟨e1,e2⟩
  ·rw [e1,e2];exact decide_eq_decide.2 (Lc hf (hB c hc)).2.2.2
  ·rw [e1,e2]
 unfold FQ at h⊢;simp only [zY,aZ,Bool.not_eq_true',zamV] at h⊢;obtain ⟨g1,g2,g3,g4,g5⟩:=h;refine ⟨g1,?_,by rw [ek];exact g3,?_,by rw [ek];exact g5⟩
 ·have e:l.length=(l.map (chN f)).length:=by simp
  rw [e,Fh];intro i h0 h1;obtain ⟨o1,o2⟩:=Fh.1 g2 i h0 (by simpa using h1);refine ⟨?_,λk hk=>?_⟩
  ·unfold G8 at o1⊢;rcases key i with ⟨c,hc,e1,e2⟩|⟨e1,e2⟩
   ·rw [e2];exact (Lc hf (hB c hc)).1
   ·rw [e2,<-e1];exact o1
  ·rw [ek] at hk;obtain ⟨u1,u2,u3⟩:=o2 k hk;exact ⟨u1,u2,λ⟨v1,v2⟩=>u3 ⟨ea k v1,by rw [<-ec];exact v2⟩⟩
 ·rw [jR];intro ha;have:=ea _ ha;rw [g4] at this;cases this
def F2 (c:Nd):Bool:=decide (c.1=2\/c.1=3)
theorem Pb {f:Nd->Nd} {c:Nd} (h:F2 (chN f c)=true):F2 c=true/\chN f c=f c:=by
 unfold F2 at h⊢;unfold chN at h⊢;by_cases hk:c.1=2\/c.1=3
 ·rw [if_pos hk] at h⊢;refine ⟨zJ hk,?_⟩;cases hp:plB (f c) with
  |true=>rfl
  |false=>
   rw [hp] at h;exact absurd (of_decide_eq_true h) (by show ¬((1:Int)=2\/(1:Int)=3);decide)
 ·rw [if_neg hk] at h;exact absurd (of_decide_eq_true h) hk
theorem QG {g:Nd->Nd} (hg:∀c,F2 (g c)=true->F2 c=true):∀l:List Nd,((l.map g).filter F2).length<=(l.filter F2).length/\(((l.map g).filter F2).length=(l.filter F2).length->∀c∈l,F2 c=true->F2 (g c)=true)
 | []=>⟨zI _,λ_ c hc=>by cases hc⟩
 |a::l=>by
  obtain ⟨h1,h2⟩:=QG hg l;rw [zanE,List.filter_cons,List.filter_cons];cases ha:F2 a with
  |true=>
   cases hb:F2 (g a) with
   |true=>
    simp only [if_true,zamM];exact ⟨by omega,λe c hc hp=>by
     rcases zamT.1 hc with rfl|hc
     ·exact hb
     ·exact h2 (by omega) c hc hp⟩
   |false=>
    simp only [dD,if_false,if_true,zamM];exact ⟨by omega,λe=>by omega⟩
  |false=>
   have hb:F2 (g a)=false:=by
    rw [jR];intro e;have:=hg a e;rw [ha] at this;cases this
   rw [hb];simp only [dD,if_false];exact ⟨h1,λe c hc hp=>by
    rcases zamT.1 hc with rfl|hc
    ·rw [ha] at hp;cases hp
    ·exact h2 e c hc hp⟩
def OV (c:Nd):List PV:=if c.1=2 then [.i .i64 c.2.2.2.2.2.1,.i .i64 c.2.2.2.2.2.2.1,.i .i64 c.2.2.2.2.2.1,.i .i64 c.2.2.2.2.2.2.1] else [.i .i64 c.2.2.2.2.2.1,.i .i64 c.2.2.2.2.2.2.1,.i .i64 c.2.2.2.2.2.2.2.2.2.1,.i .i64 c.2.2.2.2.2.2.2.2.2.2.1]
theorem MX {α:Type} {P:α->Bool} {l:List α} {i:Nat} {a:α} (h:l[i]?=some a):(l.take (i+1)).filter P=(l.take i).filter P++(if P a=true then [a] else []):=by
 rw [List.take_add_one,h,List.filter_append];simp only [Option.toList_some,List.filter_cons,List.filter_nil]
theorem Qc {m:Nat} {acc:RW} {e:List PV} (hm:m=acc.length) (hb:m<=1000) (he:e.length=4):decide (m=acc.length/\0<4/\0<32/\(m+ [e].length)*32<=140737488355328/\ [e].all (λe=>e.length==4)=true)=true:=zJ ⟨hm,by decide,by decide,by simp;omega,by simp [he]⟩
theorem M2 (l:List Nd) (hl:l.length<=1000):Ev (Hd · (l.map qf)) ((l.filter F2).map OV):=by
 obtain ⟨n1,h1⟩:=De (F:=λ(c:Nd) n=>Cq n c.1 c.2.1 c.2.2.1 c.2.2.2.1 c.2.2.2.2.1 c.2.2.2.2.2.1 c.2.2.2.2.2.2.1 c.2.2.2.2.2.2.2.1 c.2.2.2.2.2.2.2.2.1 c.2.2.2.2.2.2.2.2.2.1 c.2.2.2.2.2.2.2.2.2.2.1 c.2.2.2.2.2.2.2.2.2.2.2.1 c.2.2.2.2.2.2.2.2.2.2.2.2.1 ((kd c).map DG)) (f:=λc=>if c.1=2 then (c.2.2.2.2.2.1,c.2.2.2.2.2.2.1,c.2.2.2.2.2.1,c.2.2.2.2.2.2.1) else (c.2.2.2.2.2.1,c.2.2.2.2.2.2.1,c.2.2.2.2.2.2.2.2.2.1,c.2.2.2.2.2.2.2.2.2.2.1)) l λc _=>by
  refine Fv (EP (R:=λn=>EH n c.1 c.2.1 c.2.2.1 c.2.2.2.1 c.2.2.2.2.1 c.2.2.2.2.2.1 c.2.2.2.2.2.2.1 c.2.2.2.2.2.2.2.1 c.2.2.2.2.2.2.2.2.1 c.2.2.2.2.2.2.2.2.2.1 c.2.2.2.2.2.2.2.2.2.2.1 c.2.2.2.2.2.2.2.2.2.2.2.1 c.2.2.2.2.2.2.2.2.2.2.2.2.1 ((kd c).map DG)) ?_ λn=>rfl);by_cases h2:c.1=2
  ·rw [if_pos h2];exact Cg (zanG.2 h2) (qk rfl)
  ·rw [if_neg h2];exact C7 (zanF.2 h2) (qk rfl)
 refine ⟨n1+l.length+3,λn hn=>?_⟩;obtain ⟨m,rfl,hm⟩:=up1 hn;have h:=Rp (B:=GX m) (λi=>(((l.take i).filter F2).length,l.map qf,((l.map qf).length:Int),(i:Int),((l.take i).filter F2).map OV)) l (λ_ _=>none) ((l.filter F2).length,(l.filter F2).map OV)
  (λi c he=>by
   have hi:=(zamJ.1 he).1;have hg:(l.map qf)[i]?=some (qf c):=by rw [zamS,he];rfl
   obtain ⟨a1,a2⟩:=PY rfl hg;have h1:=h1 m (by omega) c (zl he);have hle:((l.take i).filter F2).length<=1000:=zX (List.length_filter_le _ _) (by simp;omega);have w:IntKind.i64.wrap ((i:Int)+1)=((i+1:Nat):Int):=by rw [qn (by omega)];omega
   have ea:((l.take i).filter F2).length=(((l.take i).filter F2).map OV).length:=by simp
   have fin:F2 c=true->∀(e:List PV),e=OV c->(some (Sum.inl (((l.take i).filter F2).length+1,l.map qf,((l.map qf).length:Int),IntKind.i64.wrap ((i:Int)+1),((l.take i).filter F2).map OV++ [e])):Option ((Nat×RW×Int×Int×RW)⊕(Nat×RW)))=some (.inl (((l.take (i+1)).filter F2).length,l.map qf,((l.map qf).length:Int),((i+1:Nat):Int),((l.take (i+1)).filter F2).map OV)):=λhp e he2=>by
    rw [w,MX he,if_pos hp,he2,zamO,List.map_append];rfl
   refine qb (zJ (by simpa using hi)) (qb a1 (qa a2 (qb rfl ?_)))
   iterate 14 refine qa rfl ?_
   by_cases k2:c.1=2
   ·rw [if_pos k2] at h1;exact qb (zanG.2 k2) (qa h1 (qb rfl (qb (Qc ea hle rfl) (fin (zJ (.inl k2)) _ (by unfold OV;rw [if_pos k2])))))
   ·rw [if_neg k2] at h1;refine qh (zanF.2 k2) ?_;by_cases k3:c.1=3
    ·exact qb (zanG.2 k3) (qa h1 (qb rfl (qb (Qc ea hle rfl) (fin (zJ (.inr k3)) _ (by unfold OV;rw [if_neg k2])))))
    ·refine qh (zanF.2 k3) ?_;show some _=some _;rw [w,MX he,if_neg (by simp [F2,k2,k3]),List.append_nil])
  (qh (zu (by simp)) (by rw [List.take_length];rfl)) m (by omega)
 rw [Gt] at h;exact qa h (qb (zJ (by simp)) rfl)
theorem GA (l:List Nd) (hl:l.length<=1000) (hs:∀c∈l,HB c):Ev (E8 · (l.map qf)) (if FQ l=true then (l.filter F2).map OV else []):=by
 refine Fv (EP (R:=λn=>He n (l.map qf)) (qp (Gb l (by omega) (O0 hs)) ?_) λn=>rfl);cases FQ l with
 |false=>exact Cg rfl (Cg rfl (qk rfl))
 |true=>exact C7 rfl (qp (M2 l hl) (qk rfl))
abbrev Vs:=Int×List Int×List Cl
abbrev Br:=BA×Int
inductive Rch (sc:Nat->List Nat) (a:Nat):Nat->Prop
 |one {j:Nat}:j∈sc a->Rch sc a j
 |more {i j:Nat}:Rch sc a i->j∈sc i->Rch sc a j
def I1 (Q:List Nat):List Nat->List Nat
 | []=>Q
 |x::M=>I1 (if Q.contains x=true then Q else Q++ [x]) M
theorem Gu {x:Nat}:∀(M Q:List Nat),x∈I1 Q M↔x∈Q\/x∈M
 | [],Q=>by simp [I1]
 |y::M,Q=>by
  unfold I1;rw [Gu M];by_cases h:Q.contains y=true
  ·rw [if_pos h];have hy:y∈Q:=by simpa using h
   rw [zamT]
   constructor
   ·rintro (h|h)
    ·exact .inl h
    ·exact .inr (.inr h)
   ·rintro (h|rfl|h)
    ·exact .inl h
    ·exact .inl hy
    ·exact .inr h
  ·rw [if_neg h,List.mem_append,zamQ,zamT,or_assoc]
theorem Ld:∀(M Q:List Nat),Q.Nodup->(I1 Q M).Nodup
 | [],Q,h=>h
 |y::M,Q,h=>by
  unfold I1;refine Ld M _ ?_;by_cases hy:Q.contains y=true
  ·rw [if_pos hy];exact h
  ·rw [if_neg hy];have hy':y∉Q:=by simpa using hy
   rw [List.nodup_append];refine ⟨h,by simp,λa ha b hb=>?_⟩;rw [zamQ] at hb;subst hb;rintro rfl;exact hy' ha
theorem Ku:∀(M Q:List Nat) (k:Nat),k<Q.length->(I1 Q M)[k]?=Q[k]?
 | [],Q,k,h=>rfl
 |y::M,Q,k,h=>by
  unfold I1;by_cases hy:Q.contains y=true
  ·rw [if_pos hy];exact Ku M Q k h
  ·rw [if_neg hy,Ku M _ k (by simp;omega),zanA h]
theorem QH:∀(n:Nat) (l:List Nat),l.Nodup->(∀x∈l,x<n)->l.length<=n
 |0,l,_,h=>by
  cases l with
  |nil=>simp
  |cons a l=>exact absurd (h a (zamN ..)) (Nat.not_lt_zero a)
 |n+1,l,hd,h=>by
  by_cases hn:n∈l
  ·have h1:=QH n (l.erase n) (hd.erase n) λx hx=>by
    have h2:=(hd.mem_erase_iff).1 hx;have:=h x h2.2;omega
   rw [List.length_erase_of_mem hn] at h1;omega
  ·have:=QH n l hd λx hx=>by
    have h2:=h x hx;have h3:x≠n:=λe=>hn (e▸hx)
    omega
   omega
structure QI (sc:Nat->List Nat) (a n:Nat) (Q:List Nat) (k:Nat):Prop where
 nd:Q.Nodup
 lt:∀x∈Q,x<n
 rc:∀x∈Q,Rch sc a x
 st:∀j∈sc a,j∈Q
 dn:∀i q,i<k->Q[i]?=some q->q≠a/\∀j∈sc q,j∈Q
theorem QI.len {sc:Nat->List Nat} {a n:Nat} {Q:List Nat} {k:Nat} (h:QI sc a n Q k):Q.length<=n:=QH n Q h.nd h.lt
theorem QI.all {sc:Nat->List Nat} {a n:Nat} {Q:List Nat} (h:QI sc a n Q Q.length):¬Rch sc a a:=by
 have key:∀x,Rch sc a x->x∈Q:=λx hx=>by
  induction hx with
  |one h1=>exact h.st _ h1
  |more h1 h2 ih=>
   obtain ⟨i,hi,e⟩:=List.mem_iff_getElem.1 ih;exact (h.dn i _ hi (by rw [zc hi,e])).2 _ h2
 intro hr;obtain ⟨i,hi,e⟩:=List.mem_iff_getElem.1 (key a hr);exact (h.dn i _ hi (by rw [zc hi,e])).1 rfl
theorem QI.next {sc:Nat->List Nat} {a n:Nat} {Q:List Nat} {k q:Nat} (h:QI sc a n Q k) (hq:Q[k]?=some q) (hne:q≠a) (hs:∀j∈sc q,j<n):QI sc a n (I1 Q (sc q)) (k+1):=by
 have hk:=(zamJ.1 hq).1;have hm:=zl hq;refine ⟨Ld _ _ h.nd,λx hx=>?_,λx hx=>?_,λj hj=>(Gu _ _).2 (.inl (h.st j hj)),λi r hi hr=>?_⟩
 ·rcases (Gu _ _).1 hx with hx|hx
  ·exact h.lt x hx
  ·exact hs x hx
 ·rcases (Gu _ _).1 hx with hx|hx
  ·exact h.rc x hx
  ·exact .more (h.rc q hm) hx
 ·rw [Ku _ _ i (by omega)] at hr;by_cases e:i=k
  ·subst e;rw [hq] at hr;cases hr;exact ⟨hne,λj hj=>(Gu _ _).2 (.inr hj)⟩
  ·obtain ⟨h1,h2⟩:=h.dn i r (by omega) hr;exact ⟨h1,λj hj=>(Gu _ _).2 (.inl (h2 j hj))⟩
theorem QI.start {sc:Nat->List Nat} {a n:Nat} (hd:(sc a).Nodup) (hs:∀j∈sc a,j<n):QI sc a n (sc a) 0:=⟨hd,hs,λx hx=> .one hx,λj hj=>hj,λi q hi=>absurd hi (Nat.not_lt_zero i)⟩
structure MI (sc:Nat->List Nat) (a n:Nat) (met:List Bool) (Q:List Nat) (k:Nat):Prop where
 ln:met.length=n
 kl:k<=Q.length
 lt:∀x∈Q,x<n
 rc:∀x∈Q,Rch sc a x
 st:∀j∈sc a,j∈Q
 mt:∀i,met[i]?=some true->∀j∈sc i,j∈Q
 dn:∀i q,i<k->Q[i]?=some q->q≠a/\met[q]?=some true
theorem MI.all {sc:Nat->List Nat} {a n:Nat} {met:List Bool} {Q:List Nat} (h:MI sc a n met Q Q.length):¬Rch sc a a:=by
 have key:∀x,Rch sc a x->x∈Q:=λx hx=>by
  induction hx with
  |one h1=>exact h.st _ h1
  |more h1 h2 ih=>
   obtain ⟨i,hi,e⟩:=List.mem_iff_getElem.1 ih;exact h.mt _ (h.dn i _ hi (by rw [zc hi,e])).2 _ h2
 intro hr;obtain ⟨i,hi,e⟩:=List.mem_iff_getElem.1 (key a hr);exact (h.dn i _ hi (by rw [zc hi,e])).1 rfl
theorem MI.start {sc:Nat->List Nat} {a n:Nat} (hs:∀j∈sc a,j<n):MI sc a n (List.replicate n false) (sc a) 0:=⟨by simp,Nat.zero_le _,hs,λx hx=> .one hx,λj hj=>hj,λi hi=>by
 obtain ⟨h1,h2⟩:=zamJ.1 hi;simp at h2,λi q hi=>absurd hi (Nat.not_lt_zero i)⟩
inductive Tch (bs:Nat->Prop) (sc:Nat->List Nat):Nat->Prop
 |zero {i:Nat}:bs i->Tch bs sc i
 |lean {i k:Nat}:k∈sc i->Tch bs sc k->Tch bs sc i
structure TI (bs:Nat->Prop) (sc:Nat->List Nat) (n:Nat) (o:List Bool):Prop where
 ln:o.length=n
 ok:∀i,o[i]?=some true->Tch bs sc i
 st:∀i,i<n->bs i->o[i]?=some true
theorem TI.set {bs:Nat->Prop} {sc:Nat->List Nat} {n:Nat} {o:List Bool} (h:TI bs sc n o) {i k:Nat} (hk:k∈sc i) (ho:o[k]?=some true):TI bs sc n (o.set i true):=by
 refine ⟨by rw [List.length_set];exact h.ln,λj hj=>?_,λj hj hb=>?_⟩
 ·by_cases e:i=j
  ·subst e;exact .lean hk (h.ok k ho)
  ·rw [List.getElem?_set_ne e] at hj;exact h.ok j hj
 ·by_cases e:i=j
  ·subst e;exact List.getElem?_set_self (by rw [h.ln];exact hj)
  ·rw [List.getElem?_set_ne e];exact h.st j hj hb
theorem TI.all {bs:Nat->Prop} {sc:Nat->List Nat} {n:Nat} {o:List Bool} (h:TI bs sc n o) (hn:∀i,∀k∈sc i,k<n) (hc:∀i,i<n->∀k∈sc i,o[k]?=some true->o[i]?=some true) {i:Nat} (hi:i<n):o[i]?=some true↔Tch bs sc i:=by
 refine ⟨h.ok i,λht=>?_⟩
 induction ht with
 |zero hb=>exact h.st _ hi hb
 |lean hk _ ih=>exact hc _ hi _ hk (ih (hn _ _ hk))
structure SI (hr b2:Nat->Bool) (sc:Nat->List Nat) (n:Nat) (A:List Nat):Prop where
 nd:A.Nodup
 lt:∀a∈A,a<n
 ok:∀a∈A,Tch (λi=>hr i=true\/b2 i=true) sc a
theorem SI.add {hr b2:Nat->Bool} {sc:Nat->List Nat} {n:Nat} {A:List Nat} {i:Nat} (h:SI hr b2 sc n A) (hi:i<n) (h1:¬(hr i||A.contains i)=true) (h2:(b2 i||A.any λk=>(sc i).contains k)=true):SI hr b2 sc n (A++ [i]):=by
 have hn:i∉A:=λhi=>h1 (by rw [Bool.or_eq_true];exact .inr (by simpa using hi))
 refine ⟨?_,λa ha=>?_,λa ha=>?_⟩
 ·rw [List.nodup_append];refine ⟨h.nd,by simp,λa ha b hb=>?_⟩;rw [zamQ] at hb;subst hb;rintro rfl;exact hn ha
 ·rcases List.mem_append.1 ha with ha|ha
  ·exact h.lt a ha
  ·rw [zamQ] at ha;omega
 ·rcases List.mem_append.1 ha with ha|ha
  ·exact h.ok a ha
  ·rw [zamQ] at ha;subst ha;rcases Bool.or_eq_true_iff.1 h2 with hb|hb
   ·exact .zero (.inr hb)
   ·obtain ⟨k,hk,hc⟩:=List.any_eq_true.1 hb;exact .lean (by simpa using hc) (h.ok k hk)
theorem SI.all {hr b2:Nat->Bool} {sc:Nat->List Nat} {n:Nat} {A:List Nat} (h:SI hr b2 sc n A) (hn:∀i,∀k∈sc i,k<n) (hb:∀i,∀k∈sc i,hr k=true->b2 i=true)
  (hc:∀i,i<n->(b2 i||A.any λk=>(sc i).contains k)=true->(hr i||A.contains i)=true) {i:Nat} (hi:i<n):(hr i||A.contains i)=true↔Tch (λi=>hr i=true\/b2 i=true) sc i:=by
 constructor
 ·intro h1;rcases Bool.or_eq_true_iff.1 h1 with h1|h1
  ·exact .zero (.inl h1)
  ·exact h.ok i (by simpa using h1)
 ·intro ht
  induction ht with
  |zero hq=>
   rcases hq with hq|hq
   ·rw [hq];rfl
   ·exact hc _ hi (by rw [hq];rfl)
  | @lean i k hk _ ih=>
   refine hc i hi ?_;rw [Bool.or_eq_true];rcases Bool.or_eq_true_iff.1 (ih (hn _ _ hk)) with h1|h1
   ·exact .inl (hb i k hk h1)
   ·exact .inr (List.any_eq_true.2 ⟨k,by simpa using h1,by simpa using hk⟩)
structure StOk (n:Nat) (c:Sm):Prop where
 k:c.1=1\/c.1=2\/c.1=3\/c.1=4\/c.1=5
 s:c.2.2.2.1.size<=200
 m:c.1=3\/c.1=4->1<=c.2.2.2.2/\c.2.2.2.2<=n
def Sml (x:Int):Prop:=1<=x/\x<=1000000000
structure VerT (v:Vs):Prop where
 id:Sml v.1
 up:∀u∈v.2.1,Sml u
 un:v.2.1.length<=2
 cn:v.2.2.length<=120
 cs:∀c∈v.2.2,c.2.2.size<=200
structure BrT (b:Br):Prop where
 id:Sml b.2
 nm:b.1.size<=12
structure MA (A:RW) (e:List PV) (len i:Nat) (ks D:RW):Prop where
 maL:A.length=len
 maG:A[i]?=some e
 maN:e.length=14
 maK:e[13]?=some (.ls ks)
 maD:A.drop (i+1)=D
 maT:i<len
theorem MA.next {A:RW} {e:List PV} {len i:Nat} {ks D:RW} (h:MA A e len i ks D) {o:Nat} {x:PV} (ho:o<13):MA (A.set ((i:Nat):Int).toNat (zQ e o [x])) (zQ e o [x]) len i ks D:=by
 have hl:i<A.length:=by rw [h.maL];exact h.maT
 have hs:o+ [x].length<=e.length:=by rw [h.maN];simp;omega
 rw [gD];refine ⟨by rw [List.length_set];exact h.maL,List.getElem?_set_self hl,by rw [zi _ _ _ hs];exact h.maN,?_,?_,h.maT⟩
 ·rw [zm _ _ _ hs,if_neg (by simp;omega)];exact h.maK
 ·rw [List.drop_set_of_lt (by omega)];exact h.maD
structure RtS (c:Sm):Prop where
 k:c.1=1\/c.1=2\/c.1=3\/c.1=4\/c.1=5
 s:(10:UInt8)∉c.2.2.2.1.toList
 p:c.1=1\/c.1=2->D2 c.2.1 c.2.2.1=true/\c.2.2.2.2=0
 z:¬(c.1=1\/c.1=2)->c.2.1=0/\c.2.2.1=0
 m:c.1=3\/c.1=4->1<=c.2.2.2.2/\c.2.2.2.2<=30
 q:c.1=5->c.2.2.2.2=0
theorem HO {c:Nd} (h:EJ c=true):(kd c).length<=2000:=by
 unfold EJ at h;split at h
 ·simp only [zY,aZ] at h;omega
 ·split at h
  ·simp only [zY,aZ] at h;omega
  ·split at h
   ·simp only [zY,aZ] at h;omega
   ·split at h
    ·simp only [zY,aZ] at h;omega
    ·split at h
     ·simp only [zY,aZ] at h;omega
     ·split at h
      ·rw [zY] at h;have h1:=h.1;unfold Ie at h1;split at h1
       ·simp only [aZ] at h1;omega
       ·split at h1
        ·simp only [aZ] at h1;omega
        ·split at h1
         ·simp only [aZ] at h1;omega
         ·cases h1
      ·cases h
def b3 (x:Int):Bool:=Int.tmod x 3==0
structure MB (A:RW) (e:List PV) (i:Nat) (P D:RW):Prop where
 mbA:A=P++e::D
 mbP:P.length=i
theorem MB.next {A:RW} {e e':List PV} {i:Nat} {P D:RW} (h:MB A e i P D):MB (A.set ((i:Nat):Int).toNat e') e' i P D:=by
 rw [gD];refine ⟨?_,h.mbP⟩;rw [h.mbA,List.set_append_right (h:=by have:=h.mbP;omega),h.mbP,Nat.sub_self];rfl
def HC (cl:Bool) (row many o n:Int):Int:=if n<row then n else if cl=false then IntKind.i64.wrap (n+many) else if n<IntKind.i64.wrap (row+many) then o else IntKind.i64.wrap (n-many)
def evN (cl:Bool) (row many:Int) (c:Nd):Nd:=(c.1,c.2.1,c.2.2.1,c.2.2.2.1,c.2.2.2.2.1,c.2.2.2.2.2.1,HC cl row many (if c.1=3 then row else 0) c.2.2.2.2.2.2.1,c.2.2.2.2.2.2.2.1,c.2.2.2.2.2.2.2.2.1,c.2.2.2.2.2.2.2.2.2.1,(if c.1=3 then HC cl row many (row-1) c.2.2.2.2.2.2.2.2.2.2.1 else c.2.2.2.2.2.2.2.2.2.2.1),c.2.2.2.2.2.2.2.2.2.2.2.1,c.2.2.2.2.2.2.2.2.2.2.2.2.1,kd c)
def ocR (cl:Bool) (row many:Int) (l:List Nd):List Nd×Bool:=if FQ l=true/\(1<=row/\row<=99)/\(1<=many/\many<=99) then (l.map (chN (evN cl row many)),true) else ([],false)
theorem Rr (a:Int):D2 a 0=false:=by
 unfold D2;rw [zu (p:=(1:Int)<=0/\(0:Int)<=99) (by omega),Bool.and_false]
theorem Nz {cl:Bool} {row many:Int} {c:Nd} (h:EJ c=true) (hk:c.1=2\/c.1=3):EJ (evN cl row many c)=plB (evN cl row many c)/\plB c=true/\kd c= []:=by
 obtain ⟨k,op,ck,cn,cs,ac,ar,af,ag,bc,br,bf,bg,ks⟩:=c;dsimp only at hk;rcases hk with rfl|rfl
 ·unfold evN;dsimp only;rw [if_neg (by decide),if_neg (by decide)];rw [PZ] at h⊢;simp only [zY,aZ] at h;obtain ⟨h1,h2,h3,h4,h5⟩:=h;refine ⟨?_,h5,aU h4⟩;have hk0:(kd ((2,op,ck,cn,cs,ac,ar,af,ag,bc,br,bf,bg,ks):Nd)).length=0:=h4;rw [zJ h1,h2,h3,zJ hk0];rfl
 ·unfold evN;dsimp only;rw [if_pos rfl,if_pos rfl];rw [Qb] at h⊢;simp only [zY,aZ] at h;obtain ⟨h1,h2,h3,h4⟩:=h;refine ⟨?_,h4,aU h3⟩;have hk0:(kd ((3,op,ck,cn,cs,ac,ar,af,ag,bc,br,bf,bg,ks):Nd)).length=0:=h3;rw [zJ h1,h2,zJ hk0];rfl
theorem P8 (row many:Int) (h1:1<=row) (c:Nd) (hB:EJ c=true) (hk:c.1=2\/c.1=3):Ev (FN · c.1 c.2.1 c.2.2.1 c.2.2.2.1 c.2.2.2.2.1 c.2.2.2.2.2.1 c.2.2.2.2.2.2.1 c.2.2.2.2.2.2.2.1 c.2.2.2.2.2.2.2.2.1 c.2.2.2.2.2.2.2.2.2.1 c.2.2.2.2.2.2.2.2.2.2.1 c.2.2.2.2.2.2.2.2.2.2.2.1 c.2.2.2.2.2.2.2.2.2.2.2.2.1 ((kd c).map DG) row many) (P6 (evN false row many c)):=by
 obtain ⟨k,op,ck,cn,cs,ac,ar,af,ag,bc,br,bf,bg,ks⟩:=c;have hb:k=2->br=0:=λh=>by
  subst h;rw [PZ] at hB;simp only [zY,aZ] at hB;have:=hB.2.2.1;simp only [zP,zY,aZ,Bool.not_eq_true'] at this;omega
 have hv:P6 (evN false row many (k,op,ck,cn,cs,ac,ar,af,ag,bc,br,bf,bg,ks))=(k,op,ck,cn,cs,ac,(if ar≥row then IntKind.i64.wrap (ar+many) else ar),af,ag,bc,(if br≥row then IntKind.i64.wrap (br+many) else br),bf,bg,ks.map DG):=by
  have r1:∀o n,HC false row many o n=if n≥row then IntKind.i64.wrap (n+many) else n:=λo n=>by
   unfold HC;by_cases h:n<row
   ·rw [if_pos h,if_neg (by omega)]
   ·rw [if_neg h,if_pos rfl,if_pos (by omega)]
  unfold P6 evN;dsimp only;rw [r1,r1];rcases hk with h|h
  ·dsimp only at h;rw [if_neg (by omega:¬k=3),hb h,if_neg (by omega:¬(0:Int)≥row)];rfl
  ·dsimp only at h;rw [if_pos h];rfl
 rw [hv];refine ⟨4,λn hn=>?_⟩;obtain ⟨m,rfl,hm⟩:=up1 hn;refine qb (zJ (by omega)) (qb rfl (qa rfl ?_));by_cases ha:ar≥row
 ·rw [if_pos ha];refine qb (zJ ha) (qa rfl (qb rfl (qa rfl ?_)));by_cases hc:br≥row
  ·rw [if_pos hc];exact qb (zJ hc) (qa rfl (qh rfl rfl))
  ·rw [if_neg hc];exact qh (zu hc) (qh rfl rfl)
 ·rw [if_neg ha];refine qh (zu ha) (qb rfl (qa rfl ?_));by_cases hc:br≥row
  ·rw [if_pos hc];exact qb (zJ hc) (qa rfl (qh rfl rfl))
  ·rw [if_neg hc];exact qh (zu hc) (qh rfl rfl)
theorem MY (row many:Int) (hr:1<=row/\row<=99) (hm:1<=many/\many<=99) (o k op ck cn:Int) (cs:BA) (ac ar:Int) (af ag:Bool) (bc br:Int) (bf bg:Bool) (ks:RW):Ev (F9 · o row many k op ck cn cs ac ar af ag bc br bf bg ks) (k,op,ck,cn,cs,ac,HC true row many o ar,af,ag,bc,br,bf,bg,ks):=by
 have wq:IntKind.i64.wrap (row+many)=row+many:=qn (by omega);refine Fv (EP (R:=λn=>HG n o row many k op ck cn cs ac ar af ag bc br bf bg ks) (EC rfl (EC rfl ?_)) λn=>rfl);unfold HC;rw [wq];by_cases h1:ar≥row+many
 ·rw [if_neg (by omega),if_neg (by decide),if_neg (by omega)];exact Cg (zJ h1) (EC rfl (qk rfl))
 ·refine C7 (zu h1) (EC rfl ?_);by_cases h2:ar≥row
  ·rw [if_neg (by omega),if_neg (by decide),if_pos (by omega)];exact Cg (zJ h2) (qk rfl)
  ·rw [if_pos (by omega)];exact C7 (zu h2) (qk rfl)
theorem Pd (row many:Int) (hr:1<=row/\row<=99) (hm:1<=many/\many<=99) (o k op ck cn:Int) (cs:BA) (ac ar:Int) (af ag:Bool) (bc br:Int) (bf bg:Bool) (ks:RW):Ev (GH · o row many k op ck cn cs ac ar af ag bc br bf bg ks) (k,op,ck,cn,cs,ac,ar,af,ag,bc,HC true row many o br,bf,bg,ks):=by
 have wq:IntKind.i64.wrap (row+many)=row+many:=qn (by omega);refine Fv (EP (R:=λn=>GG n o row many k op ck cn cs ac ar af ag bc br bf bg ks) (EC rfl (EC rfl ?_)) λn=>rfl);unfold HC;rw [wq];by_cases h1:br≥row+many
 ·rw [if_neg (by omega),if_neg (by decide),if_neg (by omega)];exact Cg (zJ h1) (EC rfl (qk rfl))
 ·refine C7 (zu h1) (EC rfl ?_);by_cases h2:br≥row
  ·rw [if_neg (by omega),if_neg (by decide),if_pos (by omega)];exact Cg (zJ h2) (qk rfl)
  ·rw [if_pos (by omega)];exact C7 (zu h2) (qk rfl)
theorem P9 (row many:Int) (hr:1<=row/\row<=99) (hm:1<=many/\many<=99) (c:Nd) (hk:c.1=2\/c.1=3):Ev (FO · c.1 c.2.1 c.2.2.1 c.2.2.2.1 c.2.2.2.2.1 c.2.2.2.2.2.1 c.2.2.2.2.2.2.1 c.2.2.2.2.2.2.2.1 c.2.2.2.2.2.2.2.2.1 c.2.2.2.2.2.2.2.2.2.1 c.2.2.2.2.2.2.2.2.2.2.1 c.2.2.2.2.2.2.2.2.2.2.2.1 c.2.2.2.2.2.2.2.2.2.2.2.2.1 ((kd c).map DG) row many row) (P6 (evN true row many c)):=by
 obtain ⟨k,op,ck,cn,cs,ac,ar,af,ag,bc,br,bf,bg,ks⟩:=c;have wr:IntKind.i64.wrap (row-1)=row-1:=qn (by omega);refine Fv (EP (R:=λn=>HH n k op ck cn cs ac ar af ag bc br bf bg (ks.map DG) row many row) ?_ λn=>rfl);unfold P6 evN;dsimp only at hk⊢;by_cases k2:k=2
 ·rw [if_neg (by omega),if_neg (by omega)];exact Cg (zanG.2 k2) (qp (MY row many hr hm 0 k op ck cn cs ac ar af ag bc br bf bg (ks.map DG)) (qk rfl))
 ·have k3:k=3:=by omega
  rw [if_pos k3,if_pos k3];refine C7 (zanF.2 k2) (EC rfl (qp (MY row many hr hm row k op ck cn cs ac ar af ag bc br bf bg (ks.map DG)) (EC rfl ?_)));rw [wr];exact qp (Pd row many hr hm (row-1) k op ck cn cs ac (HC true row many row ar) af ag bc br bf bg (ks.map DG)) (qk rfl)
theorem Kc (n row many:Int) (cl:Bool) (o:Int):Ev (Co · n row many cl o) (HC cl row many o n):=by
 refine Fv (EP (R:=λm=>Is m n row many cl o) ?_ λn=>rfl);unfold HC;by_cases h:n<row
 ·rw [if_pos h];exact Cg (zJ h) (qk rfl)
 ·rw [if_neg h];refine C7 (zu h) ?_;cases cl with
  |false=>rw [if_pos rfl];exact Cg rfl (qk rfl)
  |true=>
   rw [if_neg (by decide)];refine C7 rfl ?_;by_cases h2:n<IntKind.i64.wrap (row+many)
   ·rw [if_pos h2];exact Cg (zJ h2) (qk rfl)
   ·rw [if_neg h2];exact C7 (zu h2) (qk rfl)
theorem Jx (row many:Int):Ev (G0 · row many) (decide (1<=row/\row<=99)&&decide (1<=many/\many<=99)):=by
 refine Fv (EP (R:=λm=>H9 m row many) (qp (Dl row 1 99) ?_) λn=>rfl);by_cases h:1<=row/\row<=99
 ·rw [zJ h];exact Cg rfl (qp (Dl many 1 99) (qk rfl))
 ·rw [zu h];exact C7 rfl (qk rfl)
theorem G6 (n:Int):Ev (Fs · n) (decide (1<=n/\n<=99)):=Fv (EP (R:=λm=>Iq m n) (qp (Cv n 1 99) (qk rfl)) λn=>rfl)
theorem Sa {cl:Bool} {row many:Int} {c:Nd} (h:c.1=3):evN cl row many c=(c.1,c.2.1,c.2.2.1,c.2.2.2.1,c.2.2.2.2.1,c.2.2.2.2.2.1,HC cl row many row c.2.2.2.2.2.2.1,c.2.2.2.2.2.2.2.1,c.2.2.2.2.2.2.2.2.1,c.2.2.2.2.2.2.2.2.2.1,HC cl row many (row-1) c.2.2.2.2.2.2.2.2.2.2.1,c.2.2.2.2.2.2.2.2.2.2.2.1,c.2.2.2.2.2.2.2.2.2.2.2.2.1,kd c):=by
 unfold evN;rw [if_pos h,if_pos h]
theorem Sb {cl:Bool} {row many:Int} {c:Nd} (h:c.1=2) (hg:HC cl row many row c.2.2.2.2.2.2.1=HC cl row many 0 c.2.2.2.2.2.2.1):evN cl row many c=(c.1,c.2.1,c.2.2.1,c.2.2.2.1,c.2.2.2.2.1,c.2.2.2.2.2.1,HC cl row many row c.2.2.2.2.2.2.1,c.2.2.2.2.2.2.2.1,c.2.2.2.2.2.2.2.2.1,c.2.2.2.2.2.2.2.2.2.1,c.2.2.2.2.2.2.2.2.2.2.1,c.2.2.2.2.2.2.2.2.2.2.2.1,c.2.2.2.2.2.2.2.2.2.2.2.2.1,kd c):=by
 unfold evN;rw [if_neg (by omega),if_neg (by omega),hg]
theorem OW (row many:Int) (hr:1<=row/\row<=99) (hm:1<=many/\many<=99) (l:List Nd) (hl:l.length<=1000) (hk:∀c∈l,(kd c).length<=1000000) (hB:∀c∈l,EJ c=true):Ev (D3 · (l.map qf) row many) ((l.map (chN (evN false row many))).map qf):=by
 obtain ⟨n1,h1⟩:=De (F:=λc n=>FN n c.1 c.2.1 c.2.2.1 c.2.2.2.1 c.2.2.2.2.1 c.2.2.2.2.2.1 c.2.2.2.2.2.2.1 c.2.2.2.2.2.2.2.1 c.2.2.2.2.2.2.2.2.1 c.2.2.2.2.2.2.2.2.2.1 c.2.2.2.2.2.2.2.2.2.2.1 c.2.2.2.2.2.2.2.2.2.2.2.1 c.2.2.2.2.2.2.2.2.2.2.2.2.1 ((kd c).map DG) row many) (f:=λc=>P6 (evN false row many c)) (l.filter λc=>decide (c.1=2\/c.1=3)) λc hc=>P8 row many hr.1 c (hB c (List.mem_filter.1 hc).1) (by simpa using (List.mem_filter.1 hc).2)
 obtain ⟨n2,h2⟩:=De (F:=λc n=>qm n (evN false row many c).1 (evN false row many c).2.1 (evN false row many c).2.2.1 (evN false row many c).2.2.2.1 (evN false row many c).2.2.2.2.1 (evN false row many c).2.2.2.2.2.1 (evN false row many c).2.2.2.2.2.2.1 (evN false row many c).2.2.2.2.2.2.2.1 (evN false row many c).2.2.2.2.2.2.2.2.1 (evN false row many c).2.2.2.2.2.2.2.2.2.1 (evN false row many c).2.2.2.2.2.2.2.2.2.2.1 (evN false row many c).2.2.2.2.2.2.2.2.2.2.2.1 (evN false row many c).2.2.2.2.2.2.2.2.2.2.2.2.1 ((kd (evN false row many c)).map DG)) (f:=λc=>plB (evN false row many c)) l λc _=>Jw (evN false row many c)
 obtain ⟨n3,h3⟩:=De (F:=λc n=>qi n ((kd c).map DG)) (f:=λc=>(kd c).map DG) l λc hc=>I0 (kd c) (hk c hc)
 obtain ⟨n4,h4⟩:=I0 [] (by decide);obtain ⟨n5,h5⟩:=KW 3;refine ⟨n1+n2+n3+n4+n5+l.length+3,λn hn=>?_⟩;obtain ⟨m,rfl,hm⟩:=up1 hn;have h:=Rp (B:=DU m) (λi=>(row,many,i,l.map qf,((l.map qf).length:Int),(i:Int),(l.take i).map λc=>qf (chN (evN false row many) c))) l (λ_ _=>none) (l.length,l.map λc=>qf (chN (evN false row many) c))
  (λi c he=>by
   have hi:=(zamJ.1 he).1;have hmem:=zl he;have hg:(l.map qf)[i]?=some (qf c):=by rw [zamS,he];rfl
   obtain ⟨a1,a2⟩:=PY rfl hg;have h1:=λhk=>h1 m (by omega) c (List.mem_filter.2 ⟨hmem,zJ hk⟩)
   have h2:=h2 m (by omega) c hmem;have h3:=h3 m (by omega) c hmem;have h4:=h4 m (by omega);have h5:=h5 m (by omega);have ea:i=((l.take i).map λc=>qf (chN (evN false row many) c)).length:=by simp;omega
   have e1000:i<=1000:=by omega
   have w:IntKind.i64.wrap ((i:Int)+1)=((i+1:Nat):Int):=by rw [qn (by omega)];omega
   have fin:∀(e:List PV),e=qf (chN (evN false row many) c)->(some (Sum.inl (row,many,i+1,l.map qf,((l.map qf).length:Int),IntKind.i64.wrap ((i:Int)+1),((l.take i).map λc=>qf (chN (evN false row many) c))++ [e])):Option ((Int×Int×Nat×RW×Int×Int×RW)⊕(Nat×RW)))=some (.inl (row,many,i+1,l.map qf,((l.map qf).length:Int),((i+1:Nat):Int),(l.take (i+1)).map λc=>qf (chN (evN false row many) c))):=λe he2=>by
    rw [w,Nx he,he2]
   refine qb (zJ (by simpa using hi)) (qb a1 (qa a2 (qb rfl ?_)))
   iterate 14 refine qa rfl ?_
   by_cases k2:c.1=2
   ·refine qb (zanG.2 k2) (qa (h1 (.inl k2)) (qa h2 ?_));cases hp:plB (evN false row many c) with
    |false=>exact qb rfl (qa h5 (qa h4 (qb rfl (qb (D6 ea e1000 rfl) (fin _ (by unfold chN;rw [if_pos (.inl k2),hp];rfl))))))
    |true=>exact qh rfl (qa h3 (qb rfl (qb (D6 ea e1000 rfl) (fin _ (by unfold chN;rw [if_pos (.inl k2),hp];rfl)))))
   ·refine qh (zanF.2 k2) ?_;by_cases k3:c.1=3
    ·refine qb (zanG.2 k3) (qa (h1 (.inr k3)) (qa h2 ?_));cases hp:plB (evN false row many c) with
     |false=>exact qb rfl (qa h5 (qa h4 (qb rfl (qb (D6 ea e1000 rfl) (fin _ (by unfold chN;rw [if_pos (.inr k3),hp];rfl))))))
     |true=>exact qh rfl (qa h3 (qb rfl (qb (D6 ea e1000 rfl) (fin _ (by unfold chN;rw [if_pos (.inr k3),hp];rfl)))))
    ·refine qh (zanF.2 k3) ?_;exact qa h3 (qb rfl (qb (D6 ea e1000 rfl) (fin _ (by unfold chN;rw [if_neg (by omega)];rfl)))))
  (qh (zu (by simp)) (by rw [List.take_length];rfl)) m (by omega)
 refine qa h (qb (zJ ?_) ?_)
 ·rw [Gt];simp
 ·rw [Gt];simp [Tr.run,List.map_map,Function.comp_def]
theorem OX (row many:Int) (hr:1<=row/\row<=99) (hm:1<=many/\many<=99) (l:List Nd) (hl:l.length<=1000) (hk:∀c∈l,(kd c).length<=1000000) (hB:∀c∈l,EJ c=true):Ev (D4 · (l.map qf) row many row) ((l.map (chN (evN true row many))).map qf):=by
 obtain ⟨n1,h1⟩:=De (F:=λc n=>FO n c.1 c.2.1 c.2.2.1 c.2.2.2.1 c.2.2.2.2.1 c.2.2.2.2.2.1 c.2.2.2.2.2.2.1 c.2.2.2.2.2.2.2.1 c.2.2.2.2.2.2.2.2.1 c.2.2.2.2.2.2.2.2.2.1 c.2.2.2.2.2.2.2.2.2.2.1 c.2.2.2.2.2.2.2.2.2.2.2.1 c.2.2.2.2.2.2.2.2.2.2.2.2.1 ((kd c).map DG) row many row) (f:=λc=>P6 (evN true row many c)) (l.filter λc=>decide (c.1=2\/c.1=3)) λc hc=>P9 row many hr hm c (by simpa using (List.mem_filter.1 hc).2)
 obtain ⟨n2,h2⟩:=De (F:=λc n=>qm n (evN true row many c).1 (evN true row many c).2.1 (evN true row many c).2.2.1 (evN true row many c).2.2.2.1 (evN true row many c).2.2.2.2.1 (evN true row many c).2.2.2.2.2.1 (evN true row many c).2.2.2.2.2.2.1 (evN true row many c).2.2.2.2.2.2.2.1 (evN true row many c).2.2.2.2.2.2.2.2.1 (evN true row many c).2.2.2.2.2.2.2.2.2.1 (evN true row many c).2.2.2.2.2.2.2.2.2.2.1 (evN true row many c).2.2.2.2.2.2.2.2.2.2.2.1 (evN true row many c).2.2.2.2.2.2.2.2.2.2.2.2.1 ((kd (evN true row many c)).map DG)) (f:=λc=>plB (evN true row many c)) l λc _=>Jw (evN true row many c)
 obtain ⟨n3,h3⟩:=De (F:=λc n=>qi n ((kd c).map DG)) (f:=λc=>(kd c).map DG) l λc hc=>I0 (kd c) (hk c hc)
 obtain ⟨n4,h4⟩:=I0 [] (by decide);obtain ⟨n5,h5⟩:=KW 3;refine ⟨n1+n2+n3+n4+n5+l.length+3,λn hn=>?_⟩;obtain ⟨m,rfl,hm⟩:=up1 hn;have h:=Rp (B:=DV m) (λi=>(row,many,row,i,l.map qf,((l.map qf).length:Int),(i:Int),(l.take i).map λc=>qf (chN (evN true row many) c))) l (λ_ _=>none) (l.length,l.map λc=>qf (chN (evN true row many) c))
  (λi c he=>by
   have hi:=(zamJ.1 he).1;have hmem:=zl he;have hg:(l.map qf)[i]?=some (qf c):=by rw [zamS,he];rfl
   obtain ⟨a1,a2⟩:=PY rfl hg;have h1:=λhk=>h1 m (by omega) c (List.mem_filter.2 ⟨hmem,zJ hk⟩)
   have h2:=h2 m (by omega) c hmem;have h3:=h3 m (by omega) c hmem;have h4:=h4 m (by omega);have h5:=h5 m (by omega);have ea:i=((l.take i).map λc=>qf (chN (evN true row many) c)).length:=by simp;omega
   have e1000:i<=1000:=by omega
   have w:IntKind.i64.wrap ((i:Int)+1)=((i+1:Nat):Int):=by rw [qn (by omega)];omega
   have fin:∀(e:List PV),e=qf (chN (evN true row many) c)->(some (Sum.inl (row,many,row,i+1,l.map qf,((l.map qf).length:Int),IntKind.i64.wrap ((i:Int)+1),((l.take i).map λc=>qf (chN (evN true row many) c))++ [e])):Option ((Int×Int×Int×Nat×RW×Int×Int×RW)⊕(Nat×RW)))=some (.inl (row,many,row,i+1,l.map qf,((l.map qf).length:Int),((i+1:Nat):Int),(l.take (i+1)).map λc=>qf (chN (evN true row many) c))):=λe he2=>by
    rw [w,Nx he,he2]
   refine qb (zJ (by simpa using hi)) (qb a1 (qa a2 (qb rfl ?_)))
   iterate 14 refine qa rfl ?_
   by_cases k2:c.1=2
   ·refine qb (zanG.2 k2) (qa (h1 (.inl k2)) (qa h2 ?_));cases hp:plB (evN true row many c) with
    |false=>exact qb rfl (qa h5 (qa h4 (qb rfl (qb (D6 ea e1000 rfl) (fin _ (by unfold chN;rw [if_pos (.inl k2),hp];rfl))))))
    |true=>exact qh rfl (qa h3 (qb rfl (qb (D6 ea e1000 rfl) (fin _ (by unfold chN;rw [if_pos (.inl k2),hp];rfl)))))
   ·refine qh (zanF.2 k2) ?_;by_cases k3:c.1=3
    ·refine qb (zanG.2 k3) (qa (h1 (.inr k3)) (qa h2 ?_));cases hp:plB (evN true row many c) with
     |false=>exact qb rfl (qa h5 (qa h4 (qb rfl (qb (D6 ea e1000 rfl) (fin _ (by unfold chN;rw [if_pos (.inr k3),hp];rfl))))))
     |true=>exact qh rfl (qa h3 (qb rfl (qb (D6 ea e1000 rfl) (fin _ (by unfold chN;rw [if_pos (.inr k3),hp];rfl)))))
    ·refine qh (zanF.2 k3) ?_;exact qa h3 (qb rfl (qb (D6 ea e1000 rfl) (fin _ (by unfold chN;rw [if_neg (by omega)];rfl)))))
  (qh (zu (by simp)) (by rw [List.take_length];rfl)) m (by omega)
 refine qa h (qb (zJ ?_) ?_)
 ·rw [Gt];simp
 ·rw [Gt];simp [Tr.run,List.map_map,Function.comp_def]
theorem Le (cl:Bool) (row many:Int) (hr:1<=row/\row<=99) (hmy:1<=many/\many<=99) (l:List Nd) (hl:l.length<=1000) (hs:∀c∈l,(kd c).length<=2000/\c.2.2.2.2.1.size<=140737488351232) (hB:∀c∈l,EJ c=true):Ev (G1 · (l.map qf) row many cl) ((l.map (chN (evN cl row many))).map qf):=by
 have wr:IntKind.i64.wrap (row-1)=row-1:=qn (by omega);have wq:IntKind.i64.wrap (row+many)=row+many:=qn (by omega);have wq1:IntKind.i64.wrap (row+many-1)=row+many-1:=qn (by omega);obtain ⟨n1,h1⟩:=De (F:=λ(c:Nd) n=>Co n c.2.2.2.2.2.2.1 row many cl row) (f:=λc=>HC cl row many row c.2.2.2.2.2.2.1) l λc _=>Kc ..
 obtain ⟨n2,h2⟩:=De (F:=λ(c:Nd) n=>Co n c.2.2.2.2.2.2.2.2.2.2.1 row many cl (IntKind.i64.wrap (row-1))) (f:=λc=>HC cl row many (row-1) c.2.2.2.2.2.2.2.2.2.2.1) l λc _=>by rw [wr];exact Kc ..
 obtain ⟨n3,h3⟩:=De (F:=λ(c:Nd) n=>qq n (evN cl row many c).1 (evN cl row many c).2.1 (evN cl row many c).2.2.1 (evN cl row many c).2.2.2.1 (evN cl row many c).2.2.2.2.1 (evN cl row many c).2.2.2.2.2.1 (evN cl row many c).2.2.2.2.2.2.1 (evN cl row many c).2.2.2.2.2.2.2.1 (evN cl row many c).2.2.2.2.2.2.2.2.1 (evN cl row many c).2.2.2.2.2.2.2.2.2.1 (evN cl row many c).2.2.2.2.2.2.2.2.2.2.1 (evN cl row many c).2.2.2.2.2.2.2.2.2.2.2.1 (evN cl row many c).2.2.2.2.2.2.2.2.2.2.2.2.1 ((kd (evN cl row many c)).map DG)) (f:=λc=>EJ (evN cl row many c)) l λc hc=>Gr (evN cl row many c) (by have:=(hs c hc).2;show c.2.2.2.2.1.size<=_;omega)
 obtain ⟨n4,h4⟩:=De (F:=λ(c:Nd) n=>Cy n c.2.2.2.2.2.2.1 row (IntKind.i64.wrap (IntKind.i64.wrap (row+many)-1))) (f:=λc=>decide (row<=c.2.2.2.2.2.2.1/\c.2.2.2.2.2.2.1<=row+many-1)) l λc _=>by rw [wq,wq1];exact Dl ..
 obtain ⟨n5,h5⟩:=Ny;refine ⟨n1+n2+n3+n4+n5+l.length+3,λn hn=>?_⟩;obtain ⟨m,rfl,hm⟩:=up1 hn;have h:=Rp (B:=Gq m) (λi=>(l.map qf,row,many,cl,i,(i:Int),(l.take i).map λc=>qf (chN (evN cl row many) c))) l (λ_ _=>none) (l.length,l.map λc=>qf (chN (evN cl row many) c))
  (λi c he=>by
   have hi:=(zamJ.1 he).1;have hmem:=zl he;have hg:(l.map qf)[i]?=some (qf c):=by rw [zamS,he];rfl
   obtain ⟨a1,a2⟩:=PY rfl hg;have h1:=h1 m (by omega) c hmem;have h2:=h2 m (by omega) c hmem;have h3:=h3 m (by omega) c hmem;have h4:=h4 m (by omega) c hmem;have h5:=h5 m (by omega);have hkl:=(hs c hmem).1;have ea:i=((l.take i).map λc=>qf (chN (evN cl row many) c)).length:=by simp;omega
   have e1000:i<=1000:=by omega
   have w:IntKind.i64.wrap ((i:Int)+1)=((i+1:Nat):Int):=by rw [qn (by omega)];omega
   have fin:∀(e:List PV),e=qf (chN (evN cl row many) c)->(some (Sum.inl (l.map qf,row,many,cl,i+1,IntKind.i64.wrap ((i:Int)+1),((l.take i).map λc=>qf (chN (evN cl row many) c))++ [e])):Option ((RW×Int×Int×Bool×Nat×Int×RW)⊕(Nat×RW)))=some (.inl (l.map qf,row,many,cl,i+1,((i+1:Nat):Int),(l.take (i+1)).map λc=>qf (chN (evN cl row many) c))):=λe he2=>by
    rw [w,Nx he,he2]
   have kA:decide (0=([]:RW).length/\0<1/\0<8/\(0+((kd c).map DG).length)*8<=140737488355328/\((kd c).map DG).all (λe=>e.length==1)=true)=true:=zJ ⟨rfl,by decide,by decide,by simp;omega,by simp [DG]⟩;have kB:decide ((0+((kd c).map DG).length)=(([]:RW)++((kd c).map DG)).length)=true:=zJ (by simp);refine qb (zJ (by simpa using hi)) (qb a1 (qa a2 (qb rfl ?_)))
   iterate 14 refine qa rfl ?_
   refine qb kA ?_;by_cases k2:c.1=2
   ·refine qb (zanG.2 k2) (qb (zanG.2 k2) ?_);obtain ⟨b1,b2,b3⟩:=Nz (cl:=cl) (row:=row) (many:=many) (hB c hmem) (.inl k2);rw [b1] at h3;by_cases hgone:cl=true/\row<=c.2.2.2.2.2.2.1/\c.2.2.2.2.2.2.1<=row+many-1
    ·have hp:plB (evN cl row many c)=false:=by
      unfold plB evN;dsimp only;rw [if_pos k2,if_neg (by omega)];have:HC cl row many 0 c.2.2.2.2.2.2.1=0:=by
       unfold HC;rw [if_neg (by omega),if_neg (by rw [hgone.1];decide),wq,if_pos (by omega)]
      rw [this,Rr]
     rw [zJ hgone.2] at h4;exact qb hgone.1 (qa h4 (qa h1 (qh (zanF.2 (by omega)) (qb rfl (qa h5 (qb rfl (qb (D6 ea e1000 rfl) (fin _ (by unfold chN;rw [if_pos (.inl k2),hp];rfl)))))))))
    ·have hg0:HC cl row many row c.2.2.2.2.2.2.1=HC cl row many 0 c.2.2.2.2.2.2.1:=by
      unfold HC;by_cases q1:c.2.2.2.2.2.2.1<row
      ·rw [if_pos q1,if_pos q1]
      ·rw [if_neg q1,if_neg q1];by_cases q2:cl=false
       ·rw [if_pos q2,if_pos q2]
       ·rw [if_neg q2,if_neg q2,wq,if_neg (λq3=>hgone ⟨by simpa using q2,by omega,by omega⟩),if_neg (λq3=>hgone ⟨by simpa using q2,by omega,by omega⟩)]
     have hm2:=Sb (cl:=cl) (row:=row) (many:=many) k2 hg0;rw [hm2] at h3;cases cl with
     |false=>
      refine qh rfl (qa h1 (qh (zanF.2 (by omega)) (qb kB (qa h3 (qb rfl ?_)))));rw [<-hm2];cases hp:plB (evN false row many c) with
      |false=>exact qb rfl (qa h5 (qb rfl (qb (D6 ea e1000 rfl) (fin _ (by unfold chN;rw [if_pos (.inl k2),hp];rfl)))))
      |true=>exact qh rfl (qb kB (qb rfl (qb (D6 ea e1000 rfl) (fin _ (by unfold chN;rw [if_pos (.inl k2),hp,if_pos rfl,hm2];rfl)))))
     |true=>
      rw [zu (λq=>hgone ⟨rfl,q⟩)] at h4;refine qb rfl (qa h4 (qa h1 (qh (zanF.2 (by omega)) (qh rfl (qb kB (qa h3 (qb rfl ?_)))))));rw [<-hm2];cases hp:plB (evN true row many c) with
      |false=>exact qb rfl (qa h5 (qb rfl (qb (D6 ea e1000 rfl) (fin _ (by unfold chN;rw [if_pos (.inl k2),hp];rfl)))))
      |true=>exact qh rfl (qb kB (qb rfl (qb (D6 ea e1000 rfl) (fin _ (by unfold chN;rw [if_pos (.inl k2),hp,if_pos rfl,hm2];rfl)))))
   ·refine qh (zanF.2 k2) ?_;by_cases k3:c.1=3
    ·have hm3:=Sa (cl:=cl) (row:=row) (many:=many) (c:=c) k3;obtain ⟨b1,b2,b3⟩:=Nz (cl:=cl) (row:=row) (many:=many) (hB c hmem) (.inr k3);rw [b1] at h3;rw [hm3] at h3;refine qb (zanG.2 k3) (qh (zanF.2 k2) (qa h1 (qb (zanG.2 k3) (qa h2 (qb kB (qa h3 (qb rfl ?_)))))));rw [<-hm3];cases hp:plB (evN cl row many c) with
     |false=>exact qb rfl (qa h5 (qb rfl (qb (D6 ea e1000 rfl) (fin _ (by unfold chN;rw [if_pos (.inr k3),hp];rfl)))))
     |true=>exact qh rfl (qb kB (qb rfl (qb (D6 ea e1000 rfl) (fin _ (by unfold chN;rw [if_pos (.inr k3),hp,if_pos rfl,hm3];rfl)))))
    ·exact qh (zanF.2 k3) (qb kB (qb rfl (qb (D6 ea e1000 rfl) (fin _ (by unfold chN;rw [if_neg (by omega)];rfl))))))
  (qh (zu (by simp)) (by rw [List.take_length];rfl)) m (by omega)
 rw [Gt] at h;refine qa h (qb (zJ ?_) ?_)
 ·simp
 ·simp [Tr.run,List.map_map,Function.comp_def]
theorem MN (row many:Int) (l:List Nd) (hl:l.length<=140737488351232) (hs:∀c∈l,(kd c).length<=140737488351232/\c.2.2.2.2.1.size<=140737488351232):Ev (H8 · (l.map qf) row many) ((ocR false row many l).1.map qf,(ocR false row many l).2):=by
 refine Fv (EP (R:=λn=>H7 n (l.map qf) row many) (qp (Gb l hl hs) ?_) λn=>rfl);unfold ocR;cases hf:FQ l with
 |false=>rw [if_neg (by simp)];exact Cg rfl (Cg rfl (qk rfl))
 |true=>
  refine C7 rfl (qp (G6 row) ?_);by_cases hp:1<=row/\row<=99
  ·refine C7 (by rw [zJ hp];rfl) (qp (G6 many) ?_);by_cases hq:1<=many/\many<=99
   ·rw [if_pos ⟨rfl,hp,hq⟩];have h:=OW row many hp hq l (by have:=(Cz hf).1.2;omega) (λc hc=>by have:=HO ((Cz hf).2 c hc);omega) (Cz hf).2;exact C7 (by rw [zJ hq];rfl) (qp (Fv (EP (F:=λn=>H6 n (l.map qf) row many) (R:=λn=>H5 n (l.map qf) row many) (qp h (qk rfl)) λn=>rfl)) (qk (by simp)))
   ·rw [if_neg (λh=>hq h.2.2)];exact Cg (by rw [zu hq];rfl) (Cg rfl (qk rfl))
  ·rw [if_neg (λh=>hp h.2.1)];exact Cg (by rw [zu hp];rfl) (Cg rfl (qk rfl))
theorem MO (row many:Int) (l:List Nd) (hs:∀c∈l,(kd c).length<=140737488351232/\c.2.2.2.2.1.size<=140737488351232):Ev (IC · (l.map qf) row many) ((ocR false row many l).1.map qf,(ocR false row many l).2):=by
 refine Fv (EP (R:=λn=>IB n (l.map qf) row many) (qp (Ga l hs) ?_) λn=>rfl);unfold ocR;cases hf:FQ l with
 |false=>rw [if_neg (by simp)];exact Cg rfl (Cg rfl (qk rfl))
 |true=>
  refine C7 rfl (qp (Jx row many) ?_);by_cases hp:1<=row/\row<=99
  ·rw [zJ hp];by_cases hq:1<=many/\many<=99
   ·rw [if_pos ⟨rfl,hp,hq⟩,zJ hq];have h:=Le false row many hp hq l (by have:=(Cz hf).1.2;omega) (λc hc=>⟨HO ((Cz hf).2 c hc),(hs c hc).2⟩) (Cz hf).2;exact C7 rfl (qp h (qk (by simp)))
   ·rw [if_neg (λh=>hq h.2.2),zu hq];exact Cg rfl (Cg rfl (qk rfl))
  ·rw [if_neg (λh=>hp h.2.1),zu hp];exact Cg rfl (Cg rfl (qk rfl))
theorem Ii (row many:Int) (l:List Nd) (hl:l.length<=140737488351232) (hs:∀c∈l,(kd c).length<=140737488351232/\c.2.2.2.2.1.size<=140737488351232):Ev (G2 · (l.map qf) row many) ((ocR true row many l).1.map qf,(ocR true row many l).2):=by
 refine Fv (EP (R:=λn=>IF n (l.map qf) row many) (qp (Gb l hl hs) ?_) λn=>rfl);unfold ocR;cases hf:FQ l with
 |false=>rw [if_neg (by simp)];exact Cg rfl (Cg rfl (qk rfl))
 |true=>
  refine C7 rfl (qp (G6 row) ?_);by_cases hp:1<=row/\row<=99
  ·refine C7 (by rw [zJ hp];rfl) (qp (G6 many) ?_);by_cases hq:1<=many/\many<=99
   ·rw [if_pos ⟨rfl,hp,hq⟩];have h:=OX row many hp hq l (by have:=(Cz hf).1.2;omega) (λc hc=>by have:=HO ((Cz hf).2 c hc);omega) (Cz hf).2;exact C7 (by rw [zJ hq];rfl) (qp (Fv (EP (F:=λn=>IE n (l.map qf) row many) (R:=λn=>ID n (l.map qf) row many) (qp h (qk rfl)) λn=>rfl)) (qk (by simp)))
   ·rw [if_neg (λh=>hq h.2.2)];exact Cg (by rw [zu hq];rfl) (Cg rfl (qk rfl))
  ·rw [if_neg (λh=>hp h.2.1)];exact Cg (by rw [zu hp];rfl) (Cg rfl (qk rfl))
theorem MP (row many:Int) (l:List Nd) (hs:∀c∈l,(kd c).length<=140737488351232/\c.2.2.2.2.1.size<=140737488351232):Ev (IH · (l.map qf) row many) ((ocR true row many l).1.map qf,(ocR true row many l).2):=by
 refine Fv (EP (R:=λn=>IG n (l.map qf) row many) (qp (Ga l hs) ?_) λn=>rfl);unfold ocR;cases hf:FQ l with
 |false=>rw [if_neg (by simp)];exact Cg rfl (Cg rfl (qk rfl))
 |true=>
  refine C7 rfl (qp (Jx row many) ?_);by_cases hp:1<=row/\row<=99
  ·rw [zJ hp];by_cases hq:1<=many/\many<=99
   ·rw [if_pos ⟨rfl,hp,hq⟩,zJ hq];have h:=Le true row many hp hq l (by have:=(Cz hf).1.2;omega) (λc hc=>⟨HO ((Cz hf).2 c hc),(hs c hc).2⟩) (Cz hf).2;exact C7 rfl (qp h (qk (by simp)))
   ·rw [if_neg (λh=>hq h.2.2),zu hq];exact Cg rfl (Cg rfl (qk rfl))
  ·rw [if_neg (λh=>hp h.2.1),zu hp];exact Cg rfl (Cg rfl (qk rfl))
theorem Ry (cl:Bool) (row many:Int):PlaceCh (evN cl row many):=⟨λc=>rfl,λc h hk=>(Nz h hk).1,λc=>rfl⟩
theorem R9 {f:Nd->Nd} (hf:∀c,HB c->HB (f c)) {c:Nd} (h:HB c):HB (chN f c):=by
 unfold chN;split
 ·split
  ·exact hf c h
  ·exact ⟨by show 0<=2000;decide,by show (⟨#[]⟩:BA).size<=2000;decide⟩
 ·exact h
theorem SA {cl:Bool} {row many:Int} {c:Nd} (h:HB c):HB (evN cl row many c):=h
theorem Pe {a b:Int} (h:D2 a b=true):(1<=a/\a<=52)/\(1<=b/\b<=99):=by
 unfold D2 at h;simpa using h
theorem MQ {row many:Int} (hr:1<=row/\row<=99) (hm:1<=many/\many<=99) {x o o':Int} (hx:1<=x/\x<=99):HC true row many o (HC false row many o' x)=x:=by
 have wq:IntKind.i64.wrap (row+many)=row+many:=qn (by omega);have wx:IntKind.i64.wrap (x+many)=x+many:=qn (by omega);have wb:IntKind.i64.wrap (x+many-many)=x:=by rw [qn (by omega)];omega
 unfold HC;by_cases h:x<row
 ·rw [if_pos h,if_pos h]
 ·rw [if_neg h,if_pos rfl,wx,if_neg (by omega),if_neg (by decide),wq,if_neg (by omega),wb]
theorem Rs {row many:Int} (hr:1<=row/\row<=99) (hm:1<=many/\many<=99) {c:Nd} (h:EJ c=true) (hpl:F2 c=true->plB (evN false row many c)=true):chN (evN true row many) (chN (evN false row many) c)=c:=by
 by_cases hk:c.1=2\/c.1=3
 ·have hpl:=hpl (zJ hk);have hc:=(Nz (cl:=false) (row:=row) (many:=many) h hk).2.1;have e1:chN (evN false row many) c=evN false row many c:=by unfold chN;rw [if_pos hk,if_pos hpl]
  have e2:evN true row many (evN false row many c)=c:=by
   obtain ⟨k,op,ck,cn,cs,ac,ar,af,ag,bc,br,bf,bg,ks⟩:=c;dsimp only at hk;rcases hk with rfl|rfl
   ·have hx:=Pe (show D2 ac ar=true from hc);unfold evN;dsimp only;rw [if_neg (by decide),if_neg (by decide),if_neg (by decide),MQ hr hm hx.2];rfl
   ·have ha:Fg ac ar bc br=true:=hc;unfold Fg at ha;simp only [zY] at ha;have hx:=Pe ha.1.1.1;have hx2:=Pe ha.1.1.2;unfold evN;dsimp only;rw [if_pos rfl,if_pos rfl,if_pos rfl,MQ hr hm hx.2,MQ hr hm hx2.2];rfl
  rw [e1];unfold chN;rw [e2,if_pos (show (evN false row many c).1=2\/(evN false row many c).1=3 from hk),if_pos hc]
 ·have e1:chN (evN false row many) c=c:=by unfold chN;rw [if_neg hk]
  rw [e1];unfold chN;rw [if_neg hk]
theorem OY {l:RW} (hl:Jg l):∃(f:List Nd) (p q:Int),(f.length<=60/\∀c∈f,HB c)/\Ev (GQ · l) (f.map qf,p,q):=by
 obtain ⟨f,p1,h1,h2,h3⟩:=QF hl (p:=0) (by omega);obtain ⟨o,p2,h4,h5⟩:=G3 8 (by decide) hl h1;cases o with
 |true=>
  obtain ⟨x,p3,h6,_,h7⟩:=Kr 1 99 (by decide) hl h4;obtain ⟨y,p4,h8,_,h9⟩:=Kr 1 99 (by decide) hl h6;exact ⟨f,x,y,h2,Fv (EP (R:=λn=>FX n l) (qp (Es (QN l)) (qp h3 (qp (Es h5) (Cg rfl (qp (Es h7) (qp (Es h9) (qk rfl))))))) λn=>rfl)⟩
 |false=>
  obtain ⟨x,p3,h6,_,h7⟩:=EU 5 (by decide) hl h4;obtain ⟨y,p4,h8,_,h9⟩:=EU 3 (by decide) hl h6;exact ⟨f,_,_,h2,Fv (EP (R:=λn=>FX n l) (qp (Es (QN l)) (qp h3 (qp (Es h5) (C7 rfl (qp (Es h7) (qp (Es h9) (qk rfl))))))) λn=>rfl)⟩
theorem law (rows:RW) (w:rows.length*1<=140737488351232/\∀r∈rows,okR [.i .u8] r):Ev (Gh · rows) true:=by
 refine Fv (EP (R:=λn=>FT n rows) (qp (Pi rows) ?_) λn=>rfl);by_cases h:(rows.length:Int)>1048576
 ·exact Cg (zJ h) (qk rfl)
 refine C7 (zu h) ?_;have hl:=RL w.2 h;obtain ⟨f,row,many,⟨f1,f2⟩,hd⟩:=OY hl;have hsz:∀g:List Nd,(∀c∈g,HB c)->∀c∈g,(kd c).length<=140737488351232/\c.2.2.2.2.1.size<=140737488351232:=λg hg c hc=>by have:=hg c hc;exact ⟨by have:=this.1;omega,by have:=this.2;omega⟩
 have sm:∀(cl:Bool) (g:List Nd),(∀c∈g,HB c)->∀c∈(ocR cl row many g).1,HB c:=λcl g hg c hc=>by
  unfold ocR at hc;split at hc
  ·obtain ⟨x,hx,rfl⟩:=List.mem_map.1 hc;exact R9 (λc h=>SA h) (hg x hx)
  ·cases hc
 have ln:∀(cl:Bool) (g:List Nd),(ocR cl row many g).1.length<=g.length:=λcl g=>by
  unfold ocR;split
  ·simp
  ·exact Nat.zero_le _
 have same:∀g:List Nd,g.length<=1000->(∀c∈g,HB c)->Ev (DZ · (g.map qf) (g.map qf)) true:=λg h1 h2=>Lb g (by omega) λc hc=>by have:=(h2 c hc).1;omega
 have sO:=same _ (by have:=ln false f;omega) (sm false f f2);have sC:=same _ (by have:=ln true f;omega) (sm true f f2);refine qp hd (qp (MN row many f (by omega) (hsz f f2)) (qp (MO row many f (hsz f f2)) (qp (Ii row many f (by omega) (hsz f f2)) (qp (MP row many f (hsz f f2)) (C7 (by simp) (qp sO (C7 rfl (C7 (by simp) (qp sC (C7 rfl ?_))))))))));by_cases ho:FQ f=true/\(1<=row/\row<=99)/\(1<=many/\many<=99)
 ·have e:∀cl,ocR cl row many f=(f.map (chN (evN cl row many)),true):=λcl=>by unfold ocR;rw [if_pos ho]
  obtain ⟨o1,o2,o3⟩:=ho;have hs2:∀cl,∀c∈f.map (chN (evN cl row many)),HB c:=λcl=>by have:=sm cl f f2;rw [e] at this;exact this
  have hf2:∀cl,FQ (f.map (chN (evN cl row many)))=true:=λcl=>RD (Ry cl row many) o1
  rw [e false,e true];refine C7 rfl (qp (GA _ (by simp;omega) (hs2 false)) (qp (GA f (by omega) f2) ?_));rw [if_pos o1,if_pos (hf2 false),zamV,zamV];obtain ⟨c1,c2⟩:=QG (g:=chN (evN false row many)) (λc h=>(Pb h).1) f;by_cases hc:((f.map (chN (evN false row many))).filter F2).length=(f.filter F2).length
  ·have c3:=c2 hc;have hpl:∀c∈f,F2 c=true->plB (evN false row many c)=true:=λc hc hp=>by
    have h1:=c3 c hc hp;have h2:=(Pb h1).2;have hn:=(Lc (Ry false row many) ((Cz o1).2 c hc)).1;rw [h2,(Nz ((Cz o1).2 c hc) (of_decide_eq_true hp)).1] at hn;exact hn
   have eb:ocR true row many (f.map (chN (evN false row many)))=(f,true):=by
    unfold ocR;rw [if_pos ⟨hf2 false,o2,o3⟩,List.map_map]
    congr 1
    conv=>rhs;rw [<-List.map_id f]
    exact List.map_congr_left λc hc=>Rs o2 o3 ((Cz o1).2 c hc) (hpl c hc)
   have hb:=Ii row many (f.map (chN (evN false row many))) (by simp;omega) (hsz _ (hs2 false));rw [eb] at hb;have d1:=(QG (g:=chN (evN true row many)) (λc h=>(Pb h).1) f).1;have aC:=GA _ (by simp;omega) (hs2 true);rw [if_pos (hf2 true)] at aC;have aF:=GA f (by omega) f2;rw [if_pos o1] at aF;exact C7 (by rw [hc];simp) (qp hb (Cg rfl (qp (same f (by omega) f2) (Cg rfl (qp aC (qp aF (qk (zJ (by simp only [zamV];omega)))))))))
  ·exact Cg (bne_iff_ne.2 (by dsimp only;omega)) (qk rfl)
 ·have e:∀cl,ocR cl row many f=([],false):=λcl=>by unfold ocR;rw [if_neg ho]
  have sE:=same [] (by decide) (λc hc=>by cases hc);rw [e false,e true];exact Cg rfl (Cg rfl (qp sE (Cg rfl (Cg rfl (qp sE (qk rfl))))))
end Go.Proofs.Ytilkdjfhbahhdaa.KFnOpenedClosed

