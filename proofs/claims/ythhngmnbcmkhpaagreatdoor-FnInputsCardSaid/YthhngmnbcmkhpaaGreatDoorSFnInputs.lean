import Derived.Test.YthhngmnbcmkhpaaGreatDoorTFnInputs
import Derived.Test.YthhngmnbcmkhpaaGreatDoorE32
import Derived.Lib.Strings
import Derived.Test.YthhngmnbcmkhpaaGreatDoorSFnInputsp1
namespace Go.Proofs.YthhngmnbcmkhpaaGreatDoor.KFnInputs
open Go.Eng
set_option linter.unusedVariables false
set_option linter.unusedSimpArgs false
def qST (N:Nat):Prop:=∀(m:Nat),m≤4→∀(p q:PS) (deep least a:Int) (f:Nat) (res:Int×PS),Lk p q→(tb p.1).length=N→1≤least→0≤deep→deep+N≤400→20*N+5≤f→
 (qAS (tb p.1)=0∨lvl (qAS (tb p.1))≤m)→qIm (20*N+5) least m (a,q) res→SimP least (pP f (.loop least deep a) p) res
def qRp (N:Nat):Prop:=∀(p q:PS) (deep:Int) (k f g:Nat),k≤4→Lk p q→(tb p.1).length=N→0≤deep→deep+N≤400→20*N+6≤f→20*N+10≤g→SimP (5-(k:Int)) (pP f (.bin (5-(k:Int)) deep) p) (sP g (.row (5-(k:Int))) q)
def qSU (N:Nat):Prop:=∀(p q:PS) (deep op:Int) (kids:List Int) (f g:Nat),Lk p q→(tb p.1).length=N→0≤deep→deep+N+1≤400→20*N+8≤f→20*N+12≤g→Sim (pP f (.args op deep kids) p) (sP g (.call op kids) q)
theorem qTc (N:Nat) (hB:∀M,M<N→qRp M) (hT:∀M,M<N→qST M):qST N:=by
 intro m
 induction m with
 |zero=>
  intro hm p q deep least a f res hl hN hle hd hdN hf hpk ht
  have h0:qAS (tb p.1)=0:=by
   rcases hpk with h|h
   ·exact h
   ·have:=(qPU (op:=qAS (tb p.1))).1
    omega
  cases f with
  |zero=>omega
  |succ f=>
   simp only [pP]
   rw [if_neg (by rw [hl.1];simp),if_pos (.inl h0)]
   unfold qIm at ht
   subst ht
   refine .inl ⟨rfl,⟨hl.1,hl.2.1,hl.2.2.1,?_⟩,.inl ?_⟩
   ·simp only;rw [qCW];exact hl.2.2.2
   ·simp only;rw [qCW];exact h0
 |succ m ih=>
  intro hm p q deep least a f res hl hN hle hd hdN hf hpk ht
  unfold qIm at ht
  by_cases hc:(m:Int)+1<least
  ·rw [if_pos hc] at ht
   subst ht
   cases f with
   |zero=>omega
   |succ f=>
    have hst:qAS (tb p.1)=0∨lvl (qAS (tb p.1))<least:=by
     rcases hpk with h|h
     ·exact .inl h
     ·right;push_cast at h;omega
    simp only [pP]
    rw [if_neg (by rw [hl.1];simp),if_pos hst]
    refine .inl ⟨rfl,⟨hl.1,hl.2.1,hl.2.2.1,?_⟩,?_⟩
    ·simp only;rw [qCW];exact hl.2.2.2
    ·unfold qTM;simp only;rw [qCW];exact hst
  ·rw [if_neg hc] at ht
   obtain ⟨g,hg,ht⟩:=ht
   cases g with
   |zero=>omega
   |succ g=>
    have hin:=qSR (m:=(m:Int)+1) (by omega) (tb q.1)
    have hpq:tb p.1=tb q.1:=hl.2.2.2
    simp only [sP] at ht
    rw [if_neg (by rw [hl.2.1];simp)] at ht
    have ho:sOp ((m:Int)+1) q=(qDm ((m:Int)+1) (tb q.1) qCE,(if qDm ((m:Int)+1) (tb q.1) qCE=0 then tb q.1 else (tb q.1).drop (qo (qDm ((m:Int)+1) (tb q.1) qCE)).size),q.2):=by
     unfold sOp;rw [if_neg (by rw [hl.2.1];simp)]
    by_cases hop:qAS (tb q.1)≠0∧lvl (qAS (tb q.1))=(m:Int)+1
    ·rw [if_pos hop] at hin
     rw [hin,if_neg hop.1] at ho
     rw [ho] at ht
     simp only at ht
     rw [if_neg hop.1] at ht
     cases f with
     |zero=>omega
     |succ f=>
      simp only [pP]
      rw [if_neg (by rw [hl.1];simp),if_neg (by rw [hpq];exact fun e=>e.elim (fun e=>hop.1 e) (fun e=>by have:=hop.2;omega))]
      rw [hpq]
      rcases qQ3 (tb q.1) with h0|⟨_,_,hsg⟩
      ·exact absurd h0 hop.1
      have hsz:(sgn (tb q.1)).length=(qo (qAS (tb q.1))).size:=by rw [hsg,qAK]
      have hpos:0<(sgn (tb q.1)).length:=by
       cases hh:sgn (tb q.1) with
       |nil=>
        exfalso
        apply hop.1
        unfold qAS
        rw [hh]
        simp
       |cons c t=>simp
      have hdrop:(tb ((tb q.1).drop (sgn (tb q.1)).length)).length<N:=by
       have h1:=qAA ((tb q.1).drop (sgn (tb q.1)).length)
       have h2:(sgn (tb q.1)).length≤(tb q.1).length∨(tb q.1).length<(sgn (tb q.1)).length:=by omega
       rw [List.length_drop] at h1
       have h3:(tb q.1).length=N:=by rw [←hpq];exact hN
       have h4:0<N:=by
        rcases Nat.eq_zero_or_pos N with h|h
        ·exfalso
         rw [h] at h3
         have:tb q.1= []:=List.eq_nil_of_length_eq_zero h3
         apply hop.1
         rw [this];rfl
        ·exact h
       omega
      have hlk:Lk ((tb q.1).drop (sgn (tb q.1)).length,p.2) ((tb q.1).drop (qo (qAS (tb q.1))).size,q.2):=⟨hl.1,hl.2.1,hl.2.2.1,by simp only;rw [hsz]⟩
      have hb:=hB _ hdrop ((tb q.1).drop (sgn (tb q.1)).length,p.2) ((tb q.1).drop (qo (qAS (tb q.1))).size,q.2) deep (3-m) f g (by omega) hlk rfl hd (by omega) (by omega) (by omega)
      have e5:(5-((3-m:Nat):Int))=(m:Int)+1+1:=by omega
      rw [e5] at hb
      rw [hop.2]
      have hlenA:=qDd f (.bin ((m:Int)+1+1) deep) ((tb q.1).drop (sgn (tb q.1)).length,p.2)
      generalize pP f (.bin ((m:Int)+1+1) deep) ((tb q.1).drop (sgn (tb q.1)).length,p.2)=A at hb hlenA⊢
      generalize hBB:sP g (.row ((m:Int)+1+1)) ((tb q.1).drop (qo (qAS (tb q.1))).size,q.2)=B at hb ht
      rcases hb with ⟨b1,b2,b3⟩|⟨b1,b2⟩
      ·rw [b1]
       have hs:=qIC (x:=ndK 5 (qAS (tb q.1)) [a,B.1]) b2
       generalize hC:qC7 (ndK 5 (qAS (tb q.1)) [a,B.1]) A.2=C at hs⊢
       generalize qD2 (ndK 5 (qAS (tb q.1)) [a,B.1]) B.2=D at hs ht
       rcases hs with ⟨c1,c2⟩|⟨c1,c2⟩
       ·have hrC:C.2.1=A.2.1:=by rw [←hC];exact qA5 _ _
        have hN3:(tb C.2.1).length<N:=by
         rw [hrC]
         exact Nat.lt_of_le_of_lt hlenA hdrop
        refine hT _ hN3 (m+1) hm C.2 D.2 deep least C.1 f res c2 rfl hle hd (by omega) (by omega) ?_ ?_
        ·rw [hrC]
         rcases b3 with h|h
         ·exact .inl h
         ·right;push_cast;omega
        ·rw [c1]
         unfold qIm
         rw [if_neg hc]
         exact ⟨g,by omega,qMU (by omega) m ht⟩
       ·exact .inr ⟨qLR _ (qMT g _ _ c1) ht,qCv f _ _ c2⟩
      ·exact .inr ⟨qLR _ (qMT g _ _ (qLQ b1)) ht,qCv f _ _ (qCo b2)⟩
    ·rw [if_neg hop] at hin
     rw [hin,if_pos rfl] at ho
     rw [ho] at ht
     simp only at ht
     rw [if_pos trivial] at ht
     refine ih (by omega) p (tb q.1,q.2) deep least a f res ⟨hl.1,hl.2.1,hl.2.2.1,by simp only;rw [qCW];exact hpq⟩ hN hle hd hdN hf ?_ ht
     rw [hpq]
     rw [hpq] at hpk
     by_cases h0:qAS (tb q.1)=0
     ·exact .inl h0
     ·right
      rcases hpk with h|h
      ·exact absurd h h0
      ·have:lvl (qAS (tb q.1))≠(m:Int)+1:=fun e=>hop ⟨h0,e⟩
       push_cast at h
       omega
theorem qSV (N:Nat) (hA:qSS N) (hT:∀M,M≤N→qST M):qRp N:=by
 intro p q deep k f g hk hl hN hd hdN hf hg
 obtain ⟨g5,hg5,ht⟩:=qP4 (G:=20*N+5) hl.2.1 k hk g (by omega)
 cases f with
 |zero=>omega
 |succ f=>
  simp only [pP]
  have ha:=hA p q deep f g5 hl hN hd hdN (by omega) hg5
  have hlen:=qDd f (.un deep) p
  generalize pP f (.un deep) p=A at ha hlen⊢
  generalize sP g5 (.row 5) q=B at ha ht
  rcases ha with ⟨h1,h2⟩|⟨h1,h2⟩
  ·have hM:(tb A.2.1).length≤N:=by omega
   refine hT _ hM 4 (by omega) A.2 B.2 deep (5-(k:Int)) A.1 f _ h2 rfl (by omega) hd (by omega) (by omega) (.inr ?_) ?_
   ·have:=(qPU (op:=qAS (tb A.2.1))).2;omega
   ·rw [h1];exact qMU (by omega) 4 ht
  ·exact .inr ⟨qLR 4 h1 ht,qCv f _ _ h2⟩
theorem qSW (H:RdOK) (N:Nat) (hB:qRp N) (hC:∀M,M<N→qSU M):qSU N:=by
 intro p q deep op kids f g hl hN hd hdN hf hg
 cases f with
 |zero=>omega
 |succ f=>
 cases g with
 |zero=>omega
 |succ g=>
 cases g with
 |zero=>omega
 |succ g=>
 have hpq:=hl.2.2.2
 have hpb:¬p.2.1=true:=by rw [hl.1];simp
 have hqb:¬q.2.1=true:=by rw [hl.2.1];simp
 have harg:Sim (qDb (qA1 p) (fun p=>pP f (.bin 1 (deep+1)) p)) (sP (g+1) .arg q)∧(tb (qDb (qA1 p) (fun p=>pP f (.bin 1 (deep+1)) p)).2.1).length≤N:=by
  refine ⟨?_,?_⟩
  ·have hw:Lk (wr (tb p.1),p.2) (wr (tb q.1),q.2):=⟨hl.1,hl.2.1,hl.2.2.1,by rw [hpq]⟩
   obtain ⟨e1,e2⟩:=qJa (c:=58) (by decide) hw
   simp only [sP]
   unfold qDb qA1
   simp only
   rw [hpq] at e1 e2⊢
   by_cases hc:(qAv (BR (wd (tb q.1)))).2.2.2.2=true∧(qW [58] (wr (tb q.1),p.2)).1=true
   ·rw [if_pos hc,if_pos ⟨hc.1,e1▸hc.2⟩]
    simp only
    rw [e2.2.2.2]
    by_cases h2:(qAv (BR (wd (tb (sIs [58] (wr (tb q.1),q.2)).2.1)))).2.2.2.2=true
    ·rw [if_pos h2,h2]
     simp only [Bool.not_true,Bool.or_false]
     exact qIC ⟨e2.1,e2.2.1,e2.2.2.1,rfl⟩
    ·rw [if_neg h2]
     refine .inr ⟨rfl,qCo (.inl ?_)⟩
     simp only
     have h2:(qAv (BR (wd (tb (sIs [58] (wr (tb q.1),q.2)).2.1)))).2.2.2.2=false:=by simpa using h2
     rw [h2];simp
   ·rw [if_neg hc,if_neg (fun e=>hc ⟨e.1,e1.symm▸e.2⟩)]
    simp only
    have:=hB p (tb q.1,q.2) (deep+1) 4 f g (by omega) ⟨hl.1,hl.2.1,hl.2.2.1,by simp only;rw [qCW];exact hpq⟩ hN (by omega) (by omega) (by omega) (by omega)
    exact this.sim
  ·unfold qDb
   split
   ·rw [qA5];have:=qHo p;omega
   ·have h1:=qDd f (.bin 1 (deep+1)) (qA1 p).2
    have h2:=qHo p
    exact Nat.le_trans h1 (by omega)
 obtain ⟨harg,hal⟩:=harg
 simp only [pP]
 rw [if_neg hpb]
 have hs:sP (g+1+1) (.call op kids) q=(if (sIs [41] (sP (g+1) .arg q).2).1=true then qD2 (ndK 6 op (kids++ [(sP (g+1) .arg q).1])) (sIs [41] (sP (g+1) .arg q).2).2
  else sP (g+1) (.call op (kids++ [(sP (g+1) .arg q).1])) (if (sIs [44] (sIs [41] (sP (g+1) .arg q).2).2).1=true then (sIs [44] (sIs [41] (sP (g+1) .arg q).2).2).2 else qKl (sIs [44] (sIs [41] (sP (g+1) .arg q).2).2).2)):=by
  rw [sP]
  rw [if_neg hqb]
 rw [hs]
 generalize qDb (qA1 p) (fun p=>pP f (.bin 1 (deep+1)) p)=Q at harg hal⊢
 generalize sP (g+1) .arg q=A at harg⊢
 rcases harg with ⟨h1,h2⟩|⟨h1,h2⟩
 ·have hb2:=h2.2.1
  obtain ⟨c1,c2⟩:=qJa (c:=44) (by decide) h2
  have i41:=qLS (c:=41) hb2
  have i44:=qLS (c:=44) hb2
  by_cases hc:(qW [44] Q.2).1=true
  ·rw [if_pos hc]
   have hh:=i44.1 (c1▸hc)
   have n41:¬(sIs [41] A.2).1=true:=fun e=>by rw [i41.1 e] at hh;cases hh
   rw [if_neg n41]
   have e41:(sIs [41] A.2).2=(tb A.2.1,A.2.2):=by
    unfold sIs at n41⊢
    rw [if_neg (by rw [hb2];simp)] at n41⊢
    split
    ·rename_i hx;rw [if_pos hx] at n41;exact absurd rfl n41
    ·rfl
   rw [e41]
   have e44:sIs [44] (tb A.2.1,A.2.2)=sIs [44] A.2:=by unfold sIs;simp only [qCW]
   rw [e44,if_pos (c1▸hc),h1]
   have hlt:=qDc (w:= [44]) (by simp) hc
   have htb:=qAA (qW [44] Q.2).2.1
   exact hC _ (by omega) (qW [44] Q.2).2 (sIs [44] A.2).2 deep op _ f (g+1) c2 rfl hd (by omega) (by omega) (by omega)
  ·rw [if_neg hc]
   have et:(qW [44] Q.2).2=(tb Q.2.1,Q.2.2):=by
    unfold qW at hc⊢
    split
    ·rename_i hx;rw [if_pos hx] at hc;exact absurd rfl hc
    ·rfl
   rw [et]
   have hl2:Lk (tb Q.2.1,Q.2.2) A.2:=⟨h2.1,h2.2.1,h2.2.2.1,by simp only;rw [qCW];exact h2.2.2.2⟩
   have hm:=qP3 (c:=41) (by decide) (a:=(A.1,(tb Q.2.1,Q.2.2))) (b:=(A.1,A.2)) (.inl ⟨rfl,hl2⟩)
   by_cases h41:(sIs [41] A.2).1=true
   ·rw [if_pos h41]
    simp only [h41,if_true] at hm
    have:=qP2 (fun _=>ndK 6 op (kids++ [A.1])) hm
    rw [h1]
    exact this
   ·rw [if_neg h41]
    have e41:(sIs [41] A.2).2=(tb A.2.1,A.2.2):=by
     unfold sIs at h41⊢
     rw [if_neg (by rw [hb2];simp)] at h41⊢
     split
     ·rename_i hx;rw [if_pos hx] at h41;exact absurd rfl h41
     ·rfl
    have e44:sIs [44] (tb A.2.1,A.2.2)=sIs [44] A.2:=by unfold sIs;simp only [qCW]
    rw [e41,e44,if_neg (c1▸hc)]
    refine .inr ⟨qMT _ _ _ rfl,qCo ?_⟩
    simp only [if_neg h41] at hm
    rcases hm with ⟨_,_,hb,_⟩|⟨_,hdm⟩
    ·simp [qKl] at hb
    ·exact hdm
 ·have e41:sIs [41] A.2=(false,tb A.2.1,A.2.2):=qIB h1
  have e44:sIs [44] (tb A.2.1,A.2.2)=(false,tb (tb A.2.1),A.2.2):=qIB h1
  rw [e41]
  simp only [Bool.false_eq_true,if_false]
  rw [e44]
  simp only [Bool.false_eq_true,if_false]
  refine .inr ⟨qMT _ _ _ rfl,?_⟩
  split
  ·exact qCv f _ _ (qEN h2)
  ·exact qCo (qHn (qEN h2))
theorem qP6 {c d:UInt8} (h:c≠d) {r:List UInt8} (hr:r.head?=some c):¬r.head?=some d:=by rw [hr];simpa using h
theorem qSX (H:RdOK) (N:Nat) (hA:∀M,M<N→qSS M) (hB:∀M,M<N→qRp M) (hC:∀M,M<N→qSU M):qSS N:=by
 intro p q deep f g hl hN hd hdN hf hg
 cases f with
 |zero=>omega
 |succ f=>
 cases f with
 |zero=>omega
 |succ f=>
 cases g with
 |zero=>omega
 |succ g=>
 cases g with
 |zero=>omega
 |succ g=>
 have hpq:=hl.2.2.2
 have hpb:¬p.2.1=true:=by rw [hl.1];simp
 have hqb:¬q.2.1=true:=by rw [hl.2.1];simp
 have hq0:=hl.2.1
 have hs:sP (g+1+1) (.row 5) q=sP (g+1) .one q:=by
  rw [sP,if_neg hqb,if_pos rfl]
 rw [hs]
 obtain ⟨e1,e2⟩:=qJa (c:=45) (by decide) hl
 rw [pP]
 rw [if_neg (by intro e;rcases e with e|e;omega;exact hpb e)]
 by_cases hc:(qW [45] p).1=true
 ·rw [if_pos hc]
  simp only [sP]
  rw [if_pos (e1▸hc)]
  have hlt:=qDc (w:= [45]) (by simp) hc
  have htb:=qAA (qW [45] p).2.1
  exact qP2 (fun k=>ndK 4 0 [k]) (hA _ (by omega) _ _ (deep+1) (f+1) g e2 rfl (by omega) (by omega) (by omega) (by omega))
 ·rw [if_neg hc]
  have hp':(qW [45] p).2=(tb p.1,p.2):=by
   unfold qW at hc⊢
   split
   ·rename_i hx;rw [if_pos hx] at hc;exact absurd rfl hc
   ·rfl
  have hq':(sIs [45] q).2=(tb q.1,q.2):=by
   have hc:¬(sIs [45] q).1=true:=e1▸hc
   unfold sIs at hc⊢
   rw [if_neg hqb] at hc⊢
   split
   ·rename_i hx;rw [if_pos hx] at hc;exact absurd rfl hc
   ·rfl
  rw [hp']
  simp only [sP]
  rw [if_neg (e1▸hc),hq']
  simp only [pP,qCW]
  have hl2:Lk (tb p.1,p.2) (tb q.1,q.2):=⟨hl.1,hl.2.1,hl.2.2.1,by simp only [qCW];exact hpq⟩
  obtain ⟨f1,f2⟩:=qJa (c:=40) (by decide) hl2
  have i40:=qLS (c:=40) (q:=(tb q.1,q.2)) hq0
  have i34:=qLS (c:=34) (q:=(tb q.1,q.2)) hq0
  have i35:=qLS (c:=35) (q:=(tb q.1,q.2)) hq0
  simp only [qCW] at i40 i34 i35
  rw [hpq] at hN f1 f2⊢
  by_cases h34:(tb q.1).head?=some 34
  ·rw [if_pos h34,if_neg (fun e=>qP6 (by decide) h34 (i40.1 e)),if_pos (i34.2 h34)]
   have es:(sIs [34] (tb q.1,q.2)).2.1=(tb q.1).tail:=by
    have:=i34.2 h34
    unfold sIs at this⊢
    rw [if_neg hqb] at this⊢
    simp only [qCW] at this⊢
    split
    ·simp
    ·rename_i hx;rw [if_neg hx] at this;cases this
   rw [es]
   cases hqr:qBx [] (tb q.1).tail with
   |none=>exact .inr ⟨rfl,.inl rfl⟩
   |some st=>
    obtain ⟨s,t⟩:=st
    exact qIC ⟨hl.1,hl.2.1,hl.2.2.1,rfl⟩
  ·rw [if_neg h34]
   by_cases h35:(tb q.1).head?=some 35
   ·rw [if_pos h35,if_neg (fun e=>qP6 (by decide) h35 (i40.1 e)),if_neg (fun e=>h34 (i34.1 e)),if_pos (i35.2 h35)]
    have es:(sIs [35] (tb q.1,q.2)).2.1=(tb q.1).tail:=by
     have:=i35.2 h35
     unfold sIs at this⊢
     rw [if_neg hqb] at this⊢
     simp only [qCW] at this⊢
     split
     ·simp
     ·rename_i hx;rw [if_neg hx] at this;cases this
    rw [es,qRo H h35 5 1 (by omega) (by omega)]
    cases he:qGw (tb q.1) 1 5 with
    |some n=>
     simp only
     obtain ⟨t,ht⟩:=H.n n (by have:=qP5 5 1 he;omega)
     have hsz:(qY n).size=t.length+1:=by rw [←qAK,ht];rfl
     refine qIC ⟨hl.1,hl.2.1,hl.2.2.1,?_⟩
     simp only
     rw [hsz]
     cases hr:tb q.1 with
     |nil=>rw [hr] at h35;cases h35
     |cons c r=>rfl
    |none=>
     simp only
     rw [if_neg (fun e=>e.1 h35)]
     have hw:wd (tb q.1)= []:=by
      cases hr:tb q.1 with
      |nil=>rw [hr] at h35;cases h35
      |cons c r=>
       rw [hr] at h35
       simp only [List.head?_cons,Option.some.injEq] at h35
       subst h35
       rfl
     rw [hw,if_neg (fun e=>H.v0 e.2),if_neg (by rw [H.p0];simp),H.f0]
     exact .inr ⟨rfl,qFS _⟩
   ·rw [if_neg h35]
    simp only
    by_cases h40:(qW [40] (tb q.1,p.2)).1=true
    ·rw [if_pos ⟨h35,h40⟩,if_pos (f1▸h40)]
     have hlt:=qDc (w:= [40]) (by simp) h40
     simp only [qCW] at hlt
     have htb:=qAA (qW [40] (tb q.1,p.2)).2.1
     have hb:=(hB _ (by omega) _ _ (deep+1) 4 f g (by omega) f2 rfl (by omega) (by omega) (by omega) (by omega)).sim
     have e5:(5-((4:Nat):Int))=1:=by omega
     rw [e5] at hb
     exact qP3 (by decide) hb
    ·have n40:¬(sIs [40] (tb q.1,q.2)).1=true:=f1▸h40
     have n34:¬(sIs [34] (tb q.1,q.2)).1=true:=fun e=>h34 (i34.1 e)
     have n35:¬(sIs [35] (tb q.1,q.2)).1=true:=fun e=>h35 (i35.1 e)
     rw [if_neg (fun e=>h40 e.2),if_neg n40,if_neg n34,if_neg n35]
     have hl3:Lk (wr (tb q.1),p.2) (wr (tb q.1),q.2):=⟨hl.1,hl.2.1,hl.2.2.1,rfl⟩
     cases hfn:qFR (wd (tb q.1)) 1 10 with
     |some op=>
      simp only
      obtain ⟨z1,z2⟩:=H.f _ _ hfn
      rw [if_neg (by rw [z1];simp),if_neg (by rw [z2];simp)]
      have hne:1≤(wd (tb q.1)).length:=by
       cases hw:wd (tb q.1) with
       |nil=>rw [hw,H.f0] at hfn;cases hfn
       |cons c t=>simp
      have hlen:(wr (tb q.1)).length+1≤N:=by
       have:=congrArg List.length (wdr (tb q.1))
       simp only [List.length_append] at this
       omega
      obtain ⟨k1,k2⟩:=qJa (c:=40) (by decide) hl3
      cases f with
      |zero=>omega
      |succ f=>
       simp only [pP]
       by_cases ht:(sIs [40] (wr (tb q.1),q.2)).1=true
       ·rw [if_pos ht]
        have em:qCC [40] (wr (tb q.1),p.2)=(qW [40] (wr (tb q.1),p.2)).2:=by
         unfold qCC
         rw [if_neg hpb,if_pos (k1▸ht)]
        rw [em]
        have hlt:=qDc (w:= [40]) (by simp) (k1.symm▸ht)
        have h2:=qAA (wr (tb q.1))
        have h3:=qAA (qW [40] (wr (tb q.1),p.2)).2.1
        simp only at hlt
        exact hC _ (by omega) _ _ deep op [] f g k2 rfl hd (by omega) (by omega) (by omega)
       ·rw [if_neg ht]
        have em:qCC [40] (wr (tb q.1),p.2)=qQb (qW [40] (wr (tb q.1),p.2)).2:=by
         unfold qCC
         rw [if_neg hpb,if_neg (k1▸ht)]
        rw [em]
        exact .inr ⟨rfl,qCv f _ _ (qFS _)⟩
     |none=>
      simp only
      by_cases hw0:wd (tb q.1)= []
      ·rw [hw0,if_neg (fun e=>H.v0 e.2),if_neg (by rw [H.p0];simp),if_neg (fun e=>e.2 rfl),if_neg (by rw [H.p0];simp)]
       exact .inr ⟨rfl,qFS _⟩
      ·by_cases hv:(qj (BR (wd (tb q.1)))).2.2.2=true
       ·rw [if_pos ⟨hv,H.v _ (qQe _) hw0 hv⟩,if_pos ⟨hv,hw0⟩]
        exact qIC hl3
       ·have nv1:¬((qj (BR (wd (tb q.1)))).2.2.2=true∧((qj (BR (wd (tb q.1)))).1=1∨(qj (BR (wd (tb q.1)))).1=3)):=fun e=>hv e.1
        have nv2:¬((qj (BR (wd (tb q.1)))).2.2.2=true∧wd (tb q.1)≠ []):=fun e=>hv e.1
        rw [if_neg nv1,if_neg nv2]
        by_cases hp:(qAv (BR (wd (tb q.1)))).2.2.2.2=true
        ·rw [if_pos hp,if_pos hp]
         exact qIC hl3
        ·rw [if_neg hp,if_neg hp]
         exact .inr ⟨rfl,qFS _⟩
theorem qSY (H:RdOK) (N:Nat):qSS N∧qST N∧qRp N∧qSU N:=by
 induction N using Nat.strongRecOn with
 |ind N ih=>
  have hA:=qSX H N (fun M h=>(ih M h).1) (fun M h=>(ih M h).2.2.1) (fun M h=>(ih M h).2.2.2)
  have hT:=qTc N (fun M h=>(ih M h).2.2.1) (fun M h=>(ih M h).2.1)
  have hB:=qSV N hA (fun M h=>(Nat.lt_or_eq_of_le h).elim (fun h=>(ih M h).2.1) (fun h=>h▸hT))
  exact ⟨hA,hT,hB,qSW H N hB (fun M h=>(ih M h).2.2.2)⟩
theorem qAO (r:List UInt8):(BR r).toList=r:=qAu r
theorem qe (r:List UInt8):(BR r).size=r.length:=by rw [←qAK,qAO]
theorem qEv (s:ByteArray):BR s.toList=s:=qDN (qAO _)
theorem qE5 (r:List UInt8) (a b:Nat):(BR r).extract a b=BR ((r.take b).drop a):=by
 refine qDN ?_
 rw [qAO,Go.Lib.toList_data,ByteArray.data_extract,Array.toList_extract]
 simp [BR,List.extract_eq_take_drop,List.drop_take]
theorem qMV (a b:List UInt8):BR a++BR b=BR (a++b):=by
 refine qDN ?_
 rw [qAO,Go.Lib.toList_data]
 simp [BR]
theorem qSv:∀i:Fin 256,((⟨#[32]⟩:ByteArray).data.toList.contains (UInt8.ofNat i.val))=(UInt8.ofNat i.val==32):=by decide+kernel
def wcS:ByteArray:=⟨#[65,66,67,68,69,70,71,72,73,74,75,76,77,78,79,80,81,82,83,84,85,86,87,88,89,90,48,49,50,51,52,53,54,55,56,57,36]⟩
theorem qSw:∀i:Fin 256,(wcS.data.toList.contains (UInt8.ofNat i.val))=wch (UInt8.ofNat i.val):=by decide+kernel
theorem qQf {f g:UInt8→Bool} (h:∀i:Fin 256,f (UInt8.ofNat i.val)=g (UInt8.ofNat i.val)) (c:UInt8):f c=g c:=by
 have h:=h ⟨c.toNat,UInt8.toNat_lt c⟩
 have e:UInt8.ofNat c.toNat=c:=by simp
 simp only [e] at h
 exact h
theorem qRP (r:List UInt8):Ev (qBM · (BR r) ⟨#[32]⟩) (BR (tb r)):=by
 refine ⟨1,fun n hn=>?_⟩
 obtain ⟨m,rfl,hm⟩:=up1 hn
 show zL (BR r) ⟨#[32]⟩=_
 unfold zL
 rw [if_pos ⟨by decide,by decide+kernel⟩]
 unfold Lib.trimLeftS tb
 have:(fun c=>(⟨#[32]⟩:ByteArray).data.toList.contains c)=(fun c=>c==32):=funext (qQf qSv)
 rw [this]
 rfl
theorem qRQ (r:List UInt8):Ev (qBM · (BR r) ⟨#[65,66,67,68,69,70,71,72,73,74,75,76,77,78,79,80,81,82,83,84,85,86,87,88,89,90,48,49,50,51,52,53,54,55,56,57,36]⟩) (BR (wr r)):=by
 refine ⟨1,fun n hn=>?_⟩
 obtain ⟨m,rfl,hm⟩:=up1 hn
 show zL (BR r) wcS=_
 unfold zL
 rw [if_pos ⟨by decide,by decide+kernel⟩]
 unfold Lib.trimLeftS wr
 have:(fun c=>wcS.data.toList.contains c)=wch:=funext (qQf qSw)
 rw [this]
 rfl
theorem qGx (r:List UInt8) (m:Nat) (b:Bool) (rows:List (List PV)):Ev (qA3 · (BR r) m b rows) (BR (tb r),m,b,rows):=by
 obtain ⟨n1,h1⟩:=qRP r
 refine ⟨n1+1,fun n hn=>?_⟩
 obtain ⟨m,rfl,hm⟩:=up1 hn
 have h1:=h1 m (by omega)
 dsimp only at h1
 simp only [qA3,qDS,qC,qD,qG,qH,qJ,qK,Option.bind_some,qE,qM,qN,h1]
theorem qBf (m:Nat) (s w:List UInt8):qn (m+2) (BR s) (BR w)=some (w.isPrefixOf s):=by
 simp only [qn,qB9,qAC,qAw,qC,qD,qG,qH,qJ,qK,Option.bind_some,qE,qM,qN,qe,qE5,qAO]
 by_cases h:w.length≤s.length
 ·have h1:((s.length:Nat):Int)≥((w.length:Nat):Int):=by omega
  simp [h1,h,List.isPrefixOf_iff_prefix,List.prefix_iff_eq_take]
  by_cases e:w=s.take w.length
  ·simp [←e,List.isPrefixOf_iff_prefix.2 (List.prefix_iff_eq_take.2 e)]
  ·have e2:¬s.take w.length=w:=fun h=>e h.symm
   have e3:w.isPrefixOf s=false:=by
    rw [Bool.eq_false_iff]
    intro hp
    exact e (List.prefix_iff_eq_take.1 (List.isPrefixOf_iff_prefix.1 hp))
   simp [e2,e3]
 ·have h1:¬((s.length:Nat):Int)≥((w.length:Nat):Int):=by omega
  have e3:w.isPrefixOf s=false:=by
   rw [Bool.eq_false_iff]
   intro hp
   exact h (List.isPrefixOf_iff_prefix.1 hp).length_le
  simp [h1,e3]
theorem qQg (s w:List UInt8):Ev (qn · (BR s) (BR w)) (w.isPrefixOf s):=by
 refine ⟨2,fun n hn=>?_⟩
 obtain ⟨m,rfl,hm⟩:=up1 hn
 obtain ⟨m,rfl,hm⟩:=up1 hm
 exact qBf m s w
def qP7:List (List PV):=qEJ.map fun w=> [PV.s (BR w)]
theorem qOx {n:Nat} {r:List UInt8} (m:Nat) (b:Bool) (rows:List (List PV)) (h:∀w∈qEJ,qn n (BR r) (BR w)=some (w.isPrefixOf r)):
  ∀(k i M:Nat),i+k=15→k+1≤M→zC (qCS n) M (15,15,(i:Int),qP7,BR r,m,b,rows)=some (match (qEJ.drop i).find? (fun w=>w.isPrefixOf r) with|some w=> .inl (BR w,BR r,m,b,rows)|none=> .inr (BR r,m,b,rows))
 |k,i,0,h1,h2=>by omega
 |0,i,M+1,h1,h2=>by
  have hi:i=15:=by omega
  subst hi
  rw [qQ (r:= .inr (BR r,m,b,rows)) (by simp [qCS,qC,qD,qG,qH,qJ,qK,Option.bind_some,qE,qM,qN])]
  rfl
 |k+1,i,M+1,h1,h2=>by
  have hi:i<qEJ.length:=by simp [qEJ];omega
  obtain ⟨w,hw⟩:∃w,qEJ[i]?=some w:=⟨_,List.getElem?_eq_getElem hi⟩
  have hR:qP7[i]?=some [PV.s (BR w)]:=by simp [qP7,List.getElem?_map,hw]
  have hl:qP7.length=15:=rfl
  have hc:zp [PV.s (BR w)] 0=some (BR w):=rfl
  have hp:=h w (List.mem_of_getElem? hw)
  have hd:qEJ.drop i=w::qEJ.drop (i+1):=qE4 hw
  have w5:IntKind.i64.wrap ((i:Int)+1)=((i+1:Nat):Int):=by rw [qX (by omega)];omega
  rw [hd]
  simp only [List.find?_cons]
  cases hq:w.isPrefixOf r with
  |true=>
   rw [qQ (r:= .inl (BR w,BR r,m,b,rows)) (by
    refine qF (by simp;omega) (qF (by simp [hl];omega) (qA hR (qA hc (qA (hp.trans (congrArg some hq)) (qF rfl rfl))))))]
  |false=>
   rw [qc (v':=(15,15,((i+1:Nat):Int),qP7,BR r,m,b,rows)) (by
    refine qF (by simp;omega) (qF (by simp [hl];omega) (qA hR (qA hc (qA (hp.trans (congrArg some hq)) (qO rfl ?_)))))
    rw [w5];rfl)]
   exact qOx m b rows h k (i+1) M (by omega) (by omega)
theorem qMW (r:List UInt8) (m:Nat) (b:Bool) (rows:List (List PV)):Ev (qBm · (BR r) m b rows) (BR (sgn (tb r)),BR (tb r),m,b,rows):=by
 obtain ⟨n1,h1⟩:=qGx r m b rows
 obtain ⟨n2,h2⟩:=qCk (F:=fun w n=>qn n (BR (tb r)) (BR w)) (f:=fun w=>w.isPrefixOf (tb r)) qEJ (fun w _=>qQg (tb r) w)
 refine ⟨n1+n2+30,fun n hn=>?_⟩
 obtain ⟨k,rfl,hm⟩:=up1 hn
 have h1:=h1 k (by omega)
 have lp:=qOx m b rows (h2 k (by omega)) 15 0 k rfl (by omega)
 refine qA h1 (qA lp ?_)
 simp only [List.drop_zero]
 unfold sgn
 cases hq:qEJ.find? (fun w=>w.isPrefixOf (tb r)) with
 |some w=>rfl
 |none=>rfl
theorem qQ4 (r:List UInt8):sgn r<+:r:=by
 unfold sgn
 split
 ·rename_i w hw
  have:=List.find?_some hw
  exact List.isPrefixOf_iff_prefix.1 (by simpa using this)
 ·exact List.nil_prefix
theorem qOy (w r:List UInt8) (m:Nat) (b:Bool) (rows:List (List PV)):Ev (qu · (BR w) (BR r) m b rows) (decide (sgn (tb r)=w),BR (if sgn (tb r)=w then (tb r).drop w.length else tb r),m,b,rows):=by
 obtain ⟨n1,h1⟩:=qMW r m b rows
 refine ⟨n1+1,fun n hn=>?_⟩
 obtain ⟨k,rfl,hm⟩:=up1 hn
 refine qA (h1 k (by omega)) ?_
 by_cases h:sgn (tb r)=w
 ·have hp:=(qQ4 (tb r)).length_le
  rw [h] at hp
  refine qO (by simp [qAO,h]) (qF (by simp [qe];omega) ?_)
  rw [qC,qe,qe,qE5]
  simp [h]
 ·refine qF (by simp [qAO,h]) ?_
  rw [qC]
  simp [h]
theorem qRR (r:List UInt8) (m:Nat) (b:Bool) (rows:List (List PV)) (hr:r.length≤1000):Ev (qBN · (BR r) m b rows) (BR (wd (tb r)),BR (wr (tb r)),m,b,rows):=by
 obtain ⟨n1,h1⟩:=qGx r m b rows
 obtain ⟨n2,h2⟩:=qRQ (tb r)
 refine ⟨n1+n2+1,fun n hn=>?_⟩
 obtain ⟨k,rfl,hm⟩:=up1 hn
 have hb:=qAA r
 have hw:=qGY (tb r)
 have hsum:=congrArg List.length (wdr (tb r))
 simp only [List.length_append] at hsum
 have e:IntKind.i64.wrap (((tb r).length:Int)-((wr (tb r)).length:Int))=((wd (tb r)).length:Int):=by rw [qX (by omega)];omega
 refine qA (h1 k (by omega)) (qA (h2 k (by omega)) ?_)
 simp only [qe,e]
 refine qF (by simp;omega) (qF (by simp;omega) ?_)
 rw [qC]
 have t1:(wd (tb r)++wr (tb r)).take (wd (tb r)).length=wd (tb r):=List.take_left ..
 have t2:(wd (tb r)++wr (tb r)).drop (wd (tb r)).length=wr (tb r):=List.drop_left ..
 rw [wdr] at t1 t2
 simp [qE5,t1,t2]
def qFT (p:PS):ByteArray×Nat×Bool×List (List PV):=(BR p.1,p.2.2.length,p.2.1,p.2.2.map qd)
def qGd (r:Int×PS):Int×ByteArray×Nat×Bool×List (List PV):=(r.1,BR r.2.1,r.2.2.2.length,r.2.2.1,r.2.2.2.map qd)
def qOb (c:Nd):Prop:=(kd c).length≤2000∧c.2.2.2.2.1.size≤2000
structure Gd (p:PS):Prop where
 r:p.1.length≤1000
 n:p.2.2.length≤60
 s:∀x∈p.2.2,qOb x
theorem qMX (x:Nd) (p:PS) (h:p.2.2.length≤60):Ev (qv · x.1 x.2.1 x.2.2.1 x.2.2.2.1 x.2.2.2.2.1 x.2.2.2.2.2.1 x.2.2.2.2.2.2.1 x.2.2.2.2.2.2.2.1 x.2.2.2.2.2.2.2.2.1 x.2.2.2.2.2.2.2.2.2.1 x.2.2.2.2.2.2.2.2.2.2.1 x.2.2.2.2.2.2.2.2.2.2.2.1 x.2.2.2.2.2.2.2.2.2.2.2.2.1 ((kd x).map qBE) (BR p.1) p.2.2.length p.2.1 (p.2.2.map qd)) (qGd (qC7 x p)):=by
 obtain ⟨r,b,l⟩:=p
 refine ⟨1,fun n hn=>?_⟩
 obtain ⟨m,rfl,hm⟩:=up1 hn
 replace h:l.length≤60:=h
 show qv (m+1) _ _ _ _ _ _ _ _ _ _ _ _ _ _ (BR r) l.length b (l.map qd)=_
 unfold qC7
 have w1:IntKind.i64.wrap (((l.length:Nat):Int)-1)=(l.length:Int)-1:=qX (by omega)
 have w2:IntKind.i64.wrap ((((l.length+1):Nat):Int)-1)=(l.length:Int):=by rw [qX (by omega)];omega
 cases b with
 |true=>
  rw [if_pos (.inl rfl)]
  refine qF rfl (qO rfl ?_)
  rw [qC,w1]
  rfl
 |false=>
  by_cases h6:60≤l.length
  ·rw [if_pos (.inr h6)]
   have d:decide (((l.length:Nat):Int)≥60)=true:=decide_eq_true (by omega)
   refine qO rfl (qO (by rw [d];rfl) ?_)
   rw [qC,w1,d]
   rfl
  ·have hn:¬(((r,false,l):PS).2.1=true∨60≤((r,false,l):PS).2.2.length):=by
    intro hh
    rcases hh with hh|hh
    ·exact absurd hh (by simp)
    ·exact h6 hh
   rw [if_neg hn]
   have d:decide (((l.length:Nat):Int)≥60)=false:=decide_eq_false (by omega)
   refine qO rfl (qF (by rw [d];rfl) (qF rfl (qF (decide_eq_true ⟨by simp,by decide,by decide,by simp;omega,rfl⟩) ?_)))
   rw [qC,w2,d]
   simp only [qGd,List.map_append,List.length_append]
   rfl
theorem qJO (v:V3) (p:PS) (h:p.2.2.length≤60):Ev (qm · v.1 v.2.1 v.2.2 (BR p.1) p.2.2.length p.2.1 (p.2.2.map qd)) (qGd (qC7 (nd1 v) p)):=by
 obtain ⟨n1,h1⟩:=qMX (nd1 v) p h
 refine ⟨n1+1,fun n hn=>?_⟩
 obtain ⟨k,rfl,hm⟩:=up1 hn
 exact qA (h1 k (by omega)) rfl
theorem qGZ {x:Nd} {p:PS} (h:Gd p) (hx:qOb x):Gd (qC7 x p).2:=by
 unfold qC7
 split
 ·exact ⟨h.r,h.n,h.s⟩
 ·rename_i hh
  refine ⟨h.r,?_,fun y hy=>?_⟩
  ·have:¬60≤p.2.2.length:=fun e=>hh (.inr e)
   simp;omega
  ·simp at hy
   rcases hy with hy|rfl
   ·exact h.s _ hy
   ·exact hx
theorem qCp {w:List UInt8} {p:PS} (h:Gd p):Gd (qW w p).2:=by
 have:=qIA w p
 have h2:=qAA p.1
 have h3:=h.r
 refine ⟨by omega,?_,?_⟩
 ·unfold qW;split<;>exact h.n
 ·unfold qW;split<;>exact h.s
theorem qFw (w:List UInt8) (p:PS):Ev (qu · (BR w) (BR p.1) p.2.2.length p.2.1 (p.2.2.map qd)) ((qW w p).1,qFT (qW w p).2):=by
 obtain ⟨n1,h1⟩:=qOy w p.1 p.2.2.length p.2.1 (p.2.2.map qd)
 refine ⟨n1,fun n hn=>?_⟩
 have h1:=h1 n hn
 unfold qW
 by_cases h:sgn (tb p.1)=w
 ·simp only [h,if_true,decide_true] at h1
  rw [if_pos h];exact h1
 ·simp only [h,if_false,decide_false] at h1
  rw [if_neg h];exact h1
theorem qPV (p:PS) (h:p.1.length≤1000):Ev (qBN · (BR p.1) p.2.2.length p.2.1 (p.2.2.map qd)) (BR (wd (tb p.1)),qFT (wr (tb p.1),p.2)):=qRR p.1 _ _ _ h
theorem qPW (r:List UInt8):(wd r).length≤r.length:=by
 have:=congrArg List.length (wdr r)
 simp only [List.length_append] at this
 omega
theorem qRq (r:List UInt8) (h:r.length≤1000):Ev (qAk · (BR (wd (tb r)))) (qAv (BR (wd (tb r)))):=qLK _ (by rw [qe];have:=qPW (tb r);have:=qAA r;omega)
theorem qTN (r:List UInt8) (h:r.length≤1000):Ev (qZ · (BR (wd (tb r)))) (qj (BR (wd (tb r)))):=qEn _ (by rw [qe];have:=qPW (tb r);have:=qAA r;omega)
theorem qP8 (c:UInt8) (t:List UInt8):Lib.cut (c::t) [34]=if c=34 then ([],t,true) else (c::(Lib.cut t [34]).1,(Lib.cut t [34]).2.1,(Lib.cut t [34]).2.2):=by
 by_cases h:c=34
 ·subst h
  rw [if_pos rfl]
  simp [Lib.cut,Lib.index,List.isPrefixOf]
 ·rw [if_neg h]
  have h':¬34=c:=fun e=>h e.symm
  have g:=Lib.index_ge t [34]
  unfold Lib.cut
  by_cases e:Lib.index t [34]= -1
  ·have:Lib.index (c::t) [34]= -1:=by simp [Lib.index,List.isPrefixOf,h',e]
   simp [this,e]
  ·have:Lib.index (c::t) [34]=Lib.index t [34]+1:=by simp [Lib.index,List.isPrefixOf,h',e]
   have p:0≤Lib.index t [34]:=by omega
   have p1:0≤Lib.index t [34]+1:=by omega
   have q:(Lib.index t [34]+1).toNat=(Lib.index t [34]).toNat+1:=by omega
   simp [this,p,p1,q]
theorem qSZ (acc t:List UInt8):qBx acc (34::34::t)=qBx (acc++ [34]) t:=(qBx.eq_def acc _).trans (by simp)
theorem qSa (acc t:List UInt8) (h:t.head?≠some 34):qBx acc (34::t)=some (acc,t):=by
 refine (qBx.eq_def acc _).trans ?_
 cases t with
 |nil=>simp
 |cons d t=>
  have:¬d=34:=fun e=>h (by rw [e];rfl)
  simp [this]
theorem qSb (acc t:List UInt8) {c:UInt8} (h:¬c=34):qBx acc (c::t)=qBx (acc++ [c]) t:=(qBx.eq_def acc _).trans (by simp only [if_neg h])
theorem up3 {n n0:Nat} (h:n0+3≤n):∃m,n=m+3∧n0≤m:=⟨n-3,by omega,by omega⟩
theorem qOz:∀(r acc:List UInt8),qBx acc r=if (Lib.cut r [34]).2.2=true then (if (Lib.cut r [34]).2.1.head?=some 34 then qBx (acc++(Lib.cut r [34]).1++ [34]) (Lib.cut r [34]).2.1.tail else some (acc++(Lib.cut r [34]).1,(Lib.cut r [34]).2.1)) else none
 | [],acc=>by simp [qBx,Lib.cut,Lib.index]
 |c::t,acc=>by
  rw [qP8]
  by_cases h:c=34
  ·subst h
   rw [if_pos rfl]
   by_cases e:t.head?=some 34
   ·obtain ⟨u,rfl⟩:∃u,t=34::u:=by
     cases t with
     |nil=>cases e
     |cons d u=>simp at e;subst e;exact ⟨u,rfl⟩
    rw [qSZ];simp
   ·rw [qSa acc t e];simp [e]
  ·simp only [if_neg h]
   rw [qSb acc t h,qOz t (acc++ [c])]
   simp
theorem qQ5:∀r:List UInt8,(Lib.cut r [34]).1.length+(Lib.cut r [34]).2.1.length≤r.length∧((Lib.cut r [34]).2.2=true→(Lib.cut r [34]).2.1.length<r.length)
 | []=>by simp [Lib.cut,Lib.index]
 |c::t=>by
  rw [qP8]
  have ih:=qQ5 t
  split
  ·simp
  ·simp only [List.length_cons]
   exact ⟨by omega,fun h=>by have:=ih.2 h;omega⟩
theorem qGa:∀(k:Nat) (acc r:List UInt8) {s t:List UInt8},r.length≤k→qBx acc r=some (s,t)→s.length≤acc.length+r.length+1
 |k,acc,[],s,t,hk,h=>by simp [qBx] at h
 |0,acc,c::r,s,t,hk,h=>by simp at hk
 |k+1,acc,c::r,s,t,hk,h=>by
  simp only [List.length_cons] at hk
  unfold qBx at h
  split at h
  ·cases r with
   |nil=>
    simp at h
    rw [←h.1];simp;omega
   |cons d r'=>
    simp only at h
    split at h
    ·have:=qGa k _ r' (by simp at hk;omega) h
     simp at this⊢;omega
    ·simp at h
     rw [←h.1];simp;omega
  ·have:=qGa k _ r (by omega) h
   simp at this⊢;omega
theorem qSx (m:Nat) (r:List UInt8) (h:r.length≤1000):qG2 (m+1) (BR r) ⟨#[34]⟩=some (BR (Lib.cut r [34]).1,BR (Lib.cut r [34]).2.1,(Lib.cut r [34]).2.2):=by
 show zAK (BR r) ⟨#[34]⟩=_
 unfold zAK
 rw [if_pos (by rw [qe];omega),←Go.Lib.toList_data (BR r),qAO]
 rfl
theorem qMg (n:Nat) (orig:ByteArray) (m:Nat) (b:Bool) (rows:List (List PV)):∀(k:Nat) (r acc:List UInt8) (M:Nat),r.length≤k→acc.length+r.length≤1000→k+1≤M→
  zC (qCy (n+2)) M (BR acc,BR r,orig,m,b,rows)=some (match qBx acc r with
   |none=> .inl (-1,orig,m,true,rows)
   |some (s,t)=> .inr (BR s,BR t,orig,m,b,rows))
 |k,r,acc,0,h1,h2,h3=>by omega
 |k,r,acc,M+1,h1,h2,h3=>by
  have hc:=qSx (n+1) r (by omega)
  have hl:=qQ5 r
  have hp:=qBf n (Lib.cut r [34]).2.1 [34]
  rw [qOz]
  cases hf:(Lib.cut r [34]).2.2 with
  |false=>
   rw [if_neg (by simp)]
   refine (qQ (r:= .inl (-1,orig,m,true,rows)) ?_).trans rfl
   refine qA hc (qF (by simp [hf]) rfl)
  |true=>
   rw [if_pos rfl]
   have hlt:=hl.2 hf
   by_cases hh:(Lib.cut r [34]).2.1.head?=some 34
   ·rw [if_pos hh]
    have hb:List.isPrefixOf [34] (Lib.cut r [34]).2.1=true:=(qDJ 34 _).2 hh
    obtain ⟨u,hu⟩:∃u,(Lib.cut r [34]).2.1=34::u:=by
     cases e:(Lib.cut r [34]).2.1 with
     |nil=>rw [e] at hh;cases hh
     |cons c u=>rw [e] at hh;simp at hh;subst hh;exact ⟨u,rfl⟩
    rw [hb] at hp
    rw [qc (v':=(BR (acc++(Lib.cut r [34]).1++ [34]),BR (Lib.cut r [34]).2.1.tail,orig,m,b,rows)) (by
     refine qA hc (qO (by simp [hf]) (qF (decide_eq_true (by rw [qe,qe];omega)) (qA hp (qO rfl (qF (decide_eq_true (by rw [qMV,qe,List.length_append];show _+1≤9223372036854775807;omega)) (qF (decide_eq_true ⟨by decide,by simp only [qe];rw [hu];simp;omega,by simp [qe]⟩) ?_))))))
     rw [qC]
     simp only [qMV,qe,qE5]
     rw [hu]
     simp
     exact (qMV (acc++(Lib.cut r [34]).1) [34]).trans (by rw [List.append_assoc]))]
    rw [hu] at hl hlt⊢
    simp only [List.length_cons] at hl hlt
    refine qMg n orig m b rows (k-1) _ _ M (by simp;omega) (by simp;omega) (by omega)
   ·rw [if_neg hh]
    have hb:List.isPrefixOf [34] (Lib.cut r [34]).2.1=false:=by
     rw [Bool.eq_false_iff];intro e;exact hh ((qDJ 34 _).1 e)
    rw [hb] at hp
    refine (qQ (r:= .inr (BR (acc++(Lib.cut r [34]).1),BR (Lib.cut r [34]).2.1,orig,m,b,rows)) ?_).trans rfl
    refine qA hc (qO (by simp [hf]) (qF (decide_eq_true (by rw [qe,qe];omega)) (qA hp (qF rfl ?_))))
    rw [qC,qMV]
theorem qRS (t:List UInt8) (b:Bool) (l:List Nd) (h:t.length≤999) (hl:l.length≤60):Ev (qDT · (BR (34::t)) l.length b (l.map qd)) (qGd (match qBx [] t with
   |none=>(-1,34::t,true,l)
   |some (s,t')=>qC7 (nd1 (2,0,BR s)) (t',b,l))):=by
 have lp:=fun n M (hM:t.length+1≤M)=>qMg n (BR (34::t)) l.length b (l.map qd) t.length t [] M (Nat.le_refl _) (by simp;omega) hM
 cases hq:qBx [] t with
 |none=>
  refine ⟨t.length+1+3,fun n hn=>?_⟩
  obtain ⟨m,rfl,hm⟩:=up3 hn
  have lp:=lp m (m+2) (by omega)
  rw [hq] at lp
  refine qF (decide_eq_true ⟨by decide,by rw [qe];simp;omega,Int.le_refl _⟩) ?_
  have e:(BR (34::t)).extract ((1:Int)).toNat ((((BR (34::t)).size:Nat):Int)).toNat=BR t:=by rw [qE5,qe];simp
  rw [e]
  exact qA lp rfl
 |some st=>
  obtain ⟨s,t'⟩:=st
  obtain ⟨n1,h1⟩:=qJO (2,0,BR s) (t',b,l) hl
  refine ⟨n1+t.length+1+3,fun n hn=>?_⟩
  obtain ⟨m,rfl,hm⟩:=up3 hn
  have lp:=lp m (m+2) (by omega)
  rw [hq] at lp
  refine qF (decide_eq_true ⟨by decide,by rw [qe];simp;omega,Int.le_refl _⟩) ?_
  have e:(BR (34::t)).extract ((1:Int)).toNat ((((BR (34::t)).size:Nat):Int)).toNat=BR t:=by rw [qE5,qe];simp
  rw [e]
  exact qA lp (qA (h1 (m+2) (by omega)) rfl)
theorem qSc (m:Nat) (r:List UInt8) (w:ByteArray):qAG (m+1) (BR r) w=some (BR (if w.toList.isPrefixOf r=true then r.drop w.size else r),w.toList.isPrefixOf r):=by
 show zT (BR r) w=_
 unfold zT Lib.trimPrefix Lib.hasPrefix
 rw [←Go.Lib.toList_data (BR r),←Go.Lib.toList_data w,qAO,qAK]
 rfl
theorem qP9 {n:Nat} (deep:Int) (r:List UInt8) (b:Bool) (l:List Nd)
  (h1:∀i,0≤i∧i≤5→qAj n i=some (qY i)) (h2:∀i,1≤i∧i≤5→qBy n i=some (4,i,em))
  (h3:∀w,qAG n (BR r) w=some (BR (if w.toList.isPrefixOf r=true then r.drop w.size else r),w.toList.isPrefixOf r))
  (h4:∀i,1≤i∧i≤5→qm n 4 i em (BR (r.drop (qY i).size)) l.length b (l.map qd)=some (qGd (qC7 (nd1 (4,i,em)) (r.drop (qY i).size,b,l)))):
  ∀(k:Nat) (i:Int) (M:Nat),1≤i→i+k=6→k+1≤M→zC (qCD n) M (deep,i,BR r,l.length,b,l.map qd)=some (match qGw r i k with
   |some e=> .inl (qGd (qC7 (nd1 (4,e,em)) (r.drop (qY e).size,b,l)))
   |none=> .inr (deep,BR r,l.length,b,l.map qd))
 |k,i,0,_,_,h=>by omega
 |0,i,M+1,hi,hk,h=>by
  rw [qQ (r:= .inr (deep,BR r,l.length,b,l.map qd)) (by exact qO (decide_eq_false (show ¬i≤5 by omega)) rfl)]
  rfl
 |k+1,i,M+1,hi,hk,h=>by
  have hi5:1≤i∧i≤5:=⟨hi,by omega⟩
  have c:=h3 (qY i)
  cases hq:(qY i).toList.isPrefixOf r with
  |true=>
   rw [hq,if_pos rfl] at c
   unfold qGw
   rw [if_pos hq]
   refine qQ (qF (decide_eq_true (show i≤5 by omega)) (qA (h1 i ⟨by omega,by omega⟩) (qA c (qF rfl (qA (h2 i hi5) (qA (h4 i hi5) rfl))))))
  |false=>
   rw [hq,if_neg (by simp)] at c
   unfold qGw
   rw [if_neg (by rw [hq];simp)]
   have w1:IntKind.i64.wrap (i+1)=i+1:=qX (by omega)
   rw [qc (v':=(deep,i+1,BR r,l.length,b,l.map qd)) (by refine qF (decide_eq_true (show i≤5 by omega)) (qA (h1 i ⟨by omega,by omega⟩) (qA c (qO rfl ?_)));rw [qC,w1])]
   exact qP9 deep r b l h1 h2 h3 h4 k (i+1) M (by omega) (by omega) (by omega)
theorem qSy (deep:Int) (r:List UInt8) (b:Bool) (l:List Nd) (hl:l.length≤60):∃n0,∀n,n0≤n→∀M,n0≤M→zC (qCD n) M (deep,1,BR r,l.length,b,l.map qd)=some (match qGw r 1 5 with
   |some e=> .inl (qGd (qC7 (nd1 (4,e,em)) (r.drop (qY e).size,b,l)))
   |none=> .inr (deep,BR r,l.length,b,l.map qd)):=by
 obtain ⟨n1,h1⟩:=qFu (F:=qAj) (f:=qY) (lo:=0) (by decide) qEl
 obtain ⟨n2,h2⟩:=qFu (F:=qBy) (f:=fun i=>(4,i,em)) (lo:=1) (by decide) (fun i _=>qJ7 i)
 obtain ⟨n4,h4⟩:=qFu (F:=fun n i=>qm n 4 i em (BR (r.drop (qY i).size)) l.length b (l.map qd)) (f:=fun i=>qGd (qC7 (nd1 (4,i,em)) (r.drop (qY i).size,b,l))) (lo:=1) (by decide) (fun i _=>qJO (4,i,em) (r.drop (qY i).size,b,l) hl)
 refine ⟨n1+n2+n4+7,fun n hn M hM=>?_⟩
 exact qP9 deep r b l (h1 n (by omega)) (h2 n (by omega)) (fun w=>by
  obtain ⟨m,rfl,_⟩:=up1 (show n1+1≤n by omega)
  exact qSc m r w) (h4 n (by omega)) 5 1 M (by omega) (by omega) (by omega)
theorem qQ6 {g:G_impl_reader_binary} {n:Nat} (deep:Int) (w:List UInt8) (p:PS) (res:Int→Int×PS) (h1:∀i,1≤i∧i≤10→qCH n i=some (fnS i)):
  ∀(k:Nat) (i:Int) (M:Nat),1≤i→i+k=11→k+1≤M→(∀op,qFR w i k=some op→g.impl_reader_call op deep (BR p.1) p.2.2.length p.2.1 (p.2.2.map qd)=some (qGd (res op)))→
   zC (qAo g n) M (deep,BR w,i,BR p.1,p.2.2.length,p.2.1,p.2.2.map qd)=some (match qFR w i k with
   |some op=> .inl (qGd (res op))
   |none=> .inr (qFT p))
 |k,i,0,_,_,h,_=>by omega
 |0,i,M+1,hi,hk,h,_=>by
  rw [qQ (r:= .inr (qFT p)) (by exact qO (decide_eq_false (show ¬i≤10 by omega)) rfl)]
  rfl
 |k+1,i,M+1,hi,hk,h,hc=>by
  unfold qFR at hc⊢
  by_cases hq:(fnS i).toList=w
  ·rw [if_pos hq] at hc⊢
   refine qQ (qF (decide_eq_true (show i≤10 by omega)) (qA (h1 i ⟨hi,by omega⟩) (qF (by simp [qAO,hq]) (qA (hc i rfl) rfl))))
  ·rw [if_neg hq] at hc⊢
   have w1:IntKind.i64.wrap (i+1)=i+1:=qX (by omega)
   have hq':¬w=(fnS i).toList:=fun e=>hq e.symm
   rw [qc (v':=(deep,BR w,i+1,BR p.1,p.2.2.length,p.2.1,p.2.2.map qd)) (by refine qF (decide_eq_true (show i≤10 by omega)) (qA (h1 i ⟨hi,by omega⟩) (qO (by simp [qAO,hq']) ?_));rw [qC,w1])]
   exact qQ6 deep w p res h1 k (i+1) M (by omega) (by omega) (by omega) hc
theorem qSz:∃n0,∀n,n0≤n→∀i,1≤i∧i≤10→qCH n i=some (fnS i):=by
 obtain ⟨n1,h1⟩:=qCk (F:=fun (i:Nat) n=>qCH n ((i:Int)+1)) (f:=fun i=>fnS ((i:Int)+1)) (List.range 10) (fun i hi=>qJK _ (by have:=List.mem_range.1 hi;omega))
 refine ⟨n1,fun n hn i hi=>?_⟩
 have:=h1 n hn (i-1).toNat (List.mem_range.2 (by omega))
 rwa [show (((i-1).toNat:Nat):Int)+1=i by omega] at this
theorem qS0:∃n0,∀n,n0≤n→∀i,1≤i∧i≤11→qBW n i=some (qo i):=by
 obtain ⟨n1,h1⟩:=qCk (F:=fun (i:Nat) n=>qBW n ((i:Int)+1)) (f:=fun i=>qo ((i:Int)+1)) (List.range 11) (fun i hi=>qGX _ (by have:=List.mem_range.1 hi;omega))
 refine ⟨n1,fun n hn i hi=>?_⟩
 have:=h1 n hn (i-1).toNat (List.mem_range.2 (by omega))
 rwa [show (((i-1).toNat:Nat):Int)+1=i by omega] at this
def opF (s:List UInt8):Int→Int→Nat→Int
 |op,_,0=>op
 |op,i,k+1=>opF s (if s=(qo i).toList then i else op) (i+1) k
theorem qS1 (r:List UInt8):opF (sgn r) 0 1 11=qAS r:=by
 unfold qAS
 generalize sgn r=s
 by_cases h1:s= [43]; · subst h1;decide+kernel
 by_cases h2:s= [45]; · subst h2;decide+kernel
 by_cases h3:s= [42]; · subst h3;decide+kernel
 by_cases h4:s= [47]; · subst h4;decide+kernel
 by_cases h5:s= [38]; · subst h5;decide+kernel
 by_cases h6:s= [61]; · subst h6;decide+kernel
 by_cases h7:s= [60,62]; · subst h7;decide+kernel
 by_cases h8:s= [60]; · subst h8;decide+kernel
 by_cases h9:s= [60,61]; · subst h9;decide+kernel
 by_cases h10:s= [62]; · subst h10;decide+kernel
 by_cases h11:s= [62,61]; · subst h11;decide+kernel
 rw [if_neg h1,if_neg h2,if_neg h3,if_neg h4,if_neg h5,if_neg h6,if_neg h7,if_neg h8,if_neg h9,if_neg h10,if_neg h11]
 rw [←sg1] at h1;rw [←sg2] at h2;rw [←sg3] at h3;rw [←sg4] at h4;rw [←sg5] at h5;rw [←sg6] at h6;rw [←sg7] at h7;rw [←sg8] at h8;rw [←sg9] at h9;rw [←qQc] at h10;rw [←qQd] at h11
 simp only [opF,if_neg h1]
 simp only [show (1:Int)+1=2 from rfl,if_neg h2,show (2:Int)+1=3 from rfl,if_neg h3,show (3:Int)+1=4 from rfl,if_neg h4,show (4:Int)+1=5 from rfl,if_neg h5,show (5:Int)+1=6 from rfl,if_neg h6,show (6:Int)+1=7 from rfl,if_neg h7,show (7:Int)+1=8 from rfl,if_neg h8,show (8:Int)+1=9 from rfl,if_neg h9,show (9:Int)+1=10 from rfl,if_neg h10,show (10:Int)+1=11 from rfl,if_neg h11]
theorem qQA {n:Nat} (least deep a op i:Int) (r R:List UInt8) (m:Nat) (b:Bool) (rows:List (List PV)) (hi:1≤i∧i≤11)
  (h1:qBm n (BR r) m b rows=some (BR (sgn R),BR R,m,b,rows)) (h2:qBW n i=some (qo i)):
  (qBK n (least,deep,a,op,i,BR r,m,b,rows)).run=some (.inl (least,deep,a,if sgn R=(qo i).toList then i else op,i+1,BR R,m,b,rows)):=by
 have w1:IntKind.i64.wrap (i+1)=i+1:=qX (by omega)
 refine qF (decide_eq_true (show i≤11 by omega)) (qA h1 (qA h2 ?_))
 by_cases hq:sgn R=(qo i).toList
 ·rw [if_pos hq]
  exact qF (by simp [qAO,hq]) (by rw [qC,w1])
 ·rw [if_neg hq]
  exact qO (by simp [qAO,hq]) (by rw [qC,w1])
theorem qQB {n:Nat} (least deep a:Int) (R:List UInt8) (m:Nat) (b:Bool) (rows:List (List PV))
  (h1:qBm n (BR R) m b rows=some (BR (sgn R),BR R,m,b,rows)) (h2:∀i,1≤i∧i≤11→qBW n i=some (qo i)):
  ∀(k:Nat) (op i:Int) (M:Nat),1≤i→i+k=12→k+1≤M→zC (qBK n) M (least,deep,a,op,i,BR R,m,b,rows)=some (least,deep,a,opF (sgn R) op i k,BR R,m,b,rows)
 |k,op,i,0,_,_,h=>by omega
 |0,op,i,M+1,hi,hk,h=>by
  rw [qQ (r:=(least,deep,a,op,BR R,m,b,rows)) (by exact qO (decide_eq_false (show ¬i≤11 by omega)) rfl)]
  rfl
 |k+1,op,i,M+1,hi,hk,h=>by
  rw [qc (qQA least deep a op i R R m b rows ⟨hi,by omega⟩ h1 (h2 i ⟨hi,by omega⟩))]
  exact qQB least deep a R m b rows h1 h2 k _ (i+1) M (by omega) (by omega) (by omega)
theorem qSd (least deep a:Int) (r:List UInt8) (m:Nat) (b:Bool) (rows:List (List PV)):∃n0,∀n,n0≤n→∀M,n0≤M→zC (qBK n) M (least,deep,a,0,1,BR r,m,b,rows)=some (least,deep,a,qAS (tb r),BR (tb r),m,b,rows):=by
 obtain ⟨n1,h1⟩:=qMW r m b rows
 obtain ⟨n2,h2⟩:=qMW (tb r) m b rows
 obtain ⟨n3,h3⟩:=qS0
 refine ⟨n1+n2+n3+20,fun n hn M hM=>?_⟩
 obtain ⟨M,rfl,hM⟩:=up1 hM
 have h2:=h2 n (by omega)
 rw [qCW] at h2
 rw [qc (qQA least deep a 0 1 r (tb r) m b rows (by omega) (h1 n (by omega)) (h3 n (by omega) 1 (by omega)))]
 rw [show (1:Int)+1=2 from rfl,qQB least deep a (tb r) m b rows h2 (h3 n (by omega)) 10 _ 2 M (by omega) (by omega) (by omega),←qS1]
 rfl
theorem qQ7 {p:PS} (h:Gd p):Gd (qA1 p).2∧(qA1 p).2.1.length≤p.1.length∧∀x,(qA1 p).1=some x→qOb x:=by
 have h1:=qAA p.1
 have h2:=qGY (tb p.1)
 have h0:=h.r
 unfold qA1
 simp only
 split
 ·have h3:=qIA [58] (wr (tb p.1),p.2)
  have h4:=qAA (qW [58] (wr (tb p.1),p.2)).2.1
  have h5:=qGY (tb (qW [58] (wr (tb p.1),p.2)).2.1)
  have h6:=qAA (wr (tb p.1))
  have e:(qW [58] (wr (tb p.1),p.2)).2.2.2=p.2.2:=by unfold qW;split<;>rfl
  simp only at h3
  refine ⟨⟨by simp only;omega,by rw [e];exact h.n,by rw [e];exact h.s⟩,by simp only;omega,fun x hx=>?_⟩
  cases hx
  exact ⟨by simp [kd,ndA],by simp [ndA,em];decide⟩
 ·exact ⟨h,Nat.le_refl _,fun x hx=>by cases hx⟩
theorem qSe (p:PS) (h:p.1.length≤1000):∃x:Nd,(∀y,(qA1 p).1=some y→x=y)∧Ev (qC9 · (BR p.1) p.2.2.length p.2.1 (p.2.2.map qd)) (x.1,x.2.1,x.2.2.1,x.2.2.2.1,x.2.2.2.2.1,x.2.2.2.2.2.1,x.2.2.2.2.2.2.1,x.2.2.2.2.2.2.2.1,x.2.2.2.2.2.2.2.2.1,x.2.2.2.2.2.2.2.2.2.1,x.2.2.2.2.2.2.2.2.2.2.1,x.2.2.2.2.2.2.2.2.2.2.2.1,x.2.2.2.2.2.2.2.2.2.2.2.2.1,(kd x).map qBE,(qA1 p).1.isSome,qFT (qA1 p).2):=by
 have l1:=qAA p.1
 have l2:=qGY (tb p.1)
 have l3:=qIA [58] (wr (tb p.1),p.2)
 have l6:=qAA (wr (tb p.1))
 simp only at l3
 obtain ⟨n1,h1⟩:=qPV p h
 obtain ⟨n2,h2⟩:=qRq p.1 h
 obtain ⟨n3,h3⟩:=qFw [58] (wr (tb p.1),p.2)
 have hle:(qW [58] (wr (tb p.1),p.2)).2.1.length≤1000:=by omega
 obtain ⟨n4,h4⟩:=qPV (qW [58] (wr (tb p.1),p.2)).2 hle
 obtain ⟨n5,h5⟩:=qRq (qW [58] (wr (tb p.1),p.2)).2.1 hle
 have e:(qW [58] (wr (tb p.1),p.2)).2.2=p.2:=by unfold qW;split<;>rfl
 unfold qA1
 simp only
 by_cases hc:(qAv (BR (wd (tb p.1)))).2.2.2.2=true∧(qW [58] (wr (tb p.1),p.2)).1=true
 ·rw [if_pos hc]
  refine ⟨_,fun y hy=>by cases hy;rfl,n1+n2+n3+n4+n5+1,fun n hn=>?_⟩
  obtain ⟨k,rfl,hm⟩:=up1 hn
  refine qA (h1 k (by omega)) (qA (h2 k (by omega)) (qF hc.1 (qA (h3 k (by omega)) (qO (by simp only;rw [hc.2];rfl) (qA (h4 k (by omega)) (qA (h5 k (by omega)) ?_))))))
  cases hb:(qW [58] (wr (tb p.1),p.2)).2.2.1 with
  |true=>
   refine qF hb ?_
   rw [qC];rfl
  |false=>
   refine qO hb ?_
   rw [qC];rfl
 ·rw [if_neg hc]
  refine ⟨(0,0,0,0,⟨#[]⟩,0,0,false,false,0,0,false,false,[]),fun y hy=>(by cases hy),n1+n2+n3+1,fun n hn=>?_⟩
  obtain ⟨k,rfl,hm⟩:=up1 hn
  cases hr:(qAv (BR (wd (tb p.1)))).2.2.2.2 with
  |false=>exact qA (h1 k (by omega)) (qA (h2 k (by omega)) (qO hr rfl))
  |true=>
   have ht:(qW [58] (wr (tb p.1),p.2)).1=false:=by
    rw [Bool.eq_false_iff];exact fun e=>hc ⟨hr,e⟩
   refine qA (h1 k (by omega)) (qA (h2 k (by omega)) (qF hr (qA (h3 k (by omega)) (qF (by simp only;rw [ht];rfl) ?_))))
   rw [qC]
   simp only [qFT,e]
   rfl
theorem qJP {s:ByteArray} (h:(qj s).2.2.2=true) (hk:(qj s).1=1∨(qj s).1=3):(qj s).2.2.1.size≤2000:=by
 unfold qj at h hk⊢
 split at h
 ·rename_i hc
  rw [if_pos hc] at hk⊢
  have h1:=hc.1
  unfold okV at h1
  have h2:¬(qAy s).1=2:=by
   simp only at hk
   omega
  rw [if_neg h2] at h1
  simp only [Bool.and_eq_true,beq_iff_eq] at h1
  have:=congrArg List.length h1.1
  rw [qAK] at this
  have h0:(qAy s).2.2.size=0:=this
  show (qAy s).2.2.size≤2000
  omega
 ·cases h
def Kj:PJ→PS→Prop
 | .args _ _ kids,p=>kids.length+p.1.length≤1500
 |_,_=>True
theorem qJb {w:List UInt8} {p:PS} (h:Gd p):Gd (qCC w p)∧(qCC w p).1.length≤p.1.length:=by
 have h1:=qIA w p
 have h2:=qAA p.1
 unfold qCC
 split
 ·exact ⟨h,Nat.le_refl _⟩
 ·split
  ·exact ⟨qCp h,by omega⟩
  ·exact ⟨⟨(qCp h).r,(qCp h).n,(qCp h).s⟩,by show (qW w p).2.1.length≤_;omega⟩
theorem qLT {p:PS} {r:List UInt8} (h:Gd p) (hr:r.length≤p.1.length):Gd (r,p.2):=⟨by have:=h.r;simp only;omega,h.n,h.s⟩
theorem qEw:∀(f:Nat) (j:PJ) (p:PS),Gd p→Kj j p→Gd (pP f j p).2∧(pP f j p).2.1.length≤p.1.length
 |0,j,p,h,_=>⟨h,Nat.le_refl _⟩
 |f+1,.bin least deep,p,h,_=>by
  unfold pP
  have a:=qEw f (.un deep) p h trivial
  have b:=qEw f (.loop least deep (pP f (.un deep) p).1) (pP f (.un deep) p).2 a.1 trivial
  exact ⟨b.1,Nat.le_trans b.2 a.2⟩
 |f+1,.loop least deep a,p,h,_=>by
  have h1:=qAA p.1
  unfold pP
  split
  ·exact ⟨h,Nat.le_refl _⟩
  ·split
   ·exact ⟨qLT h h1,h1⟩
   ·have l1:((tb p.1).drop (sgn (tb p.1)).length).length≤p.1.length:=by simp;omega
    have b:=qEw f (.bin (lvl (qAS (tb p.1))+1) deep) ((tb p.1).drop (sgn (tb p.1)).length,p.2) (qLT h l1) trivial
    simp only
    have c:=qGZ (x:=ndK 5 (qAS (tb p.1)) [a,(pP f (.bin (lvl (qAS (tb p.1))+1) deep) ((tb p.1).drop (sgn (tb p.1)).length,p.2)).1]) b.1 ⟨by simp [kd,ndK],by simp [ndK,em];decide⟩
    have d:=qEw f (.loop least deep (qC7 (ndK 5 (qAS (tb p.1)) [a,(pP f (.bin (lvl (qAS (tb p.1))+1) deep) ((tb p.1).drop (sgn (tb p.1)).length,p.2)).1]) (pP f (.bin (lvl (qAS (tb p.1))+1) deep) ((tb p.1).drop (sgn (tb p.1)).length,p.2)).2).1) _ c trivial
    refine ⟨d.1,Nat.le_trans d.2 ?_⟩
    rw [qA5]
    exact Nat.le_trans b.2 l1
 |f+1,.un deep,p,h,_=>by
  have h1:=qAA p.1
  have h2:=qIA [45] p
  unfold pP
  split
  ·exact ⟨⟨h.r,h.n,h.s⟩,Nat.le_refl _⟩
  ·split
   ·simp only
    have b:=qEw f (.un (deep+1)) (qW [45] p).2 (qCp h) trivial
    refine ⟨qGZ b.1 ⟨by simp [kd,ndK],by simp [ndK,em];decide⟩,?_⟩
    rw [qA5]
    exact Nat.le_trans b.2 (by omega)
   ·have b:=qEw f (.at deep) (qW [45] p).2 (qCp h) trivial
    exact ⟨b.1,Nat.le_trans b.2 (by omega)⟩
 |f+1,.at deep,p,h,_=>by
  have h1:=qAA p.1
  have h2:=qIA [40] p
  have h3:=qGY (tb p.1)
  have h4:=h.r
  have g2:Gd (wr (tb p.1),p.2):=qLT h (by omega)
  unfold pP
  simp only
  split
  ·split
   ·exact ⟨⟨by simp only;omega,h.n,h.s⟩,h1⟩
   ·rename_i hh _ s t hq
    have a:=qJZ _ _ hq
    have b:=qGa _ _ _ (Nat.le_refl _) hq
    simp only [List.length_tail,List.length_nil] at a b
    refine ⟨qGZ (qLT h (by omega)) ⟨by simp [kd,nd1],by simp only [nd1,qe];omega⟩,?_⟩
    rw [qA5];simp only;omega
  ·split
   ·refine ⟨qGZ (qLT h (by simp;omega)) ⟨by simp [kd,nd1],by simp [nd1,em];decide⟩,?_⟩
    rw [qA5];simp;omega
   ·split
    ·have b:=qEw f (.bin 1 (deep+1)) (qW [40] p).2 (qCp h) trivial
     have c:=qJb (w:= [41]) b.1
     exact ⟨c.1,Nat.le_trans c.2 (Nat.le_trans b.2 (by omega))⟩
    ·split
     ·rename_i hv
      refine ⟨qGZ g2 ⟨by simp [kd,nd1],qJP hv.1 hv.2⟩,?_⟩
      rw [qA5];simp only;omega
     ·split
      ·refine ⟨qGZ g2 ⟨by simp [kd,ndC],by simp [ndC,em];decide⟩,?_⟩
       rw [qA5];simp only;omega
      ·split
       ·rename_i op _
        have b:=qEw f (.call op deep) (wr (tb p.1),p.2) g2 trivial
        exact ⟨b.1,Nat.le_trans b.2 (by simp only;omega)⟩
       ·exact ⟨⟨g2.r,g2.n,g2.s⟩,by show (wr (tb p.1)).length≤_;omega⟩
 |f+1,.call op deep,p,h,_=>by
  unfold pP
  have a:=qJb (w:= [40]) h
  have b:=qEw f (.args op deep []) (qCC [40] p) a.1 (by have:=a.1.r;show 0+_≤_;omega)
  exact ⟨b.1,Nat.le_trans b.2 a.2⟩
 |f+1,.args op deep kids,p,h,hk=>by
  replace hk:kids.length+p.1.length≤1500:=hk
  unfold pP
  split
  ·refine ⟨qGZ h ⟨by simp [kd,ndK];omega,by simp [ndK,em];decide⟩,?_⟩
   rw [qA5];exact Nat.le_refl _
  ·simp only
   have a:=qQ7 h
   have qg:Gd (qDb (qA1 p) (fun p=>pP f (.bin 1 (deep+1)) p)).2∧(qDb (qA1 p) (fun p=>pP f (.bin 1 (deep+1)) p)).2.1.length≤p.1.length:=by
    unfold qDb
    split
    ·rename_i x hx
     refine ⟨qGZ a.1 (a.2.2 x hx),?_⟩
     rw [qA5];exact a.2.1
    ·have b:=qEw f (.bin 1 (deep+1)) (qA1 p).2 a.1 trivial
     exact ⟨b.1,Nat.le_trans b.2 a.2.1⟩
   generalize qDb (qA1 p) (fun p=>pP f (.bin 1 (deep+1)) p)=q at qg⊢
   have t0:=qg.2
   have t1:=qAA q.2.1
   have t2:=qIA [44] q.2
   split
   ·rename_i ht
    have t3:=qDc (by simp) ht
    have b:=qEw f (.args op deep (kids++ [q.1])) (qW [44] q.2).2 (qCp qg.1) (by show (kids++ [q.1]).length+_≤_;simp;omega)
    exact ⟨b.1,Nat.le_trans b.2 (by omega)⟩
   ·have c:=qJb (w:= [41]) (qCp (w:= [44]) qg.1)
    refine ⟨qGZ c.1 ⟨by simp [kd,ndK];omega,by simp [ndK,em];decide⟩,?_⟩
    rw [qA5]
    exact Nat.le_trans c.2 (by omega)
def Ad (f:Nat):PJ→PS→Prop
 | .bin _ _,p=>20*(tb p.1).length+6≤f
 | .loop _ _ _,p=>20*(tb p.1).length+5≤f
 | .un _,p=>20*(tb p.1).length+4≤f
 | .at _,p=>20*(tb p.1).length+3≤f∧p.2.1=false
 | .call _ _,p=>20*(tb p.1).length+9≤f
 | .args _ _ _,p=>20*(tb p.1).length+8≤f
def Jd:PJ→Prop
 | .bin _ d=>0≤d∧d≤401
 | .loop _ d _=>0≤d∧d≤401
 | .un d=>0≤d∧d≤401
 | .at d=>0≤d∧d≤400
 | .call _ d=>0≤d∧d≤400
 | .args _ d _=>0≤d∧d≤400
def Wk:PJ→PS→Int×PS→Prop
 | .bin least deep,p,r=>Ev (qCf · least deep (BR p.1) p.2.2.length p.2.1 (p.2.2.map qd)) (qGd r)
 | .loop least deep a,p,r=>∃n0,∀n,n0≤n→∀M,n0≤M→zC (qCz (qU n) n) M (least,deep,a,qFT p)=some (qGd r)
 | .un deep,p,r=>Ev (qFj · deep (BR p.1) p.2.2.length p.2.1 (p.2.2.map qd)) (qGd r)
 | .at deep,p,r=>Ev (qGA · deep (BR p.1) p.2.2.length p.2.1 (p.2.2.map qd)) (qGd r)
 | .call op deep,p,r=>Ev (qCN · op deep (BR p.1) p.2.2.length p.2.1 (p.2.2.map qd)) (qGd r)
 | .args op deep kids,p,r=>∃(ks:List Int) (p':PS),r=qC7 (ndK 6 op ks) p'∧Gd p'∧ks.length≤1501∧∃n0,∀n,n0≤n→∀M,n0≤M→
   zC (qCT (qU n) n) M (op,deep,kids.length,kids.map qBE,qFT p)=some (op,ks.length,ks.map qBE,qFT p')
theorem qLU (w:List UInt8) {p:PS} (h:p.2.1=false):(BR (qW w p).2.1,(qW w p).2.2.2.length,!(qW w p).1,(qW w p).2.2.2.map qd)=qFT (qCC w p):=by
 have e:(qW w p).2.2=p.2:=by unfold qW;split<;>rfl
 unfold qCC
 rw [if_neg (by rw [h];simp)]
 cases hc:(qW w p).1 with
 |true=>rw [if_pos rfl];simp only [qFT,e,h];rfl
 |false=>rw [if_neg (by simp)];rfl
theorem qPX {r w:List UInt8} (hw:w≠ []) (h:w<+:r):(tb (r.drop w.length)).length<r.length:=by
 have h1:=qAA (r.drop w.length)
 have h2:=h.length_le
 have h3:0<w.length:=List.length_pos_iff.2 hw
 simp only [List.length_drop] at h1
 omega
theorem qTO {r:List UInt8} (h:qAS r≠0):1≤qAS r∧qAS r≤11∧sgn r=(qo (qAS r)).toList∧sgn r≠ []:=by
 rcases qQ3 r with e|⟨a,b,c⟩
 ·exact absurd e h
 ·refine ⟨a,b,c,fun e=>h ?_⟩
  unfold qAS;rw [e];decide
def qLV (f:Nat) (deep:Int) (w:List UInt8) (p2:PS):Int×PS:=
 if (qj (BR w)).2.2.2=true∧((qj (BR w)).1=1∨(qj (BR w)).1=3) then qC7 (nd1 ((qj (BR w)).1,(qj (BR w)).2.1,(qj (BR w)).2.2.1)) p2
 else if (qAv (BR w)).2.2.2.2=true then qC7 (ndC (qAv (BR w))) p2
 else match qFR w 1 10 with
 |some op=>pP f (.call op deep) p2
 |none=>(-1,qQb p2)
def qQh (g:G_impl_reader_binary) (n:Nat) (deep:Int) (w:ByteArray) (c:ByteArray×Nat×Bool×List (List PV)):Tr (Int×ByteArray×Nat×Bool×List (List PV)):=
 (.opt (qAk n w) fun r=>(.ask r.2.2.2.2
  (.opt (qv n 2 0 0 0 ⟨#[]⟩ r.1 r.2.1 r.2.2.1 r.2.2.2.1 0 0 false false [] c.1 c.2.1 c.2.2.1 c.2.2.2) fun s=> .done (s.1,s.2.1,s.2.2.1,s.2.2.2.1,s.2.2.2.2))
  (.opt (zC (qAo g n) n (deep,w,1,c.1,c.2.1,c.2.2.1,c.2.2.2)) fun s=>(.alt s (fun t=> .done (t.1,t.2.1,t.2.2.1,t.2.2.2.1,t.2.2.2.2)) (fun t=> .done (-1,t.1,t.2.1,true,t.2.2.2))))))
def qSp (g:G_impl_reader_binary) (n:Nat) (deep:Int) (w:ByteArray) (c:ByteArray×Nat×Bool×List (List PV)):Tr (Int×ByteArray×Nat×Bool×List (List PV)):=
 (.opt (qZ n w) fun r=>(.ask r.2.2.2
  (.ask (r.1==1) (.opt (qm n r.1 r.2.1 r.2.2.1 c.1 c.2.1 c.2.2.1 c.2.2.2) fun s=> .done (s.1,s.2.1,s.2.2.1,s.2.2.2.1,s.2.2.2.2))
   (.ask (r.1==3) (.opt (qm n r.1 r.2.1 r.2.2.1 c.1 c.2.1 c.2.2.1 c.2.2.2) fun s=> .done (s.1,s.2.1,s.2.2.1,s.2.2.2.1,s.2.2.2.2))
    (qQh g n deep w c)))
  (qQh g n deep w c)))
theorem qRT (f:Nat) (deep:Int) (r:List UInt8) (p2:PS) (hr:r.length≤1000) (hp:p2.2.2.length≤60) (hc:∀op,qFR (wd (tb r)) 1 10=some op→Ev (qCN · op deep (BR p2.1) p2.2.2.length p2.2.1 (p2.2.2.map qd)) (qGd (pP f (.call op deep) p2))):
  ∃n0,∀n,n0≤n→(qQh (qU n) n deep (BR (wd (tb r))) (qFT p2)).run=some (qGd (if (qAv (BR (wd (tb r)))).2.2.2.2=true then qC7 (ndC (qAv (BR (wd (tb r))))) p2 else match qFR (wd (tb r)) 1 10 with
   |some op=>pP f (.call op deep) p2
   |none=>(-1,qQb p2))):=by
 obtain ⟨n1,h1⟩:=qRq r hr
 obtain ⟨n2,h2⟩:=qMX (ndC (qAv (BR (wd (tb r))))) p2 hp
 obtain ⟨n3,h3⟩:=qSz
 obtain ⟨n4,h4⟩:∃n4,∀n,n4≤n→∀op,qFR (wd (tb r)) 1 10=some op→qCN n op deep (BR p2.1) p2.2.2.length p2.2.1 (p2.2.2.map qd)=some (qGd (pP f (.call op deep) p2)):=by
  cases hf:qFR (wd (tb r)) 1 10 with
  |none=>exact ⟨0,fun n _ op h=>by cases h⟩
  |some op=>obtain ⟨n4,h4⟩:=hc op hf;exact ⟨n4,fun n hn op' h=>by cases h;exact h4 n hn⟩
 refine ⟨n1+n2+n3+n4+12,fun n hn=>?_⟩
 have lp:=qQ6 (g:=qU n) deep (wd (tb r)) p2 (fun op=>pP f (.call op deep) p2) (h3 n (by omega)) 10 1 n (by omega) (by omega) (by omega) (h4 n (by omega))
 cases hb:(qAv (BR (wd (tb r)))).2.2.2.2 with
 |true=>
  rw [if_pos rfl]
  exact qA (h1 n (by omega)) (qF hb (qA (h2 n (by omega)) rfl))
 |false=>
  rw [if_neg (by simp)]
  refine qA (h1 n (by omega)) (qO hb (qA lp ?_))
  cases qFR (wd (tb r)) 1 10<;>rfl
theorem qRr (f:Nat) (deep:Int) (r:List UInt8) (p2:PS) (hr:r.length≤1000) (hp:p2.2.2.length≤60) (hc:∀op,qFR (wd (tb r)) 1 10=some op→Ev (qCN · op deep (BR p2.1) p2.2.2.length p2.2.1 (p2.2.2.map qd)) (qGd (pP f (.call op deep) p2))):
  ∃n0,∀n,n0≤n→(qSp (qU n) n deep (BR (wd (tb r))) (qFT p2)).run=some (qGd (qLV f deep (wd (tb r)) p2)):=by
 obtain ⟨n1,h1⟩:=qTN r hr
 obtain ⟨n2,h2⟩:=qJO ((qj (BR (wd (tb r)))).1,(qj (BR (wd (tb r)))).2.1,(qj (BR (wd (tb r)))).2.2.1) p2 hp
 obtain ⟨n3,h3⟩:=qRT f deep r p2 hr hp hc
 refine ⟨n1+n2+n3,fun n hn=>?_⟩
 have h2:=h2 n (by omega)
 have h3:=h3 n (by omega)
 unfold qLV
 refine qA (h1 n (by omega)) ?_
 by_cases ho:(qj (BR (wd (tb r)))).2.2.2=true
 ·refine qF ho ?_
  by_cases k1:(qj (BR (wd (tb r)))).1=1
  ·rw [if_pos ⟨ho,.inl k1⟩]
   exact qF (by rw [k1];rfl) (qA h2 rfl)
  ·refine qO (beq_eq_false_iff_ne.2 k1) ?_
   by_cases k3:(qj (BR (wd (tb r)))).1=3
   ·rw [if_pos ⟨ho,.inr k3⟩]
    exact qF (by rw [k3];rfl) (qA h2 rfl)
   ·rw [if_neg (fun h=>h.2.elim k1 k3)]
    exact qO (beq_eq_false_iff_ne.2 k3) h3
 ·rw [if_neg (fun h=>ho h.1)]
  exact qO (by rw [Bool.eq_false_iff];exact ho) h3
theorem qTP (w:List UInt8) (p:PS):qW w (tb p.1,p.2)=qW w p:=by unfold qW;simp only [qCW]
theorem qJc {c:UInt8} {r:List UInt8} (h:r.head?=some c):∃t,r=c::t:=by
 cases r with
 |nil=>cases h
 |cons d t=>simp at h;subst h;exact ⟨t,rfl⟩
theorem qE6:∀(f:Nat) (j:PJ) (p:PS),Ad f j p→Jd j→Gd p→Kj j p→Wk j p (pP f j p)
 |0,j,p,ha,_,_,_=>by cases j<;>simp [Ad] at ha
 |f+1,.bin least deep,p,ha,hj,hg,_=>by
  replace ha:20*(tb p.1).length+6≤f+1:=ha
  obtain ⟨n1,h1⟩:=qE6 f (.un deep) p (by show 20*_+4≤f;omega) hj hg trivial
  have hl:=qDd f (.un deep) p
  obtain ⟨n2,h2⟩:=qE6 f (.loop least deep (pP f (.un deep) p).1) (pP f (.un deep) p).2 (by show 20*_+5≤f;omega) hj (qEw f (.un deep) p hg trivial).1 trivial
  refine ⟨n1+n2+1,fun n hn=>?_⟩
  obtain ⟨k,rfl,hm⟩:=up1 hn
  exact qA (h1 k (by omega)) (qA (h2 k (by omega) k (by omega)) rfl)
 |f+1,.loop least deep a,(r,b,l),ha,hj,hg,_=>by
  replace ha:20*(tb r).length+5≤f+1:=ha
  have hn60:l.length≤60:=hg.n
  have hr1:r.length≤1000:=hg.r
  have ht:=qAA r
  unfold pP
  cases b with
  |true=>
   rw [if_pos rfl]
   refine ⟨1,fun n hn M hM=>?_⟩
   obtain ⟨M,rfl,hM⟩:=up1 hM
   exact qQ (qO rfl rfl)
  |false=>
   rw [if_neg (by simp)]
   simp only
   obtain ⟨n1,h1⟩:=qSd least deep a r l.length false (l.map qd)
   by_cases h0:qAS (tb r)=0
   ·rw [if_pos (.inl h0)]
    refine ⟨n1+1,fun n hn M hM=>?_⟩
    obtain ⟨M,rfl,hM⟩:=up1 hM
    exact qQ (qF rfl (qA (h1 n (by omega) n (by omega)) (qF (by simp only;rw [h0];rfl) rfl)))
   ·obtain ⟨o1,o2,o3,o4⟩:=qTO h0
    obtain ⟨n2,h2⟩:=qKA (qAS (tb r)) ⟨o1,o2⟩
    by_cases hl:lvl (qAS (tb r))<least
    ·rw [if_pos (.inr hl)]
     refine ⟨n1+n2+1,fun n hn M hM=>?_⟩
     obtain ⟨M,rfl,hM⟩:=up1 hM
     exact qQ (qF rfl (qA (h1 n (by omega) n (by omega)) (qO (beq_eq_false_iff_ne.2 h0) (qA (h2 n (by omega)) (qF (decide_eq_true hl) rfl)))))
    ·rw [if_neg (fun h=>h.elim h0 hl)]
     have lv:=qPU (op:=qAS (tb r))
     have hlt:=qPX o4 (qQ4 (tb r))
     have hp1:Gd ((tb r).drop (sgn (tb r)).length,false,l):=⟨by simp;omega,hn60,hg.s⟩
     obtain ⟨n3,h3⟩:=qGX (qAS (tb r)) ⟨o1,o2⟩
     obtain ⟨n4,h4⟩:=qOy (qo (qAS (tb r))).toList (tb r) l.length false (l.map qd)
     obtain ⟨n5,h5⟩:=qE6 f (.bin (lvl (qAS (tb r))+1) deep) ((tb r).drop (sgn (tb r)).length,false,l) (by show 20*_+6≤f;simp only;omega) hj hp1 trivial
     have g5:=qEw f (.bin (lvl (qAS (tb r))+1) deep) ((tb r).drop (sgn (tb r)).length,false,l) hp1 trivial
     have l5:=qDd f (.bin (lvl (qAS (tb r))+1) deep) ((tb r).drop (sgn (tb r)).length,false,l)
     simp only at l5
     generalize pP f (.bin (lvl (qAS (tb r))+1) deep) ((tb r).drop (sgn (tb r)).length,false,l)=q at h5 g5 l5⊢
     obtain ⟨n6,h6⟩:=qMX (ndK 5 (qAS (tb r)) [a,q.1]) q.2 g5.1.n
     have g6:=qGZ (x:=ndK 5 (qAS (tb r)) [a,q.1]) g5.1 ⟨by simp [kd,ndK],by simp [ndK,em];decide⟩
     have e6:=qA5 (ndK 5 (qAS (tb r)) [a,q.1]) q.2
     generalize qC7 (ndK 5 (qAS (tb r)) [a,q.1]) q.2=c at h6 g6 e6⊢
     obtain ⟨n7,h7⟩:=qE6 f (.loop least deep c.1) c.2 (by show 20*(tb c.2.1).length+5≤f;rw [e6];omega) hj g6 trivial
     refine ⟨n1+n2+n3+n4+n5+n6+n7+1,fun n hn M hM=>?_⟩
     obtain ⟨M,rfl,hM⟩:=up1 hM
     have w1:IntKind.i64.wrap (lvl (qAS (tb r))+1)=lvl (qAS (tb r))+1:=qX (by omega)
     have h3:=h3 n (by omega)
     have h4:=h4 n (by omega)
     have h5:=h5 n (by omega)
     rw [qEv,qCW,←o3,if_pos rfl] at h4
     rw [←w1] at h5
     rw [qc (v':=(least,deep,c.1,qFT c.2)) (by
      exact qF rfl (qA (h1 n (by omega) n (by omega)) (qO (beq_eq_false_iff_ne.2 h0) (qA (h2 n (by omega)) (qO (decide_eq_false hl) (qA h3 (qA h4 (qA (h2 n (by omega)) (qA h5 (qF rfl (qA (h6 n (by omega)) rfl)))))))))))]
     exact h7 n (by omega) M (by omega)
 |f+1,.un deep,p,ha,hj,hg,_=>by
  replace ha:20*(tb p.1).length+4≤f+1:=ha
  replace hj:0≤deep∧deep≤401:=hj
  unfold pP
  by_cases hd:deep>400
  ·rw [if_pos (.inl hd)]
   refine ⟨1,fun n hn=>?_⟩
   obtain ⟨k,rfl,hm⟩:=up1 hn
   exact qF (decide_eq_true hd) (qF rfl rfl)
  ·cases hb:p.2.1 with
   |true=>
    rw [if_pos (.inr rfl)]
    refine ⟨1,fun n hn=>?_⟩
    obtain ⟨k,rfl,hm⟩:=up1 hn
    refine qO (decide_eq_false hd) (qF hb ?_)
    rw [qC,hb];rfl
   |false=>
    rw [if_neg (fun h=>h.elim hd (by simp))]
    obtain ⟨n1,h1⟩:=qFw [45] p
    have t1:=qDn [45] p
    cases hc:(qW [45] p).1 with
    |true=>
     rw [if_pos rfl]
     simp only
     have t2:=qDc (by simp) hc
     have t3:=qAA (qW [45] p).2.1
     obtain ⟨n2,h2⟩:=qE6 f (.un (deep+1)) (qW [45] p).2 (by show 20*_+4≤f;omega) (by show 0≤deep+1∧deep+1≤401;omega) (qCp hg) trivial
     have g2:=qEw f (.un (deep+1)) (qW [45] p).2 (qCp hg) trivial
     generalize pP f (.un (deep+1)) (qW [45] p).2=q at h2 g2⊢
     obtain ⟨n3,h3⟩:=qMX (ndK 4 0 [q.1]) q.2 g2.1.n
     refine ⟨n1+n2+n3+1,fun n hn=>?_⟩
     obtain ⟨k,rfl,hm⟩:=up1 hn
     have w1:IntKind.i64.wrap (deep+1)=deep+1:=qX (by omega)
     have h2:=h2 k (by omega)
     rw [←w1] at h2
     exact qO (decide_eq_false hd) (qO hb (qA (h1 k (by omega)) (qF hc (qA h2 (qF rfl (qA (h3 k (by omega)) rfl))))))
    |false=>
     rw [if_neg (by simp)]
     have e:(qW [45] p).2.2=p.2:=by unfold qW;split<;>rfl
     obtain ⟨n2,h2⟩:=qE6 f (.at deep) (qW [45] p).2 ⟨by omega,by rw [e];exact hb⟩ (by show 0≤deep∧deep≤400;omega) (qCp hg) trivial
     refine ⟨n1+n2+1,fun n hn=>?_⟩
     obtain ⟨k,rfl,hm⟩:=up1 hn
     exact qO (decide_eq_false hd) (qO hb (qA (h1 k (by omega)) (qO hc (qA (h2 k (by omega)) rfl))))
 |f+1,.at deep,(r0,b,l),ha,hj,hg,_=>by
  obtain ⟨ha,hb⟩:=ha
  replace ha:20*(tb r0).length+3≤f+1:=ha
  replace hb:b=false:=hb
  subst hb
  replace hj:0≤deep∧deep≤400:=hj
  have hn60:l.length≤60:=hg.n
  have hr1:r0.length≤1000:=hg.r
  have ht:=qAA r0
  have ett:=qCW r0
  have eit:=qTP [40] (r0,false,l)
  obtain ⟨n1,h1⟩:=qGx r0 l.length false (l.map qd)
  have wdec:∀op,qFR (wd (tb r0)) 1 10=some op→(wr (tb r0)).length<(tb r0).length:=fun op h=>by
   have e:=congrArg List.length (wdr (tb r0))
   simp only [List.length_append] at e
   have:wd (tb r0)≠ []:=fun e=>by
    rw [e,show qFR [] 1 10=none by decide+kernel] at h
    cases h
   have:=List.length_pos_iff.2 this
   omega
  unfold pP
  simp only at eit⊢
  rw [←eit]
  generalize tb r0=r at*
  have hw:=qGY r
  have wordEv:∃n0,∀n,n0≤n→(qSp (qU n) n deep (BR (wd r)) (qFT (wr r,false,l))).run=some (qGd (qLV f deep (wd r) (wr r,false,l))):=by
   have:=qRr f deep r (wr r,false,l) (by omega) hn60 (by
    rw [ett]
    intro op h
    exact qE6 f (.call op deep) (wr r,false,l) (by have:=wdec op h;have:=qAA (wr r);show 20*(tb (wr r)).length+9≤f;omega) hj ⟨by simp only;omega,hn60,hg.s⟩ trivial)
   rwa [ett] at this
  obtain ⟨n9,h9⟩:=wordEv
  obtain ⟨n8,h8⟩:=qPV (r,false,l) (by simp only;omega)
  simp only [ett] at h8
  by_cases hq:r.head?=some 34
  ·rw [if_pos hq]
   obtain ⟨t,rfl⟩:=qJc hq
   simp only [List.length_cons] at ht
   obtain ⟨n2,h2⟩:=qRS t false l (by omega) hn60
   refine ⟨n1+n2+3,fun n hn=>?_⟩
   obtain ⟨k,rfl,hm⟩:=up3 hn
   refine qA (h1 (k+2) (by omega)) (qA (qBf k (34::t) [34]) (qF rfl (qA (h2 (k+2) (by omega)) ?_)))
   rw [qC]
   simp only [List.tail_cons]
   all_goals (cases qBx [] t<;>rfl)
  ·rw [if_neg hq]
   have p34:List.isPrefixOf [34] r=false:=by rw [Bool.eq_false_iff];exact fun e=>hq ((qDJ 34 r).1 e)
   by_cases hh:r.head?=some 35
   ·have p35:List.isPrefixOf [35] r=true:=(qDJ 35 r).2 hh
    simp only [if_pos hh]
    obtain ⟨n2,h2⟩:=qSy deep r false l hn60
    cases he:qGw r 1 5 with
    |some e=>
     simp only
     refine ⟨n1+n2+3,fun n hn=>?_⟩
     obtain ⟨k,rfl,hm⟩:=up3 hn
     have h2:=h2 (k+2) (by omega) (k+2) (by omega)
     rw [he] at h2
     exact qA (h1 (k+2) (by omega)) (qA (qBf k r [34]) (qO p34 (qA (qBf k r [35]) (qF p35 (qA h2 rfl)))))
    |none=>
     simp only
     rw [if_neg (fun h=>h.1 hh)]
     refine ⟨n1+n2+n8+n9+3,fun n hn=>?_⟩
     obtain ⟨k,rfl,hm⟩:=up3 hn
     have h2:=h2 (k+2) (by omega) (k+2) (by omega)
     rw [he] at h2
     exact qA (h1 (k+2) (by omega)) (qA (qBf k r [34]) (qO p34 (qA (qBf k r [35]) (qF p35 (qA h2 (qA (h8 (k+2) (by omega)) (h9 (k+2) (by omega))))))))
   ·have p35:List.isPrefixOf [35] r=false:=by rw [Bool.eq_false_iff];exact fun e=>hh ((qDJ 35 r).1 e)
    simp only [if_neg hh]
    obtain ⟨n2,h2⟩:=qFw [40] (r,false,l)
    cases hc:(qW [40] (r,false,l)).1 with
    |true=>
     rw [if_pos ⟨hh,rfl⟩]
     have t2:=qDc (by simp) hc
     have t3:=qAA (qW [40] (r,false,l)).2.1
     simp only [ett] at t2
     have g1:Gd (r,false,l):=⟨by simp only;omega,hn60,hg.s⟩
     obtain ⟨n3,h3⟩:=qE6 f (.bin 1 (deep+1)) (qW [40] (r,false,l)).2 (by show 20*_+6≤f;omega) (by show 0≤deep+1∧deep+1≤401;omega) (qCp g1) trivial
     generalize pP f (.bin 1 (deep+1)) (qW [40] (r,false,l)).2=q at h3⊢
     obtain ⟨n4,h4⟩:=qFw [41] q.2
     refine ⟨n1+n2+n3+n4+3,fun n hn=>?_⟩
     obtain ⟨k,rfl,hm⟩:=up3 hn
     have w1:IntKind.i64.wrap (deep+1)=deep+1:=qX (by omega)
     have h3:=h3 (k+2) (by omega)
     rw [←w1] at h3
     cases hbb:q.2.2.1 with
     |true=>
      refine qA (h1 (k+2) (by omega)) (qA (qBf k r [34]) (qO p34 (qA (qBf k r [35]) (qO p35 (qA (h2 (k+2) (by omega)) (qF hc (qA h3 (qF hbb ?_))))))))
      rw [qC]
      unfold qCC
      rw [if_pos hbb]
      simp only [qGd,hbb]
     |false=>
      refine qA (h1 (k+2) (by omega)) (qA (qBf k r [34]) (qO p34 (qA (qBf k r [35]) (qO p35 (qA (h2 (k+2) (by omega)) (qF hc (qA h3 (qO hbb (qA (h4 (k+2) (by omega)) ?_)))))))))
      rw [qC]
      exact congrArg (fun x=>some (q.1,x)) (qLU [41] hbb)
    |false=>
     rw [if_neg (fun h=>by simp at h)]
     have e:(qW [40] (r,false,l)).2=(r,false,l):=by
      unfold qW at hc⊢
      split at hc
      ·cases hc
      ·rename_i hne
       rw [if_neg hne];simp only [ett]
     rw [hc,e] at h2
     refine ⟨n1+n2+n8+n9+3,fun n hn=>?_⟩
     obtain ⟨k,rfl,hm⟩:=up3 hn
     exact qA (h1 (k+2) (by omega)) (qA (qBf k r [34]) (qO p34 (qA (qBf k r [35]) (qO p35 (qA (h2 (k+2) (by omega)) (qO rfl (qA (h8 (k+2) (by omega)) (h9 (k+2) (by omega)))))))))
 |f+1,.call op deep,p,ha,hj,hg,_=>by
  replace ha:20*(tb p.1).length+9≤f+1:=ha
  unfold pP
  have gm:=qJb (w:= [40]) hg
  have rm:=qJY [40] p
  obtain ⟨ks,p',e1,e2,e3,n2,h2⟩:=qE6 f (.args op deep []) (qCC [40] p) (by show 20*_+8≤f;omega) hj gm.1 (by have:=gm.1.r;show 0+_≤_;omega)
  obtain ⟨n1,h1⟩:=qFw [40] p
  obtain ⟨n3,h3⟩:=qMX (ndK 6 op ks) p' e2.n
  rw [e1]
  refine ⟨n1+n2+n3+1,fun n hn=>?_⟩
  obtain ⟨k,rfl,hm⟩:=up1 hn
  have h2:=h2 k (by omega) k (by omega)
  by_cases hb:p.2.1=true
  ·have em:qFT (qCC [40] p)=(BR p.1,p.2.2.length,true,p.2.2.map qd):=by
    unfold qCC;rw [if_pos hb];simp only [qFT,hb]
   rw [em] at h2
   exact qF hb (qA h2 (qF (decide_eq_true (by simp)) (qA (h3 k (by omega)) rfl)))
  ·have hb:p.2.1=false:=by rw [Bool.eq_false_iff];exact hb
   have em:=qLU [40] hb
   rw [←em] at h2
   exact qO hb (qA (h1 k (by omega)) (qA h2 (qF (decide_eq_true (by simp)) (qA (h3 k (by omega)) rfl))))
 |f+1,.args op deep kids,p,ha,hj,hg,hk=>by
  replace ha:20*(tb p.1).length+8≤f+1:=ha
  replace hk:kids.length+p.1.length≤1500:=hk
  replace hj:0≤deep∧deep≤400:=hj
  unfold pP
  cases hb:p.2.1 with
  |true=>
   rw [if_pos rfl]
   refine ⟨kids,p,rfl,hg,by omega,1,fun n hn M hM=>?_⟩
   obtain ⟨M,rfl,hM⟩:=up1 hM
   exact qQ (qO (by show (!p.2.1)=false;rw [hb];rfl) rfl)
  |false=>
   rw [if_neg (by simp)]
   simp only
   obtain ⟨x,hx,n1,h1⟩:=qSe p hg.r
   have ga:=qQ7 hg
   have ra:=qHo p
   have tl0:=qAA p.1
   have nb:∀k:Nat,(!(qFT p).2.2.1)=true:=fun _=>by show (!p.2.1)=true;rw [hb];rfl
   cases hi:(qA1 p).1 with
   |some y=>
    have hxy:=hx y hi
    subst hxy
    obtain ⟨n3,h3⟩:=qMX x (qA1 p).2 ga.1.n
    have eo:qDb (qA1 p) (fun p=>pP f (.bin 1 (deep+1)) p)=qC7 x (qA1 p).2:=by unfold qDb;rw [hi]
    rw [eo]
    have gq:Gd (qC7 x (qA1 p).2).2∧(qC7 x (qA1 p).2).2.1.length≤p.1.length∧(tb (qC7 x (qA1 p).2).2.1).length≤(tb p.1).length:=⟨qGZ ga.1 (ga.2.2 x hi),by rw [qA5];exact ga.2.1,by rw [qA5];exact ra⟩
    have n2:=0
    generalize qC7 x (qA1 p).2=Q at h3 gq⊢
    obtain ⟨n4,h4⟩:=qFw [44] Q.2
    cases hc:(qW [44] Q.2).1 with
    |true=>
     obtain ⟨ks,p',e1,e2,e3,n6,h6⟩:=qE6 f (.args op deep (kids++ [Q.1])) (qW [44] Q.2).2 (by have:=qDc (by simp) hc;show 20*(tb (qW [44] Q.2).2.1).length+8≤f;have:=qAA (qW [44] Q.2).2.1;omega) ⟨hj.1,hj.2⟩ (qCp gq.1) (by have:=qDc (by simp) hc;have:=qAA Q.2.1;show (kids++ [Q.1]).length+_≤_;simp;omega)
     refine ⟨ks,p',by rw [if_pos rfl];exact e1,e2,e3,n1+n2+n3+n4+n6+1,fun k hn M hM=>?_⟩
     obtain ⟨M,rfl,hM⟩:=up1 hM
     rw [qc (v':=(op,deep,(kids++ [Q.1]).length,(kids++ [Q.1]).map qBE,qFT (qW [44] Q.2).2)) (by
      have h1:=h1 k (by omega)
      rw [hi] at h1
      refine qF (nb 0) (qA h1 (qF rfl (qA (h3 k (by omega)) (qF rfl (qF (decide_eq_true ⟨by simp,by decide,by decide,by simp;omega,rfl⟩) (qA (h4 k (by omega)) ?_))))))
      refine qO (by simp only;rw [hc];rfl) ?_
      rw [qC]
      simp only [List.length_append,List.map_append]
      rfl)]
     exact h6 k (by omega) M (by omega)
    |false=>
     obtain ⟨n5,h5⟩:=qFw [41] (qW [44] Q.2).2
     refine ⟨kids++ [Q.1],qCC [41] (qW [44] Q.2).2,by rw [if_neg (by simp)],(qJb (qCp gq.1)).1,by simp;omega,n1+n2+n3+n4+n5+1,fun k hn M hM=>?_⟩
     obtain ⟨M,rfl,hM⟩:=up1 hM
     cases hbb:(qW [44] Q.2).2.2.1 with
     |true=>
      rw [qQ (r:=(op,(kids++ [Q.1]).length,(kids++ [Q.1]).map qBE,qFT (qCC [41] (qW [44] Q.2).2))) (by
       have h1:=h1 k (by omega)
       rw [hi] at h1
       refine qF (nb 0) (qA h1 (qF rfl (qA (h3 k (by omega)) (qF rfl (qF (decide_eq_true ⟨by simp,by decide,by decide,by simp;omega,rfl⟩) (qA (h4 k (by omega)) ?_))))))
       refine qF (by simp only;rw [hc];rfl) (qF hbb ?_)
       rw [qC]
       unfold qCC
       rw [if_pos hbb]
       simp only [List.length_append,List.map_append,qFT,hbb]
       rfl)]
     |false=>
      rw [qQ (r:=(op,(kids++ [Q.1]).length,(kids++ [Q.1]).map qBE,qFT (qCC [41] (qW [44] Q.2).2))) (by
       have h1:=h1 k (by omega)
       rw [hi] at h1
       refine qF (nb 0) (qA h1 (qF rfl (qA (h3 k (by omega)) (qF rfl (qF (decide_eq_true ⟨by simp,by decide,by decide,by simp;omega,rfl⟩) (qA (h4 k (by omega)) ?_))))))
       refine qF (by simp only;rw [hc];rfl) (qO hbb (qA (h5 k (by omega)) ?_))
       rw [qC]
       simp only [List.length_append,List.map_append]
       exact congrArg (fun x=>some (Sum.inr (op,kids.length+1,kids.map qBE++ [[PV.i IntKind.i64 Q.1]],x))) (qLU [41] hbb))]
   |none=>
    have eo:qDb (qA1 p) (fun p=>pP f (.bin 1 (deep+1)) p)=pP f (.bin 1 (deep+1)) (qA1 p).2:=by unfold qDb;rw [hi]
    rw [eo]
    obtain ⟨n3,h3⟩:=qE6 f (.bin 1 (deep+1)) (qA1 p).2 (by show 20*_+6≤f;omega) (by show 0≤deep+1∧deep+1≤401;omega) ga.1 trivial
    have g3:=qEw f (.bin 1 (deep+1)) (qA1 p).2 ga.1 trivial
    have l3:=qDd f (.bin 1 (deep+1)) (qA1 p).2
    have w1:IntKind.i64.wrap (deep+1)=deep+1:=qX (by omega)
    have gq:Gd (pP f (.bin 1 (deep+1)) (qA1 p).2).2∧(pP f (.bin 1 (deep+1)) (qA1 p).2).2.1.length≤p.1.length∧(tb (pP f (.bin 1 (deep+1)) (qA1 p).2).2.1).length≤(tb p.1).length:=⟨g3.1,Nat.le_trans g3.2 ga.2.1,Nat.le_trans l3 ra⟩
    rw [←w1] at h3
    have n2:=0
    rw [w1] at h3
    generalize pP f (.bin 1 (deep+1)) (qA1 p).2=Q at h3 gq⊢
    obtain ⟨n4,h4⟩:=qFw [44] Q.2
    cases hc:(qW [44] Q.2).1 with
    |true=>
     obtain ⟨ks,p',e1,e2,e3,n6,h6⟩:=qE6 f (.args op deep (kids++ [Q.1])) (qW [44] Q.2).2 (by have:=qDc (by simp) hc;show 20*(tb (qW [44] Q.2).2.1).length+8≤f;have:=qAA (qW [44] Q.2).2.1;omega) ⟨hj.1,hj.2⟩ (qCp gq.1) (by have:=qDc (by simp) hc;have:=qAA Q.2.1;show (kids++ [Q.1]).length+_≤_;simp;omega)
     refine ⟨ks,p',by rw [if_pos rfl];exact e1,e2,e3,n1+n2+n3+n4+n6+1,fun k hn M hM=>?_⟩
     obtain ⟨M,rfl,hM⟩:=up1 hM
     rw [qc (v':=(op,deep,(kids++ [Q.1]).length,(kids++ [Q.1]).map qBE,qFT (qW [44] Q.2).2)) (by
      have h1:=h1 k (by omega)
      rw [hi] at h1
      have h3:=h3 k (by omega)
      rw [←w1] at h3
      refine qF (nb 0) (qA h1 (qO rfl (qA h3 (qF rfl (qF (decide_eq_true ⟨by simp,by decide,by decide,by simp;omega,rfl⟩) (qA (h4 k (by omega)) ?_))))))
      refine qO (by simp only;rw [hc];rfl) ?_
      rw [qC]
      simp only [List.length_append,List.map_append]
      rfl)]
     exact h6 k (by omega) M (by omega)
    |false=>
     obtain ⟨n5,h5⟩:=qFw [41] (qW [44] Q.2).2
     refine ⟨kids++ [Q.1],qCC [41] (qW [44] Q.2).2,by rw [if_neg (by simp)],(qJb (qCp gq.1)).1,by simp;omega,n1+n2+n3+n4+n5+1,fun k hn M hM=>?_⟩
     obtain ⟨M,rfl,hM⟩:=up1 hM
     cases hbb:(qW [44] Q.2).2.2.1 with
     |true=>
      rw [qQ (r:=(op,(kids++ [Q.1]).length,(kids++ [Q.1]).map qBE,qFT (qCC [41] (qW [44] Q.2).2))) (by
       have h1:=h1 k (by omega)
       rw [hi] at h1
       have h3:=h3 k (by omega)
       rw [←w1] at h3
       refine qF (nb 0) (qA h1 (qO rfl (qA h3 (qF rfl (qF (decide_eq_true ⟨by simp,by decide,by decide,by simp;omega,rfl⟩) (qA (h4 k (by omega)) ?_))))))
       refine qF (by simp only;rw [hc];rfl) (qF hbb ?_)
       rw [qC]
       unfold qCC
       rw [if_pos hbb]
       simp only [List.length_append,List.map_append,qFT,hbb]
       rfl)]
     |false=>
      rw [qQ (r:=(op,(kids++ [Q.1]).length,(kids++ [Q.1]).map qBE,qFT (qCC [41] (qW [44] Q.2).2))) (by
       have h1:=h1 k (by omega)
       rw [hi] at h1
       have h3:=h3 k (by omega)
       rw [←w1] at h3
       refine qF (nb 0) (qA h1 (qO rfl (qA h3 (qF rfl (qF (decide_eq_true ⟨by simp,by decide,by decide,by simp;omega,rfl⟩) (qA (h4 k (by omega)) ?_))))))
       refine qF (by simp only;rw [hc];rfl) (qO hbb (qA (h5 k (by omega)) ?_))
       rw [qC]
       simp only [List.length_append,List.map_append]
       exact congrArg (fun x=>some (Sum.inr (op,kids.length+1,kids.map qBE++ [[PV.i IntKind.i64 Q.1]],x))) (qLU [41] hbb))]
def pos (s r:List UInt8):Int:=((s.length-r.length:Nat):Int)
def qCt (s:List UInt8) (q:PS):ByteArray×Int×Bool×Nat×List (List PV):=(BR s,pos s q.1,q.2.1,q.2.2.length,q.2.2.map qd)
def qCX (s:List UInt8) (r:Int×PS):Int×ByteArray×Int×Bool×Nat×List (List PV):=(r.1,qCt s r.2)
theorem qQC {s r:List UInt8} (h:r<:+s):s.drop (s.length-r.length)=r:=by
 obtain ⟨t,rfl⟩:=h
 simp
theorem qQ8 (s r:List UInt8):(pos s r).toNat=s.length-r.length:=by unfold pos;simp
theorem qKC (s r:List UInt8):0≤pos s r:=by unfold pos;omega
theorem qDG {s r:List UInt8} (h:r<:+s):r.length≤s.length:=h.length_le
theorem qJd {s r t:List UInt8} {k:Nat} (h:r<:+s) (e:t=r.drop k) (hk:k≤r.length):pos s r+(k:Int)=pos s t:=by
 subst e
 have:=qDG h
 unfold pos
 simp only [List.length_drop]
 omega
theorem qLW {s r:List UInt8} (h:r<:+s):(BR s).toList[(pos s r).toNat]?=r.head?:=by
 rw [qAO,qQ8,←List.head?_drop,qQC h]
theorem qQi {s r:List UInt8} (h:r<:+s):tb r<:+s:=(List.dropWhile_suffix _).trans h
theorem qN3 {s t:List UInt8} {c:UInt8} (h:(c::t)<:+s):t<:+s:=(List.suffix_cons c t).trans h
theorem qNJ {s r:List UInt8} {k:Nat} (h:r<:+s):(BR s).extract (pos s r).toNat (pos s r+(k:Int)).toNat=BR (r.take k):=by
 rw [qE5,qQ8,show (pos s r+(k:Int)).toNat=(s.length-r.length)+k by unfold pos;omega,←List.take_drop,qQC h]
theorem qC8 {b:Bool} (h:b=true):(!b)=false:=by rw [h];rfl
theorem qD3 {b:Bool} (h:b=false):(!b)=true:=by rw [h];rfl
theorem qO0 {s:List UInt8} (hs:s.length≤1000) (n:Nat) (b:Bool) (m:Nat) (rows:List (List PV)):∀(r:List UInt8) (M:Nat),r<:+s→r.length+1≤M→zC (qDZ n) M (BR s,pos s r,b,m,rows)=some (BR s,pos s (tb r),b,m,rows)
 |r,0,_,h=>by omega
 | [],M+1,h,_=>by
  exact qQ (qO (decide_eq_false (show ¬pos s []<((BR s).size:Int) by rw [qe];unfold pos;simp)) rfl)
 |c::t,M+1,h,hM=>by
  have hl:=qDG h
  simp only [List.length_cons] at hl hM
  have g:=qLW h
  have p1:pos s (c::t)<((BR s).size:Int):=by rw [qe];unfold pos;simp only [List.length_cons];omega
  by_cases hc:c=32
  ·subst hc
   have w1:IntKind.i64.wrap (pos s (32::t)+1)=pos s t:=by
    have:=qJd (k:=1) h (t:=t) rfl (by simp)
    rw [qX (by unfold pos;omega)];exact this
   rw [qc (v':=(BR s,pos s t,b,m,rows)) (by
    refine qF (decide_eq_true p1) (qF (decide_eq_true (qKC _ _)) (qA g (qF rfl ?_)))
    rw [qC,w1])]
   have e:tb (32::t)=tb t:=by simp [tb]
   rw [e]
   exact qO0 hs n b m rows t M (qN3 h) (by omega)
  ·have e:tb (c::t)=c::t:=by simp [tb,hc]
   rw [e]
   refine qQ (qF (decide_eq_true p1) (qF (decide_eq_true (qKC _ _)) (qA g (qO ?_ rfl))))
   rw [beq_eq_false_iff_ne]
   intro e
   exact hc (UInt8.toNat_inj.1 (show c.toNat=32 by omega))
theorem qPY {s:List UInt8} (hs:s.length≤1000) (q:PS) (h:q.1<:+s):Ev (qBp · (BR s) (pos s q.1) q.2.1 q.2.2.length (q.2.2.map qd)) (qCt s (tb q.1,q.2)):=by
 have hl:=qDG h
 refine ⟨q.1.length+2,fun n hn=>?_⟩
 obtain ⟨k,rfl,hm⟩:=up1 hn
 exact qA (qO0 hs k q.2.1 q.2.2.length (q.2.2.map qd) q.1 k h (by omega)) rfl
theorem qGb {s:List UInt8} (hs:s.length≤1000) (w:List UInt8) (hw:w.length≤1000) (q:PS) (h:q.1<:+s):Ev (qAH · (BR w) (BR s) (pos s q.1) q.2.1 q.2.2.length (q.2.2.map qd)) ((sIs w q).1,qCt s (sIs w q).2):=by
 obtain ⟨n1,h1⟩:=qPY hs q h
 have ht:=qQi h
 have hl:=qDG ht
 refine ⟨n1+1,fun n hn=>?_⟩
 obtain ⟨k,rfl,hm⟩:=up1 hn
 have w1:IntKind.i64.wrap (pos s (tb q.1)+((BR w).size:Int))=pos s (tb q.1)+(w.length:Int):=by rw [qe];exact qX (by unfold pos;omega)
 unfold sIs
 cases hb:q.2.1 with
 |true=>
  rw [if_pos rfl]
  have h1:=h1 k (by omega)
  rw [hb] at h1
  refine qA h1 (qF hb ?_)
  rw [qC]
 |false=>
  have h1:=h1 k (by omega)
  rw [hb] at h1
  rw [if_neg (by simp)]
  by_cases hf:pos s (tb q.1)+(w.length:Int)>(s.length:Int)
  ·have hn:¬w.isPrefixOf (tb q.1)=true:=by
    intro e
    have:=(List.isPrefixOf_iff_prefix.1 e).length_le
    unfold pos at hf
    omega
   rw [if_neg hn]
   refine qA h1 (qO hb (qF (decide_eq_true (show IntKind.i64.wrap (pos s (tb q.1)+((BR w).size:Int))>((BR s).size:Int) by rw [w1,qe];exact hf)) ?_))
   rw [qC]
  ·have hx:=qNJ (k:=w.length) ht
   have hwl:w.length≤(tb q.1).length:=by unfold pos at hf;omega
   have cmp:((BR s).extract (pos s (tb q.1)).toNat (IntKind.i64.wrap (pos s (tb q.1)+((BR w).size:Int))).toNat).toList==(BR w).toList↔w.isPrefixOf (tb q.1)=true:=by
    rw [w1,hx,qAO,qAO,beq_iff_eq,List.isPrefixOf_iff_prefix,List.prefix_iff_eq_take]
    exact ⟨fun e=>e.symm,fun e=>e.symm⟩
   refine qA h1 (qO hb (qO (decide_eq_false (show ¬IntKind.i64.wrap (pos s (tb q.1)+((BR w).size:Int))>((BR s).size:Int) by rw [w1,qe];exact hf)) (qF (decide_eq_true (show 0≤pos s (tb q.1)∧pos s (tb q.1)≤IntKind.i64.wrap (pos s (tb q.1)+((BR w).size:Int))∧IntKind.i64.wrap (pos s (tb q.1)+((BR w).size:Int))≤((BR s).size:Int) by rw [w1,qe];exact ⟨qKC _ _,by omega,by omega⟩)) ?_)))
   by_cases hp:w.isPrefixOf (tb q.1)=true
   ·rw [if_pos hp]
    refine qO (qC8 (cmp.2 hp)) ?_
    rw [qC]
    show some (true,BR s,IntKind.i64.wrap (pos s (tb q.1)+((BR w).size:Int)),q.2.1,q.2.2.length,q.2.2.map qd)=_
    rw [w1,qJd ht rfl hwl]
    rfl
   ·rw [if_neg hp]
    refine qF (qD3 (by rw [Bool.eq_false_iff];exact fun e=>hp (cmp.1 e))) ?_
    rw [qC]
theorem qJQ {s:List UInt8} (x:Nd) (q:PS) (h:q.2.2.length≤5000) (hx:qOb x):Ev (qw · x.1 x.2.1 x.2.2.1 x.2.2.2.1 x.2.2.2.2.1 x.2.2.2.2.2.1 x.2.2.2.2.2.2.1 x.2.2.2.2.2.2.2.1 x.2.2.2.2.2.2.2.2.1 x.2.2.2.2.2.2.2.2.2.1 x.2.2.2.2.2.2.2.2.2.2.1 x.2.2.2.2.2.2.2.2.2.2.2.1 x.2.2.2.2.2.2.2.2.2.2.2.2.1 ((kd x).map qBE) (BR s) (pos s q.1) q.2.1 q.2.2.length (q.2.2.map qd)) (qCX s (qD2 x q)):=by
 obtain ⟨n1,h1⟩:=qHk x (by have:=hx.2;omega)
 refine ⟨n1+1,fun n hn=>?_⟩
 obtain ⟨k,rfl,hm⟩:=up1 hn
 have w2:IntKind.i64.wrap ((((q.2.2.length+1):Nat):Int)-1)=(q.2.2.length:Int):=by rw [qX (by omega)];omega
 refine qF rfl (qF (decide_eq_true ⟨by simp,by decide,by decide,by simp;omega,rfl⟩) ?_)
 unfold qD2
 by_cases h6:60<q.2.2.length+1
 ·rw [if_pos (.inl h6)]
  refine qF (decide_eq_true (by omega)) ?_
  rw [qC,w2]
  simp only [qCX,qCt,List.map_append,List.length_append]
  rfl
 ·refine qO (decide_eq_false (by omega)) (qA (h1 k (by omega)) ?_)
  cases ho:qCI x with
  |true=>
   rw [if_neg (fun e=>e.elim h6 (by simp))]
   refine qO rfl ?_
   rw [qC,w2]
   simp only [qCX,qCt,List.map_append,List.length_append]
   rfl
  |false=>
   rw [if_pos (.inr rfl)]
   refine qF rfl ?_
   rw [qC,w2]
   simp only [qCX,qCt,List.map_append,List.length_append]
   rfl
theorem qMh {s:List UInt8} (hs:s.length≤1000) (n:Nat) (at0:Int) (b:Bool) (m:Nat) (rows:List (List PV)):∀(r:List UInt8) (M:Nat),r<:+s→r.length+1≤M→zC (qCB n) M (at0,BR s,pos s r,b,m,rows)=some (at0,BR s,pos s (wr r),b,m,rows)
 |r,0,_,h=>by omega
 | [],M+1,h,_=>by
  exact qQ (qO (decide_eq_false (show ¬pos s []<((BR s).size:Int) by rw [qe];unfold pos;simp)) rfl)
 |c::t,M+1,h,hM=>by
  have hl:=qDG h
  simp only [List.length_cons] at hl hM
  have g:=qLW h
  have p1:pos s (c::t)<((BR s).size:Int):=by rw [qe];unfold pos;simp only [List.length_cons];omega
  have p0:decide (0≤pos s (c::t))=true:=decide_eq_true (qKC _ _)
  have w1:IntKind.i64.wrap (pos s (c::t)+1)=pos s t:=by
   have:=qJd (k:=1) h (t:=t) rfl (by simp)
   rw [qX (by unfold pos;omega)];exact this
  have yes:(wch c=true)→(qCB n (at0,BR s,pos s (c::t),b,m,rows)).run=some (.inl (at0,BR s,pos s t,b,m,rows)):=fun hc=>by
   have fin:some (Sum.inl (at0,BR s,IntKind.i64.wrap (pos s (c::t)+1),b,m,rows))=(some (Sum.inl (at0,BR s,pos s t,b,m,rows)):Option (_⊕(Int×ByteArray×Int×Bool×Nat×List (List PV)))):=by rw [w1]
   refine qF (decide_eq_true p1) (qF p0 (qA g ?_))
   by_cases a1:(c.toNat:Int)≥65
   ·refine qF (decide_eq_true a1) (qF p0 (qA g ?_))
    by_cases a2:(c.toNat:Int)≤90
    ·exact qF (decide_eq_true a2) fin
    ·refine qO (decide_eq_false a2) (qF p0 (qA g ?_))
     by_cases a3:(c.toNat:Int)≥48
     ·refine qF (decide_eq_true a3) (qF p0 (qA g ?_))
      by_cases a4:(c.toNat:Int)≤57
      ·exact qF (decide_eq_true a4) fin
      ·refine qO (decide_eq_false a4) (qF p0 (qA g ?_))
       have a5:c=36:=by
        unfold wch at hc
        simp only [Bool.or_eq_true,Bool.and_eq_true,decide_eq_true_eq,beq_iff_eq] at hc
        rcases hc with hc|hc|hc
        ·omega
        ·omega
        ·exact hc
       exact qF (by rw [a5];rfl) fin
     ·omega
   ·refine qO (decide_eq_false a1) (qF p0 (qA g ?_))
    by_cases a3:(c.toNat:Int)≥48
    ·refine qF (decide_eq_true a3) (qF p0 (qA g ?_))
     by_cases a4:(c.toNat:Int)≤57
     ·exact qF (decide_eq_true a4) fin
     ·refine qO (decide_eq_false a4) (qF p0 (qA g ?_))
      have a5:c=36:=by
       unfold wch at hc
       simp only [Bool.or_eq_true,Bool.and_eq_true,decide_eq_true_eq,beq_iff_eq] at hc
       rcases hc with hc|hc|hc
       ·omega
       ·omega
       ·exact hc
      exact qF (by rw [a5];rfl) fin
    ·refine qO (decide_eq_false a3) (qF p0 (qA g ?_))
     have a5:c=36:=by
      unfold wch at hc
      simp only [Bool.or_eq_true,Bool.and_eq_true,decide_eq_true_eq,beq_iff_eq] at hc
      rcases hc with hc|hc|hc
      ·omega
      ·omega
      ·exact hc
     exact qF (by rw [a5];rfl) fin
  have no:(wch c=false)→(qCB n (at0,BR s,pos s (c::t),b,m,rows)).run=some (.inr (at0,BR s,pos s (c::t),b,m,rows)):=fun hc=>by
   have hc':¬((65≤c.toNat∧c.toNat≤90)∨(48≤c.toNat∧c.toNat≤57)∨c=36):=fun e=>by
    have:wch c=true:=by
     unfold wch
     simp only [Bool.or_eq_true,Bool.and_eq_true,decide_eq_true_eq,beq_iff_eq]
     exact e
    rw [hc] at this;cases this
   have a5:((c.toNat:Int)==36)=false:=by
    rw [beq_eq_false_iff_ne];intro e
    exact hc' (.inr (.inr (UInt8.toNat_inj.1 (show c.toNat=36 by omega))))
   refine qF (decide_eq_true p1) (qF p0 (qA g ?_))
   by_cases a1:(c.toNat:Int)≥65
   ·have a2:¬(c.toNat:Int)≤90:=fun e=>hc' (.inl ⟨by omega,by omega⟩)
    refine qF (decide_eq_true a1) (qF p0 (qA g (qO (decide_eq_false a2) ?_)))
    refine qF p0 (qA g (qF (decide_eq_true (show (c.toNat:Int)≥48 by omega)) ?_))
    exact qF p0 (qA g (qO (decide_eq_false (show ¬(c.toNat:Int)≤57 by omega)) (qF p0 (qA g (qO a5 rfl)))))
   ·refine qO (decide_eq_false a1) (qF p0 (qA g ?_))
    by_cases a3:(c.toNat:Int)≥48
    ·have a4:¬(c.toNat:Int)≤57:=fun e=>hc' (.inr (.inl ⟨by omega,by omega⟩))
     exact qF (decide_eq_true a3) (qF p0 (qA g (qO (decide_eq_false a4) (qF p0 (qA g (qO a5 rfl))))))
    ·exact qO (decide_eq_false a3) (qF p0 (qA g (qO a5 rfl)))
  cases hc:wch c with
  |true=>
   rw [qc (yes hc),show wr (c::t)=wr t by simp [wr,hc]]
   exact qMh hs n at0 b m rows t M (qN3 h) (by omega)
  |false=>
   rw [qQ (no hc),show wr (c::t)=c::t by simp [wr,hc]]
theorem qN4 {s:List UInt8} (hs:s.length≤1000) (q:PS) (h:q.1<:+s):Ev (qC3 · (BR s) (pos s q.1) q.2.1 q.2.2.length (q.2.2.map qd)) (BR (wd q.1),qCt s (wr q.1,q.2)):=by
 have hl:=qDG h
 have hw:=qGY q.1
 have hd:=congrArg List.length (wdr q.1)
 simp only [List.length_append] at hd
 refine ⟨q.1.length+2,fun n hn=>?_⟩
 obtain ⟨k,rfl,hm⟩:=up1 hn
 refine qA (qMh hs k (pos s q.1) q.2.1 q.2.2.length (q.2.2.map qd) q.1 k h (by omega)) (qF (decide_eq_true ⟨qKC _ _,by unfold pos;simp only;omega,by rw [qe];unfold pos;simp only;omega⟩) ?_)
 rw [qC]
 have e:(pos s (wr q.1))=pos s q.1+((wd q.1).length:Int):=by unfold pos;omega
 have x:=qNJ (k:=(wd q.1).length) h
 rw [←e] at x
 have t:q.1.take (wd q.1).length=wd q.1:=by
  have:=List.take_left (l₁:=wd q.1) (l₂:=wr q.1)
  rwa [wdr] at this
 rw [t] at x
 show some ((BR s).extract (pos s q.1).toNat (pos s (wr q.1)).toNat,_)=_
 rw [x]
 rfl
theorem qGy {s:List UInt8} (hs:s.length≤1000) {n:Nat} (b:Bool) (l:List Nd) (res:Int×PS):∀(k:Nat) (r acc:List UInt8) (M:Nat),r.length≤k→r<:+s→acc.length+r.length≤1001→r.length+1≤M→
  (∀w t,qBx acc r=some (w,t)→qw n 1 0 2 0 (BR w) 0 0 false false 0 0 false false [] (BR s) (pos s t) b l.length (l.map qd)=some (qCX s res))→
  zC (qDv n) M (BR acc,BR s,pos s r,b,l.length,l.map qd)=some (match qBx acc r with
   |none=> .inr (BR s,pos s [],b,l.length,l.map qd)
   |some _=> .inl (qCX s res))
 |k,r,acc,0,_,_,_,h,_=>by omega
 |k,[],acc,M+1,_,h,_,_,_=>by
  exact qQ (qO (decide_eq_false (show ¬pos s []<((BR s).size:Int) by rw [qe];unfold pos;simp)) rfl)
 |0,c::t,acc,M+1,hk,_,_,_,_=>by simp at hk
 |k+1,c::t,acc,M+1,hk,h,ha,hM,hr=>by
  have hl:=qDG h
  simp only [List.length_cons] at hl hM hk ha
  have g:=qLW h
  have p1:pos s (c::t)<((BR s).size:Int):=by rw [qe];unfold pos;simp only [List.length_cons];omega
  have p0:decide (0≤pos s (c::t))=true:=decide_eq_true (qKC _ _)
  have pa:=qJd (k:=1) h (t:=t) rfl (by simp)
  have w1:IntKind.i64.wrap (pos s (c::t)+1)=pos s t:=by rw [qX (by unfold pos;omega)];exact pa
  by_cases hc:c=34
  ·subst hc
   have ht:=qN3 h
   by_cases hq:t.head?=some 34
   ·obtain ⟨u,rfl⟩:=qJc hq
    simp only [List.length_cons] at hl hM hk ha
    rw [qSZ] at hr⊢
    have g2:=qLW ht
    have pb:=qJd (k:=1) ht (t:=u) rfl (by simp)
    have w2:IntKind.i64.wrap (pos s (34::u)+1)=pos s u:=by rw [qX (by unfold pos;omega)];exact pb
    rw [qc (v':=(BR (acc++ [34]),BR s,pos s u,b,l.length,l.map qd)) (by
     refine qF (decide_eq_true p1) (qF p0 (qA g (qO rfl (qO (decide_eq_false (show ¬IntKind.i64.wrap (pos s (34::34::u)+1)≥((BR s).size:Int) by rw [w1,qe];unfold pos;simp only [List.length_cons];omega)) (qF (decide_eq_true (show 0≤IntKind.i64.wrap (pos s (34::34::u)+1) by rw [w1];exact qKC _ _)) (qA (x:=34) (by show (BR s).toList[(IntKind.i64.wrap (pos s (34::34::u)+1)).toNat]?=_;rw [w1];exact g2) (qO rfl (qF (decide_eq_true (show (BR acc).size+1≤9223372036854775807 by rw [qe];omega)) ?_))))))))
     rw [qC]
     show some (Sum.inl (BR acc++BR [34],BR s,IntKind.i64.wrap (IntKind.i64.wrap (pos s (34::34::u)+1)+1),b,l.length,l.map qd))=_
     rw [w1,w2,qMV])]
    exact qGy hs b l res k u _ M (by omega) (qN3 ht) (by simp;omega) (by omega) hr
   ·rw [qSa acc t hq] at hr⊢
    have hr:=hr acc t rfl
    refine qQ (qF (decide_eq_true p1) (qF p0 (qA g (qO rfl ?_))))
    cases t with
    |nil=>
     refine qF (decide_eq_true (show IntKind.i64.wrap (pos s [34]+1)≥((BR s).size:Int) by rw [w1,qe];unfold pos;simp)) ?_
     rw [←w1] at hr
     exact qA hr rfl
    |cons d u=>
     have g2:=qLW ht
     have hd:¬d=34:=fun e=>hq (by rw [e];rfl)
     refine qO (decide_eq_false (show ¬IntKind.i64.wrap (pos s (34::d::u)+1)≥((BR s).size:Int) by rw [w1,qe];unfold pos;simp only [List.length_cons] at hl⊢;omega)) (qF (decide_eq_true (show 0≤IntKind.i64.wrap (pos s (34::d::u)+1) by rw [w1];exact qKC _ _)) (qA (x:=d) (by show (BR s).toList[(IntKind.i64.wrap (pos s (34::d::u)+1)).toNat]?=_;rw [w1];exact g2) (qF ?_ ?_)))
     ·rw [bne_iff_ne]
      intro e
      exact hd (UInt8.toNat_inj.1 (show d.toNat=34 by omega))
     ·rw [←w1] at hr
      exact qA hr rfl
  ·rw [qSb acc t hc] at hr⊢
   have hx:=qNJ (k:=1) h
   rw [show ((1:Nat):Int)=1 from rfl] at hx pa
   have hx:(BR s).extract (pos s (c::t)).toNat (IntKind.i64.wrap (pos s (c::t)+1)).toNat=BR [c]:=by
    rw [w1,←pa];exact hx
   rw [qc (v':=(BR (acc++ [c]),BR s,pos s t,b,l.length,l.map qd)) (by
    refine qF (decide_eq_true p1) (qF p0 (qA g (qF ?_ (qF (decide_eq_true (show 0≤pos s (c::t)∧pos s (c::t)≤IntKind.i64.wrap (pos s (c::t)+1)∧IntKind.i64.wrap (pos s (c::t)+1)≤((BR s).size:Int) by rw [w1,qe];exact ⟨qKC _ _,by unfold pos;simp only [List.length_cons];omega,by unfold pos;omega⟩)) (qF (decide_eq_true (show (BR acc).size+((BR s).extract (pos s (c::t)).toNat (IntKind.i64.wrap (pos s (c::t)+1)).toNat).size≤9223372036854775807 by rw [hx,qe,qe];simp;omega)) ?_)))))
    ·rw [bne_iff_ne]
     intro e
     exact hc (UInt8.toNat_inj.1 (show c.toNat=34 by omega))
    ·rw [qC]
     show some (Sum.inl (BR acc++(BR s).extract (pos s (c::t)).toNat (IntKind.i64.wrap (pos s (c::t)+1)).toNat,BR s,IntKind.i64.wrap (pos s (c::t)+1),b,l.length,l.map qd))=_
     rw [hx,qMV,w1])]
   exact qGy hs b l res k t _ M (by omega) (qN3 h) (by simp;omega) (by omega) hr
theorem qRs {s:List UInt8} (hs:s.length≤1000) (q:PS) (h:q.1<:+s) (hn:q.2.2.length≤5000):Ev (qE2 · (BR s) (pos s q.1) q.2.1 q.2.2.length (q.2.2.map qd)) (qCX s (match qBx [] q.1 with
  |none=>(0,[],true,q.2.2)
  |some (w,t)=>qD2 (nd1 (2,0,BR w)) (t,q.2))):=by
 have hl:=qDG h
 cases hq:qBx [] q.1 with
 |none=>
  refine ⟨q.1.length+2,fun n hn=>?_⟩
  obtain ⟨k,rfl,hm⟩:=up1 hn
  have lp:=qGy hs (n:=k) q.2.1 q.2.2 (0,q) q.1.length q.1 [] k (Nat.le_refl _) h (by simp;omega) (by omega) (fun w t e=>by rw [hq] at e;cases e)
  rw [hq] at lp
  exact qA lp rfl
 |some wt=>
  obtain ⟨w,t⟩:=wt
  have hw:=qGa _ _ _ (Nat.le_refl _) hq
  simp only [List.length_nil] at hw
  obtain ⟨n1,h1⟩:=qJQ (s:=s) (nd1 (2,0,BR w)) (t,q.2) hn ⟨by simp [kd,nd1],by simp only [nd1,qe];omega⟩
  refine ⟨n1+q.1.length+2,fun n hn=>?_⟩
  obtain ⟨k,rfl,hm⟩:=up1 hn
  have lp:=qGy hs (n:=k) q.2.1 q.2.2 (qD2 (nd1 (2,0,BR w)) (t,q.2)) q.1.length q.1 [] k (Nat.le_refl _) h (by simp;omega) (by omega) (fun w' t' e=>by rw [hq] at e;cases e;exact h1 k (by omega))
  rw [hq] at lp
  exact qA lp rfl
theorem qPZ:∀o∈qCE,(qo o).toList≠ []∧(qo o).size≤2:=by decide+kernel
theorem qRt:∀o∈qCE,1≤o∧o≤11:=by decide
def opR:List (List PV):=qCE.map qBE
def rsL (level:Int) (r:List UInt8):List Int→List UInt8
 | []=>r
 |o::l=>if lvl o=level then rsL level (tb r) l else rsL level r l
theorem qMY {s:List UInt8} (hs:s.length≤1000) {n:Nat} (level:Int) (R:List UInt8) (hR:tb R=R) (m:Nat) (rows:List (List PV))
  (h1:∀o∈qCE,qCQ n o=some (lvl o)) (h2:∀o∈qCE,qCG n o=some (qo o)):
  ∀(k i:Nat) (r:List UInt8) (M:Nat),i+k=11→k+1≤M→tb r=R→
  (∀r',tb r'=R→(r'=r∨r'=R)→∀o∈qCE,qAH n (qo o) (BR s) (pos s r') false m rows=some (if (qo o).toList.isPrefixOf R=true then (true,BR s,pos s (R.drop (qo o).size),false,m,rows) else (false,BR s,pos s R,false,m,rows)))→
  zC (qEg n) M (level,11,(i:Int),opR,BR s,pos s r,false,m,rows)=some (if qDm level R (qCE.drop i)=0 then .inr (BR s,pos s (rsL level r (qCE.drop i)),false,m,rows) else .inl (qDm level R (qCE.drop i),BR s,pos s (R.drop (qo (qDm level R (qCE.drop i))).size),false,m,rows))
 |k,i,r,0,_,h,_,_=>by omega
 |0,i,r,M+1,hk,_,_,_=>by
  have hi:i=11:=by omega
  subst hi
  exact qQ (qO rfl rfl)
 |k+1,i,r,M+1,hk,hM,hr,h3=>by
  have hi:i<qCE.length:=by simp [qCE];omega
  obtain ⟨o,ho⟩:∃o,qCE[i]?=some o:=⟨_,List.getElem?_eq_getElem hi⟩
  have hin:=List.mem_of_getElem? ho
  have hR2:opR[i]?=some [PV.i .i64 o]:=by simp [opR,List.getElem?_map,ho,qBE]
  have hc:zF .i64 [PV.i .i64 o] 0=some o:=rfl
  have hd:qCE.drop i=o::qCE.drop (i+1):=qE4 ho
  have w5:IntKind.i64.wrap ((i:Int)+1)=((i+1:Nat):Int):=by rw [qX (by omega)];omega
  have g1:decide ((i:Int)<((11:Nat):Int))=true:=decide_eq_true (by omega)
  have g2:decide (11=opR.length∧0≤(i:Int)∧(i:Int)<((11:Nat):Int))=true:=decide_eq_true ⟨rfl,by omega,by omega⟩
  have h0:o≠0:=by have:=qRt o hin;omega
  rw [hd]
  by_cases hl:lvl o=level
  ·have is:=h3 r hr (.inl rfl) o hin
   by_cases hp:(qo o).toList.isPrefixOf R=true
   ·have e:qDm level R (o::qCE.drop (i+1))=o:=by unfold qDm;rw [if_pos ⟨hl,hp⟩]
    rw [e,if_neg h0]
    rw [if_pos hp] at is
    exact qQ (qF g1 (qF g2 (qA hR2 (qA hc (qA (h1 o hin) (qF (beq_iff_eq.2 hl) (qF g2 (qA hR2 (qA hc (qA (h2 o hin) (qA is (qF rfl (qF g2 (qA hR2 (qA hc rfl)))))))))))))))
   ·have e:qDm level R (o::qCE.drop (i+1))=qDm level R (qCE.drop (i+1)):=by
     conv=>lhs;unfold qDm
     rw [if_neg (fun h=>hp h.2)]
    have e2:rsL level r (o::qCE.drop (i+1))=rsL level R (qCE.drop (i+1)):=by
     conv=>lhs;unfold rsL
     rw [if_pos hl,hr]
    rw [e,e2]
    rw [if_neg hp] at is
    rw [qc (v':=(level,11,((i+1:Nat):Int),opR,BR s,pos s R,false,m,rows)) (by
     refine qF g1 (qF g2 (qA hR2 (qA hc (qA (h1 o hin) (qF (beq_iff_eq.2 hl) (qF g2 (qA hR2 (qA hc (qA (h2 o hin) (qA is (qO rfl ?_)))))))))))
     rw [qC,w5])]
    exact qMY hs level R hR m rows h1 h2 k (i+1) R M (by omega) (by omega) hR (fun r' a b=>h3 r' a (.inr (b.elim id id)))
  ·have e:qDm level R (o::qCE.drop (i+1))=qDm level R (qCE.drop (i+1)):=by
    conv=>lhs;unfold qDm
    rw [if_neg (fun h=>hl h.1)]
   have e2:rsL level r (o::qCE.drop (i+1))=rsL level r (qCE.drop (i+1)):=by
    conv=>lhs;unfold rsL
    rw [if_neg hl]
   rw [e,e2]
   rw [qc (v':=(level,11,((i+1:Nat):Int),opR,BR s,pos s r,false,m,rows)) (by
    refine qF g1 (qF g2 (qA hR2 (qA hc (qA (h1 o hin) (qO (beq_eq_false_iff_ne.2 hl) ?_)))))
    rw [qC,w5])]
   exact qMY hs level R hR m rows h1 h2 k (i+1) r M (by omega) (by omega) hr h3
theorem qS2 {level:Int} (h:1≤level∧level≤4) (r:List UInt8):rsL level r qCE=tb r:=by
 have c:level=1∨level=2∨level=3∨level=4:=by omega
 rcases c with rfl|rfl|rfl|rfl<;>simp [rsL,qCE,lvl,qCW]
theorem qS3 {s:List UInt8} (hs:s.length≤1000) {level:Int} (hl:1≤level∧level≤4) (q:PS) (hb:q.2.1=false) (h:q.1<:+s):Ev (qEh · level (BR s) (pos s q.1) q.2.1 q.2.2.length (q.2.2.map qd)) (qCX s (sOp level q)):=by
 obtain ⟨n1,h1⟩:=qCk (F:=fun o n=>qCQ n o) (f:=lvl) qCE (fun o _=>qIb o)
 obtain ⟨n2,h2⟩:=qCk (F:=fun o n=>qCG n o) (f:=qo) qCE (fun o ho=>qGW o (qRt o ho))
 obtain ⟨n3,h3⟩:=qCk (F:=fun o n=>qAH n (qo o) (BR s) (pos s q.1) q.2.1 q.2.2.length (q.2.2.map qd)) (f:=fun o=>((sIs (qo o).toList q).1,qCt s (sIs (qo o).toList q).2)) qCE (fun o ho=>by
  have:=qGb hs (qo o).toList (by rw [qAK];have:=(qPZ o ho).2;omega) q h
  rwa [qEv] at this)
 obtain ⟨n4,h4⟩:=qCk (F:=fun o n=>qAH n (qo o) (BR s) (pos s (tb q.1)) q.2.1 q.2.2.length (q.2.2.map qd)) (f:=fun o=>((sIs (qo o).toList (tb q.1,q.2)).1,qCt s (sIs (qo o).toList (tb q.1,q.2)).2)) qCE (fun o ho=>by
  have:=qGb hs (qo o).toList (by rw [qAK];have:=(qPZ o ho).2;omega) (tb q.1,q.2) (qQi h)
  rwa [qEv] at this)
 refine ⟨n1+n2+n3+n4+13,fun n hn=>?_⟩
 obtain ⟨k,rfl,hm⟩:=up1 hn
 have lp:=qMY hs (n:=k) level (tb q.1) (qCW q.1) q.2.2.length (q.2.2.map qd) (h1 k (by omega)) (h2 k (by omega)) 11 0 q.1 k (by omega) (by omega) rfl (fun r' _ hr' o ho=>by
  rcases hr' with rfl|rfl
  ·have:=h3 k (by omega) o ho
   rw [hb] at this
   refine this.trans ?_
   unfold sIs
   rw [if_neg (by rw [hb];simp)]
   by_cases hp:(qo o).toList.isPrefixOf (tb q.1)=true
   ·rw [if_pos hp,if_pos hp,qAK];simp only [qCt,hb]
   ·rw [if_neg hp,if_neg hp];simp only [qCt,hb]
  ·have:=h4 k (by omega) o ho
   rw [hb] at this
   refine this.trans ?_
   unfold sIs
   rw [if_neg (by rw [hb];simp)]
   simp only [qCW]
   by_cases hp:(qo o).toList.isPrefixOf (tb q.1)=true
   ·rw [if_pos hp,if_pos hp,qAK];simp only [qCt,hb]
   ·rw [if_neg hp,if_neg hp];simp only [qCt,hb])
 rw [List.drop_zero,qS2 hl] at lp
 unfold sOp
 rw [if_neg (by rw [hb];simp)]
 show qEh (k+1) level (BR s) (pos s q.1) q.2.1 q.2.2.length (q.2.2.map qd)=_
 rw [hb]
 by_cases h0:qDm level (tb q.1) qCE=0
 ·rw [if_pos h0] at lp
  rw [if_pos h0]
  refine qA lp ?_
  simp only [qCX,qCt,hb,h0]
  rfl
 ·rw [if_neg h0] at lp
  rw [if_neg h0]
  refine qA lp ?_
  simp only [qCX,qCt,hb]
  rfl
theorem qN5 {s:List UInt8} (hs:s.length≤1000) {n:Nat} (r:List UInt8) (hr:r<:+s) (b:Bool) (l:List Nd)
  (h1:∀i,1≤i∧i≤5→qBX n i=some (qY i)) (h2:∀i,1≤i∧i≤5→qC2 n i=some (4,i,em))
  (h4:∀i,1≤i∧i≤5→qw n 1 0 4 i em 0 0 false false 0 0 false false [] (BR s) (pos s (r.drop ((qY i).size-1))) b l.length (l.map qd)=some (qCX s (qD2 (nd1 (4,i,em)) (r.drop ((qY i).size-1),b,l)))):
  ∀(k:Nat) (i:Int) (M:Nat),1≤i→i+k=6→k+1≤M→zC (qCj n) M (i,BR s,pos s r,b,l.length,l.map qd)=some (match qP1 r i k with
   |some e=> .inl (qCX s (qD2 (nd1 (4,e,em)) (r.drop ((qY e).size-1),b,l)))
   |none=> .inr (BR s,pos s r,b,l.length,l.map qd))
 |k,i,0,_,_,h=>by omega
 |0,i,M+1,hi,hk,h=>by
  exact qQ (qO (decide_eq_false (show ¬i≤5 by omega)) rfl)
 |k+1,i,M+1,hi,hk,h=>by
  have hi5:1≤i∧i≤5:=⟨hi,by omega⟩
  have hsz:1≤(qY i).size∧(qY i).size≤7:=by
   have c:i=1∨i=2∨i=3∨i=4∨i=5:=by omega
   rcases c with rfl|rfl|rfl|rfl|rfl<;>decide+kernel
  have hx:(qY i).extract ((1:Int)).toNat (((qY i).size:Nat):Int).toNat=BR (qY i).toList.tail:=by
   conv=>lhs;rw [←qEv (qY i)]
   rw [qE5,qe,qAK]
   congr 1
   rw [Int.toNat_natCast,List.take_of_length_le (by rw [qAK];omega)]
   exact List.drop_one
  have hxs:((qY i).extract ((1:Int)).toNat (((qY i).size:Nat):Int).toNat).size=(qY i).size-1:=by
   rw [hx,qe,List.length_tail,qAK]
  have hl:=qDG hr
  have w1:IntKind.i64.wrap (pos s r+(((qY i).extract ((1:Int)).toNat (((qY i).size:Nat):Int).toNat).size:Int))=pos s r+(((qY i).size-1:Nat):Int):=by
   rw [hxs];exact qX (by unfold pos;omega)
  have w2:IntKind.i64.wrap (i+1)=i+1:=qX (by omega)
  have ih:=qN5 hs r hr b l h1 h2 h4 k (i+1) M (by omega) (by omega) (by omega)
  unfold qP1
  by_cases hf:pos s r+(((qY i).size-1:Nat):Int)≤(s.length:Int)
  ·have hk2:(qY i).size-1≤r.length:=by unfold pos at hf;omega
   have cmp:(((BR s).extract (pos s r).toNat (IntKind.i64.wrap (pos s r+(((qY i).extract ((1:Int)).toNat (((qY i).size:Nat):Int).toNat).size:Int))).toNat).toList==((qY i).extract ((1:Int)).toNat (((qY i).size:Nat):Int).toNat).toList)=true↔(qY i).toList.tail.isPrefixOf r=true:=by
    rw [w1,qNJ hr,hx,qAO,qAO,beq_iff_eq,List.isPrefixOf_iff_prefix,List.prefix_iff_eq_take,List.length_tail,qAK]
    exact ⟨fun e=>e.symm,fun e=>e.symm⟩
   have g1:decide (IntKind.i64.wrap (pos s r+(((qY i).extract ((1:Int)).toNat (((qY i).size:Nat):Int).toNat).size:Int))≤((BR s).size:Int))=true:=decide_eq_true (by rw [w1,qe];exact hf)
   have g2:decide (0≤pos s r∧pos s r≤IntKind.i64.wrap (pos s r+(((qY i).extract ((1:Int)).toNat (((qY i).size:Nat):Int).toNat).size:Int))∧IntKind.i64.wrap (pos s r+(((qY i).extract ((1:Int)).toNat (((qY i).size:Nat):Int).toNat).size:Int))≤((BR s).size:Int))=true:=decide_eq_true (by rw [w1,qe];exact ⟨qKC _ _,by omega,hf⟩)
   by_cases hp:(qY i).toList.tail.isPrefixOf r=true
   ·rw [if_pos hp]
    have h4:=h4 i hi5
    rw [←qJd hr rfl hk2,←w1] at h4
    exact qQ (qF (decide_eq_true (show i≤5 by omega)) (qA (h1 i hi5) (qF (decide_eq_true ⟨by decide,by omega,Int.le_refl _⟩) (qF g1 (qF g2 (qF (cmp.2 hp) (qA (h2 i hi5) (qA h4 rfl))))))))
   ·rw [if_neg hp]
    rw [qc (v':=(i+1,BR s,pos s r,b,l.length,l.map qd)) (by
     refine qF (decide_eq_true (show i≤5 by omega)) (qA (h1 i hi5) (qF (decide_eq_true ⟨by decide,by omega,Int.le_refl _⟩) (qF g1 (qF g2 (qO (by rw [Bool.eq_false_iff];exact fun e=>hp (cmp.1 e)) ?_)))))
     rw [qC,w2])]
    exact ih
  ·have hp:¬(qY i).toList.tail.isPrefixOf r=true:=by
    intro e
    have:=(List.isPrefixOf_iff_prefix.1 e).length_le
    rw [List.length_tail,qAK] at this
    unfold pos at hf
    omega
   rw [if_neg hp]
   rw [qc (v':=(i+1,BR s,pos s r,b,l.length,l.map qd)) (by
    refine qF (decide_eq_true (show i≤5 by omega)) (qA (h1 i hi5) (qF (decide_eq_true ⟨by decide,by omega,Int.le_refl _⟩) (qO (decide_eq_false (by rw [w1,qe];exact hf)) ?_)))
    rw [qC,w2])]
   exact ih
theorem qSf {s:List UInt8} (hs:s.length≤1000) (r:List UInt8) (hr:r<:+s) (b:Bool) (l:List Nd) (hl:l.length≤5000):∃n0,∀n,n0≤n→∀M,n0≤M→zC (qCj n) M (1,BR s,pos s r,b,l.length,l.map qd)=some (match qP1 r 1 5 with
   |some e=> .inl (qCX s (qD2 (nd1 (4,e,em)) (r.drop ((qY e).size-1),b,l)))
   |none=> .inr (BR s,pos s r,b,l.length,l.map qd)):=by
 obtain ⟨n1,h1⟩:=qFu (F:=qBX) (f:=qY) (lo:=1) (by decide) (fun i hi=>qGU i ⟨by omega,hi.2⟩)
 obtain ⟨n2,h2⟩:=qFu (F:=qC2) (f:=fun i=>(4,i,em)) (lo:=1) (by decide) (fun i _=>qNE i)
 obtain ⟨n4,h4⟩:=qFu (F:=fun n i=>qw n 1 0 4 i em 0 0 false false 0 0 false false [] (BR s) (pos s (r.drop ((qY i).size-1))) b l.length (l.map qd)) (f:=fun i=>qCX s (qD2 (nd1 (4,i,em)) (r.drop ((qY i).size-1),b,l))) (lo:=1) (by decide) (fun i _=>qJQ (s:=s) (nd1 (4,i,em)) (r.drop ((qY i).size-1),b,l) hl ⟨by simp [kd,nd1],by simp [nd1,em];decide⟩)
 exact ⟨n1+n2+n4+7,fun n hn M hM=>qN5 hs r hr b l (h1 n (by omega)) (h2 n (by omega)) (h4 n (by omega)) 5 1 M (by omega) (by omega) (by omega)⟩
theorem qSg:∃n0,∀n,n0≤n→∀i,1≤i∧i≤10→qCh n i=some (fnS i):=by
 obtain ⟨n1,h1⟩:=qCk (F:=fun (i:Nat) n=>qCh n ((i:Int)+1)) (f:=fun i=>fnS ((i:Int)+1)) (List.range 10) (fun i hi=>qLN _ (by have:=List.mem_range.1 hi;omega))
 refine ⟨n1,fun n hn i hi=>?_⟩
 have:=h1 n hn (i-1).toNat (List.mem_range.2 (by omega))
 rwa [show (((i-1).toNat:Nat):Int)+1=i by omega] at this
theorem qS4 {i j:Int} (hi:1≤i∧i≤10) (hj:1≤j∧j≤10) (h:(fnS i).toList=(fnS j).toList):i=j:=by
 have t:∀a:Fin 10,∀b:Fin 10,(fnS (((a.val:Nat):Int)+1)).toList=(fnS (((b.val:Nat):Int)+1)).toList→a=b:=by decide+kernel
 have:=t ⟨(i-1).toNat,by omega⟩ ⟨(j-1).toNat,by omega⟩ (by
  simp only
  rw [show (((i-1).toNat:Nat):Int)+1=i by omega,show (((j-1).toNat:Nat):Int)+1=j by omega]
  exact h)
 have:=congrArg Fin.val this
 simp only at this
 omega
theorem qO1 {g:G_spec_l3Rd_row} {n:Nat} {s:List UInt8} (w:List UInt8) (q:PS) (h1:∀i,1≤i∧i≤10→qCh n i=some (fnS i)):
  ∀(k:Nat) (i:Int) (M:Nat),1≤i→i+k=11→k+1≤M→(∀j,i≤j∧j≤10→(fnS j).toList≠w)→zC (qDD g n) M (BR w,i,qCt s q)=some (.inr (BR w,qCt s q))
 |k,i,0,_,_,h,_=>by omega
 |0,i,M+1,hi,hk,h,_=>qQ (qO (decide_eq_false (show ¬i≤10 by omega)) rfl)
 |k+1,i,M+1,hi,hk,h,hn=>by
  have w1:IntKind.i64.wrap (i+1)=i+1:=qX (by omega)
  rw [qc (v':=(BR w,i+1,qCt s q)) (by
   refine qF (decide_eq_true (show i≤10 by omega)) (qA (h1 i ⟨hi,by omega⟩) (qO (by rw [beq_eq_false_iff_ne];show (fnS i).toList≠(BR w).toList;rw [qAO];exact hn i ⟨Int.le_refl _,by omega⟩) ?_))
   rw [qC,w1])]
  exact qO1 w q h1 k (i+1) M (by omega) (by omega) (by omega) (fun j hj=>hn j ⟨by omega,hj.2⟩)
theorem qJe {g:G_spec_l3Rd_row} {n:Nat} {s:List UInt8} (w:List UInt8) (q:PS) (res:Int→Int×PS) (h1:∀i,1≤i∧i≤10→qCh n i=some (fnS i))
  (h2:qAH n ⟨#[40]⟩ (BR s) (pos s q.1) q.2.1 q.2.2.length (q.2.2.map qd)=some ((sIs [40] q).1,qCt s (sIs [40] q).2)):
  ∀(k:Nat) (i:Int) (M:Nat),1≤i→i+k=11→k+1≤M→(∀op,qFR w i k=some op→(sIs [40] q).1=true→g.spec_l3Rd_call op (BR s) (pos s (sIs [40] q).2.1) (sIs [40] q).2.2.1 (sIs [40] q).2.2.2.length ((sIs [40] q).2.2.2.map qd)=some (qCX s (res op)))→
   zC (qDD g n) M (BR w,i,qCt s q)=some (match qFR w i k with
   |some op=>if (sIs [40] q).1=true then .inl (qCX s (res op)) else .inr (BR w,qCt s (sIs [40] q).2)
   |none=> .inr (BR w,qCt s q))
 |k,i,0,_,_,h,_=>by omega
 |0,i,M+1,hi,hk,h,_=>qQ (qO (decide_eq_false (show ¬i≤10 by omega)) rfl)
 |k+1,i,M+1,hi,hk,h,hc=>by
  have w1:IntKind.i64.wrap (i+1)=i+1:=qX (by omega)
  unfold qFR at hc⊢
  by_cases hq:(fnS i).toList=w
  ·rw [if_pos hq] at hc⊢
   have hqb:((fnS i).toList==(BR w).toList)=true:=by rw [beq_iff_eq,qAO];exact hq
   simp only
   cases hi2:(sIs [40] q).1 with
   |true=>
    rw [if_pos rfl]
    exact qQ (qF (decide_eq_true (show i≤10 by omega)) (qA (h1 i ⟨hi,by omega⟩) (qF hqb (qA h2 (qF hi2 (qA (hc i rfl hi2) rfl))))))
   |false=>
    rw [if_neg (by simp)]
    rw [qc (v':=(BR w,i+1,qCt s (sIs [40] q).2)) (by
     refine qF (decide_eq_true (show i≤10 by omega)) (qA (h1 i ⟨hi,by omega⟩) (qF hqb (qA h2 (qO hi2 ?_))))
     rw [qC,w1])]
    exact qO1 w _ h1 k (i+1) M (by omega) (by omega) (by omega) (fun j hj e=>by
     have:=qS4 (i:=i) (j:=j) ⟨hi,by omega⟩ ⟨by omega,hj.2⟩ (hq.trans e.symm)
     omega)
  ·rw [if_neg hq] at hc⊢
   rw [qc (v':=(BR w,i+1,qCt s q)) (by
    refine qF (decide_eq_true (show i≤10 by omega)) (qA (h1 i ⟨hi,by omega⟩) (qO (by rw [beq_eq_false_iff_ne];show (fnS i).toList≠(BR w).toList;rw [qAO];exact hq) ?_))
    rw [qC,w1])]
   exact qJe w q res h1 h2 k (i+1) M (by omega) (by omega) (by omega) hc
structure Go (k:Nat) (q q':PS):Prop where
 suf:q'.1<:+q.1
 sum:q'.2.2.length+q'.1.length+k≤q.2.2.length+q.1.length
 sm:(∀x∈q.2.2,qOb x)→∀x∈q'.2.2,qOb x
theorem Go.refl (q:PS):Go 0 q q:=⟨List.suffix_rfl,Nat.le_refl _,id⟩
theorem Go.trans {a b:Nat} {p q r:PS} (h:Go a p q) (h':Go b q r):Go (a+b) p r:=⟨h'.suf.trans h.suf,by have:=h.sum;have:=h'.sum;omega,fun e=>h'.sm (h.sm e)⟩
theorem Go.tr0 {p q r:PS} (h:Go 0 p q) (h':Go 0 q r):Go 0 p r:=h.trans h'
theorem Go.add {p q:PS} {x:Nd} (h:Go 1 p q) (hx:qOb x):Go 0 p (qD2 x q).2:=by
 refine ⟨h.suf,?_,fun e y hy=>?_⟩
 ·have:=h.sum
  simp only [qD2,List.length_append,List.length_singleton]
  omega
 ·simp only [qD2,List.mem_append,List.mem_singleton] at hy
  rcases hy with hy|rfl
  ·exact h.sm e y hy
  ·exact hx
theorem Go.weak {k:Nat} {p q:PS} (h:Go k p q):Go 0 p q:=⟨h.suf,by have:=h.sum;omega,h.sm⟩
theorem Go.of (q:PS) {r:List UInt8} (b:Bool) {k:Nat} (h:r<:+q.1) (hk:r.length+k≤q.1.length):Go k q (r,b,q.2.2):=⟨h,by simp only;omega,id⟩
theorem qLX (q:PS):Go 0 q (tb q.1,q.2):=⟨List.dropWhile_suffix _,by have:=qAA q.1;simp only;omega,id⟩
theorem qO2 (q:PS):Go 0 q (wr (tb q.1),q.2):=⟨(List.dropWhile_suffix _).trans (List.dropWhile_suffix _),by have:=qAA q.1;have:=qGY (tb q.1);simp only;omega,id⟩
theorem qRu (q:PS) (h:wd (tb q.1)≠ []):Go 1 q (wr (tb q.1),q.2):=⟨(List.dropWhile_suffix _).trans (List.dropWhile_suffix _),by
 have:=qAA q.1
 have e:=congrArg List.length (wdr (tb q.1))
 have:=List.length_pos_iff.2 h
 simp only [List.length_append] at e
 simp only;omega,id⟩
theorem qKD {w:List UInt8} {q:PS} (h:(sIs w q).1=true):w<+:tb q.1∧(sIs w q).2=((tb q.1).drop w.length,q.2)∧q.2.1=false:=by
 unfold sIs at h⊢
 split at h
 ·cases h
 ·rename_i hb
  rw [if_neg hb]
  split at h
  ·rename_i hp
   rw [if_pos hp]
   exact ⟨List.isPrefixOf_iff_prefix.1 hp,rfl,by rw [Bool.eq_false_iff];exact hb⟩
  ·cases h
theorem qO3 {w:List UInt8} {q:PS} (h:(sIs w q).1=false):(sIs w q).2=(tb q.1,q.2):=by
 unfold sIs at h⊢
 split at h
 ·rename_i hb;rw [if_pos hb]
 ·rename_i hb
  rw [if_neg hb]
  split at h
  ·cases h
  ·rename_i hp;rw [if_neg hp]
theorem qJR (w:List UInt8) (q:PS):Go 0 q (sIs w q).2:=by
 cases h:(sIs w q).1 with
 |true=>
  obtain ⟨_,h2,_⟩:=qKD h
  rw [h2]
  exact Go.tr0 (qLX q) ⟨List.drop_suffix _ _,by simp,id⟩
 |false=>rw [qO3 h];exact qLX q
theorem qEq {w:List UInt8} (hw:w≠ []) {q:PS} (h:(sIs w q).1=true):Go 1 q (sIs w q).2:=by
 obtain ⟨h1,h2,_⟩:=qKD h
 rw [h2]
 have l1:=h1.length_le
 have l2:=List.length_pos_iff.2 hw
 have:=qAA q.1
 exact ⟨(List.drop_suffix _ _).trans (List.dropWhile_suffix _),by simp;omega,id⟩
theorem qN6 {k:Nat} {p q:PS} (h:Go k p q):Go k p (qKl q):=⟨h.suf,h.sum,h.sm⟩
theorem qRv:∀(t r:List UInt8),(tb r).length≤(tb (t++r)).length
 | [],r=>Nat.le_refl _
 |c::t,r=>by
  have ih:=qRv t r
  have:=qAA (t++r)
  by_cases hc:c=32
  ·rw [show tb (c::t++r)=tb (t++r) by simp [tb,hc]];exact ih
  ·rw [show tb (c::t++r)=c::(t++r) by simp [tb,hc]]
   simp only [List.length_cons];omega
theorem Go.tb {k:Nat} {p q:PS} (h:Go k p q):(tb q.1).length≤(tb p.1).length:=by
 obtain ⟨t,ht⟩:=h.suf
 rw [←ht];exact qRv t q.1
theorem qQ9 {w:List UInt8} (hw:w≠ []) {q:PS} (h:(sIs w q).1=true):(tb (sIs w q).2.1).length<(tb q.1).length:=by
 obtain ⟨h1,h2,_⟩:=qKD h
 rw [h2]
 exact qPX hw h1
theorem qRA (level:Int) (r:List UInt8):∀l:List Int,qDm level r l≠0→qDm level r l∈l∧(qo (qDm level r l)).toList<+:r
 | [],h=>absurd rfl h
 |o::l,h=>by
  unfold qDm at h⊢
  split at h
  ·rename_i hc
   rw [if_pos hc]
   exact ⟨List.mem_cons_self ..,List.isPrefixOf_iff_prefix.1 hc.2⟩
  ·rename_i hc
   rw [if_neg hc]
   have:=qRA level r l h
   exact ⟨List.mem_cons_of_mem _ this.1,this.2⟩
theorem qSq (level:Int) (q:PS):Go 0 q (sOp level q).2∧((sOp level q).1≠0→Go 1 q (sOp level q).2∧(tb (sOp level q).2.1).length<(tb q.1).length):=by
 unfold sOp
 split
 ·exact ⟨qLX q,fun h=>absurd rfl h⟩
 ·simp only
  by_cases h:qDm level (tb q.1) qCE=0
  ·rw [if_pos h]
   exact ⟨qLX q,fun e=>absurd h e⟩
  ·rw [if_neg h]
   obtain ⟨h1,h2⟩:=qRA level (tb q.1) qCE h
   have ne:=(qPZ _ h1).1
   have l1:=h2.length_le
   have l2:=List.length_pos_iff.2 ne
   rw [qAK] at l1 l2
   have l3:=qAA q.1
   have g:Go 1 q ((tb q.1).drop (qo (qDm level (tb q.1) qCE)).size,q.2):=⟨(List.drop_suffix _ _).trans (List.dropWhile_suffix _),by simp;omega,id⟩
   have t:=qPX ne h2
   rw [qAK] at t
   exact ⟨g.weak,fun _=>⟨g,t⟩⟩
theorem qMZ:∀(k:Nat) (acc r:List UInt8) {w t:List UInt8},r.length≤k→qBx acc r=some (w,t)→t<:+r
 |k,acc,[],w,t,hk,h=>by simp [qBx] at h
 |0,acc,c::r,w,t,hk,h=>by simp at hk
 |k+1,acc,c::r,w,t,hk,h=>by
  simp only [List.length_cons] at hk
  by_cases hc:c=34
  ·subst hc
   by_cases hq:r.head?=some 34
   ·obtain ⟨u,rfl⟩:=qJc hq
    rw [qSZ] at h
    simp only [List.length_cons] at hk
    have:=qMZ k _ u (by omega) h
    exact this.trans ((List.suffix_cons 34 u).trans (List.suffix_cons 34 _))
   ·rw [qSa acc r hq] at h
    cases h
    exact List.suffix_cons 34 _
  ·rw [qSb acc r hc] at h
   exact (qMZ k _ r (by omega) h).trans (List.suffix_cons c _)
def Ks:SJ→PS→Prop
 | .call _ kids,q=>q.2.1=true∨kids.length+q.1.length≤1500
 |_,_=>True
theorem qID {k op:Int} {kids:List Int} (h:kids.length≤2000):qOb (ndK k op kids):=⟨h,by simp [ndK,em];decide⟩
theorem qB0 {k:Nat} {p q:PS} (h:Go k p q):q.1.length≤p.1.length:=h.suf.length_le
theorem qEx (H:RdOK):∀(f:Nat) (j:SJ) (q:PS),q.1.length≤1000→Ks j q→Go 0 q (sP f j q).2
 |0,j,q,_,_=>Go.refl q
 |f+1,.row level,q,hr,_=>by
  unfold sP
  split
  ·exact Go.refl q
  ·split
   ·exact qEx H f .one q hr trivial
   ·have a:=qEx H f (.row (level+1)) q hr trivial
    exact a.tr0 (qEx H f (.rl level _) _ (Nat.le_trans (qB0 a) hr) trivial)
 |f+1,.rl level a,q,hr,_=>by
  unfold sP
  split
  ·exact Go.refl q
  ·simp only
   have o:=qSq level q
   split
   ·exact o.1
   ·rename_i h0
    have o1:=(o.2 h0).1
    have b:=qEx H f (.row (level+1)) (sOp level q).2 (Nat.le_trans (qB0 o1) hr) trivial
    have c:=Go.add (x:=ndK 5 (sOp level q).1 [a,(sP f (.row (level+1)) (sOp level q).2).1]) (o1.trans b) (qID (by simp))
    exact c.tr0 (qEx H f (.rl level _) _ (Nat.le_trans (qB0 c) hr) trivial)
 |f+1,.one,q,hr,_=>by
  unfold sP
  split
  ·rename_i h
   have a:=qEq (by simp) h
   have b:=qEx H f (.row 5) (sIs [45] q).2 (Nat.le_trans (qB0 a) hr) trivial
   exact Go.add (a.trans b) (qID (by simp))
  ·have a:=qJR [45] q
   split
   ·rename_i h
    have c:=a.tr0 (qEq (by simp) h).weak
    have b:=qEx H f (.row 1) (sIs [40] (sIs [45] q).2).2 (Nat.le_trans (qB0 c) hr) trivial
    have d:=(c.tr0 b).tr0 (qJR [41] _)
    simp only
    split
    ·exact d
    ·exact qN6 d
   ·simp only
    have t:=qLX q
    split
    ·rename_i h
     have c:=qEq (by simp) h
     obtain ⟨_,e,_⟩:=qKD h
     split
     ·exact ⟨List.nil_suffix,by simp,id⟩
     ·rename_i w u hq
      have d:=qMZ _ _ _ (Nat.le_refl _) hq
      have d2:=d.length_le
      have dz:=qGa _ _ _ (Nat.le_refl _) hq
      have g:=t.trans c
      have l:=qB0 g
      have sg:=g.sum
      have eq:(sIs [34] (tb q.1,q.2)).2.2=q.2:=by rw [e]
      rw [eq] at sg
      simp only [List.length_nil] at dz
      exact Go.add (q:=(u,q.2)) ⟨d.trans g.suf,by simp only;omega,id⟩ ⟨by simp [kd,nd1],by simp only [nd1,qe];omega⟩
    ·split
     ·rename_i h
      have c:=qEq (by simp) h
      obtain ⟨_,e,_⟩:=qKD h
      have g:=t.trans c
      have l:=qB0 g
      have sg:=g.sum
      have eq:(sIs [35] (tb q.1,q.2)).2.2=q.2:=by rw [e]
      rw [eq] at sg
      split
      ·exact Go.add (q:=(_,q.2)) ⟨(List.drop_suffix _ _).trans g.suf,by simp;omega,id⟩ ⟨by simp [kd,nd1],by simp [nd1,em];decide⟩
      ·exact ⟨g.suf,by simp only;omega,id⟩
     ·have w:=qO2 q
      split
      ·split
       ·have c:=w.tr0 (qJR [40] _)
        exact c.tr0 (qEx H f (.call _ []) _ (Nat.le_trans (qB0 c) hr) (.inr (by have:=qB0 c;simp only [List.length_nil];omega)))
       ·exact qN6 (w.tr0 (qJR [40] _))
      ·split
       ·rename_i hv
        exact Go.add (qRu q hv.2) ⟨by simp [kd,nd1],qJP hv.1 (H.v _ (qQe _) hv.2 hv.1)⟩
       ·split
        ·rename_i hp
         exact Go.add (qRu q (fun e=>by rw [e,H.p0] at hp;cases hp)) ⟨by simp [kd,ndC],by simp [ndC,em];decide⟩
        ·exact qN6 w
 |f+1,.call op kids,q,hr,hk=>by
  unfold sP
  split
  ·exact Go.refl q
  ·rename_i hb
   have hk:kids.length+q.1.length≤1500:=hk.elim (fun h=>absurd h hb) id
   have a:=qEx H f .arg q hr trivial
   simp only
   split
   ·rename_i h
    exact Go.add (a.trans (qEq (by simp) h)) (qID (by simp;omega))
   ·have c:=a.tr0 (qJR [41] _)
    split
    ·rename_i h
     have d:=c.trans (qEq (by simp) h)
     obtain ⟨e1,e2,_⟩:=qKD h
     have l:=e1.length_le
     have l2:=qB0 c
     have l3:=qAA (sIs [41] (sP f .arg q).2).2.1
     simp only [List.length_cons,List.length_nil] at l
     exact d.weak.tr0 (qEx H f (.call op _) _ (Nat.le_trans (qB0 d) hr) (.inr (by rw [e2];simp;omega)))
    ·have d:=qN6 (c.tr0 (qJR [44] _))
     exact d.tr0 (qEx H f (.call op _) _ (Nat.le_trans (qB0 d) hr) (.inl rfl))
 |f+1,.arg,q,hr,_=>by
  unfold sP
  simp only
  have w:=qO2 q
  split
  ·rename_i h
   have c:=w.trans (qEq (by simp) h.2)
   have d:=c.trans (qO2 _)
   split
   ·exact Go.add d ⟨by simp [kd,ndA],by simp [ndA,em];decide⟩
   ·exact ⟨d.suf,by have:=d.sum;simp only at this⊢;omega,d.sm⟩
  ·have t:=qLX q
   exact t.tr0 (qEx H f (.row 1) _ (Nat.le_trans (qB0 t) hr) trivial)
def As (f:Nat):SJ→PS→Prop
 | .row level,q=>((20*(tb q.1).length+10:Nat):Int)-level≤f∧1≤level∧level≤5
 | .rl level _,q=>20*(tb q.1).length+5≤f∧1≤level∧level≤4
 | .one,q=>20*(tb q.1).length+4≤f∧q.2.1=false
 | .call _ _,q=>(q.2.1=true∧1≤f)∨20*(tb q.1).length+12≤f
 | .arg,q=>20*(tb q.1).length+10≤f
def Iv (s:List UInt8) (q:PS):Prop:=q.1<:+s∧q.2.2.length+q.1.length≤2000
theorem Iv.go {s:List UInt8} {k:Nat} {q q':PS} (h:Iv s q) (g:Go k q q'):Iv s q':=⟨g.suf.trans h.1,by have:=g.sum;have:=h.2;omega⟩
def Ws (s:List UInt8):SJ→PS→Int×PS→Prop
 | .row level,q,r=>Ev (qD8 · level (BR s) (pos s q.1) q.2.1 q.2.2.length (q.2.2.map qd)) (qCX s r)
 | .rl level a,q,r=>∃x,(x= .inl (qCX s r)∨x= .inr (qCX s r))∧∃n0,∀n,n0≤n→∀M,n0≤M→zC (qEF (qi n) n) M (level,a,qCt s q)=some x
 | .one,q,r=>Ev (qIR · (BR s) (pos s q.1) q.2.1 q.2.2.length (q.2.2.map qd)) (qCX s r)
 | .call op kids,q,r=>∃x,(x= .inl (qCX s r)∨(x= .inr (qCt s r.2)∧r.1=0))∧∃n0,∀n,n0≤n→∀M,n0≤M→zC (qDw (qi n) n) M (op,kids.length,kids.map qBE,qCt s q)=some x
 | .arg,q,r=>Ev (qIS · (BR s) (pos s q.1) q.2.1 q.2.2.length (q.2.2.map qd)) (qCX s r)
theorem srp (r:List UInt8) (h:r.length≤1000):Ev (qAr · (BR (wd r))) (qAv (BR (wd r))):=qLJ _ (by rw [qe];have:=qPW r;omega)
theorem srv (r:List UInt8) (h:r.length≤1000):Ev (qAI · (BR (wd r))) (qj (BR (wd r))):=qGt _ (by rw [qe];have:=qPW r;omega)
theorem qTQ {r:List UInt8} (h:wd r≠ []):(tb (wr r)).length<r.length:=by
 have e:=congrArg List.length (wdr r)
 have:=List.length_pos_iff.2 h
 have:=qAA (wr r)
 simp only [List.length_append] at e
 omega
def qPa (n:Nat) (w:ByteArray) (c:ByteArray×Int×Bool×Nat×List (List PV)):Tr (Int×ByteArray×Int×Bool×Nat×List (List PV)):=
 (.opt (qAr n w) fun r=>(.ask (!r.2.2.2.2) (.done (0,c.1,c.2.1,true,c.2.2.2.1,c.2.2.2.2))
  (.opt (qw n 2 0 0 0 ⟨#[]⟩ r.1 r.2.1 r.2.2.1 r.2.2.2.1 0 0 false false [] c.1 c.2.1 c.2.2.1 c.2.2.2.1 c.2.2.2.2) fun t=> .done (t.1,t.2.1,t.2.2.1,t.2.2.2.1,t.2.2.2.2.1,t.2.2.2.2.2))))
def qS5 (n:Nat) (w:ByteArray) (c:ByteArray×Int×Bool×Nat×List (List PV)):Tr (Int×ByteArray×Int×Bool×Nat×List (List PV)):=
 (.opt (qAI n w) fun r=>(.ask r.2.2.2
  (.ask (!(w.toList==(⟨#[]⟩:ByteArray).toList))
   (.opt (qw n 1 0 r.1 r.2.1 r.2.2.1 0 0 false false 0 0 false false [] c.1 c.2.1 c.2.2.1 c.2.2.2.1 c.2.2.2.2) fun t=> .done (t.1,t.2.1,t.2.2.1,t.2.2.2.1,t.2.2.2.2.1,t.2.2.2.2.2))
   (qPa n w c))
  (qPa n w c)))
def qN7 (w:List UInt8) (q3:PS):Int×PS:=
 if (qj (BR w)).2.2.2=true∧w≠ [] then qD2 (nd1 ((qj (BR w)).1,(qj (BR w)).2.1,(qj (BR w)).2.2.1)) q3
 else if (qAv (BR w)).2.2.2.2=true then qD2 (ndC (qAv (BR w))) q3
 else (0,qKl q3)
theorem qO4 (H:RdOK) {s:List UInt8} (r:List UInt8) (q:PS) (hr:r.length≤1000) (hn:q.2.2.length≤5000):∃n0,∀n,n0≤n→(qS5 n (BR (wd r)) (qCt s q)).run=some (qCX s (qN7 (wd r) q)):=by
 obtain ⟨n1,h1⟩:=srv r hr
 obtain ⟨n2,h2⟩:=srp r hr
 obtain ⟨n4,h4⟩:=qJQ (s:=s) (ndC (qAv (BR (wd r)))) q hn ⟨by simp [kd,ndC],by simp [ndC,em];decide⟩
 have place:∃n0,∀n,n0≤n→(qPa n (BR (wd r)) (qCt s q)).run=some (qCX s (if (qAv (BR (wd r))).2.2.2.2=true then qD2 (ndC (qAv (BR (wd r)))) q else (0,qKl q))):=by
  refine ⟨n2+n4,fun n hn=>?_⟩
  cases hp:(qAv (BR (wd r))).2.2.2.2 with
  |true=>rw [if_pos rfl];exact qA (h2 n (by omega)) (qO (qC8 hp) (qA (h4 n (by omega)) rfl))
  |false=>rw [if_neg (by simp)];exact qA (h2 n (by omega)) (qF (qD3 hp) rfl)
 obtain ⟨n5,h5⟩:=place
 by_cases hv:(qj (BR (wd r))).2.2.2=true∧wd r≠ []
 ·obtain ⟨n3,h3⟩:=qJQ (s:=s) (nd1 ((qj (BR (wd r))).1,(qj (BR (wd r))).2.1,(qj (BR (wd r))).2.2.1)) q hn ⟨by simp [kd,nd1],qJP hv.1 (H.v _ (qQe _) hv.2 hv.1)⟩
  refine ⟨n1+n3,fun n hn=>?_⟩
  unfold qN7
  rw [if_pos hv]
  exact qA (h1 n (by omega)) (qF hv.1 (qF (qD3 (by rw [beq_eq_false_iff_ne,qAO,qk];exact hv.2)) (qA (h3 n (by omega)) rfl)))
 ·refine ⟨n1+n5,fun n hn=>?_⟩
  unfold qN7
  rw [if_neg hv]
  refine qA (h1 n (by omega)) ?_
  by_cases ho:(qj (BR (wd r))).2.2.2=true
  ·have e:wd r= []:=Classical.byContradiction fun e=>hv ⟨ho,e⟩
   exact qF ho (qO (qC8 (by rw [beq_iff_eq,qAO,qk];exact e)) (h5 n (by omega)))
  ·exact qO (by rw [Bool.eq_false_iff];exact ho) (h5 n (by omega))
theorem qE7 (H:RdOK) {s:List UInt8} (hs:s.length≤1000):∀(f:Nat) (j:SJ) (q:PS),As f j q→Iv s q→Ks j q→Ws s j q (sP f j q)
 |0,j,q,ha,_,_=>by cases j<;>simp [As] at ha<;>omega
 |f+1,.row level,q,ha,hi,_=>by
  obtain ⟨ha,hl1,hl5⟩:=ha
  have hr:q.1.length≤1000:=Nat.le_trans (qDG hi.1) hs
  unfold sP
  by_cases hb:q.2.1=true
  ·rw [if_pos hb]
   refine ⟨1,fun n hn=>?_⟩
   obtain ⟨k,rfl,hm⟩:=up1 hn
   exact qF hb rfl
  ·have hb:q.2.1=false:=by rw [Bool.eq_false_iff];exact hb
   rw [if_neg (by rw [hb];simp)]
   by_cases h5:level=5
   ·rw [if_pos h5]
    obtain ⟨n1,h1⟩:=qE7 H hs f .one q ⟨by omega,hb⟩ hi trivial
    refine ⟨n1+1,fun n hn=>?_⟩
    obtain ⟨k,rfl,hm⟩:=up1 hn
    exact qO hb (qF (beq_iff_eq.2 h5) (qA (h1 k (by omega)) rfl))
   ·rw [if_neg h5]
    have g:=qEx H f (.row (level+1)) q hr trivial
    have gl:=g.tb
    obtain ⟨n1,h1⟩:=qE7 H hs f (.row (level+1)) q ⟨by omega,by omega,by omega⟩ hi trivial
    generalize sP f (.row (level+1)) q=Q at g gl h1⊢
    obtain ⟨x,hx,n2,h2⟩:=qE7 H hs f (.rl level Q.1) Q.2 ⟨by omega,by omega,by omega⟩ (hi.go g) trivial
    refine ⟨n1+n2+1,fun n hn=>?_⟩
    obtain ⟨k,rfl,hm⟩:=up1 hn
    have w1:IntKind.i64.wrap (level+1)=level+1:=qX (by omega)
    have h1:=h1 k (by omega)
    rw [←w1] at h1
    have h2:=h2 k (by omega) k (by omega)
    rcases hx with rfl|rfl
    ·exact qO hb (qO (beq_eq_false_iff_ne.2 h5) (qA h1 (qA h2 rfl)))
    ·exact qO hb (qO (beq_eq_false_iff_ne.2 h5) (qA h1 (qA h2 rfl)))
 |f+1,.rl level a,q,ha,hi,_=>by
  obtain ⟨ha,hl1,hl4⟩:=ha
  have hr:q.1.length≤1000:=Nat.le_trans (qDG hi.1) hs
  unfold sP
  by_cases hb:q.2.1=true
  ·rw [if_pos hb]
   refine ⟨.inr (qCX s (a,q)),.inr rfl,1,fun n hn M hM=>?_⟩
   obtain ⟨M,rfl,hM⟩:=up1 hM
   exact qQ (qO (qC8 hb) rfl)
  ·have hb:q.2.1=false:=by rw [Bool.eq_false_iff];exact hb
   rw [if_neg (by rw [hb];simp)]
   simp only
   obtain ⟨n1,h1⟩:=qS3 hs (level:=level) ⟨hl1,hl4⟩ q hb hi.1
   have o:=qSq level q
   generalize sOp level q=O at h1 o⊢
   by_cases h0:O.1=0
   ·rw [if_pos h0]
    refine ⟨.inl (qCX s (a,O.2)),.inl rfl,n1+1,fun n hn M hM=>?_⟩
    obtain ⟨M,rfl,hM⟩:=up1 hM
    exact qQ (qF (qD3 hb) (qA (h1 n (by omega)) (qF (beq_iff_eq.2 h0) rfl)))
   ·rw [if_neg h0]
    obtain ⟨o1,o2⟩:=o.2 h0
    have b:=qEx H f (.row (level+1)) O.2 (Nat.le_trans (qB0 o1) hr) trivial
    obtain ⟨n2,h2⟩:=qE7 H hs f (.row (level+1)) O.2 ⟨by omega,by omega,by omega⟩ (hi.go o1) trivial
    have ib:=(hi.go o1).go b
    have tbb:=b.tb
    have c:=Go.add (x:=ndK 5 O.1 [a,(sP f (.row (level+1)) O.2).1]) (o1.trans b) (qID (by simp))
    generalize sP f (.row (level+1)) O.2=Q at h2 b ib tbb c⊢
    obtain ⟨n3,h3⟩:=qJQ (s:=s) (ndK 5 O.1 [a,Q.1]) Q.2 (by have:=ib.2;omega) (qID (by simp))
    have rest:(qD2 (ndK 5 O.1 [a,Q.1]) Q.2).2.1=Q.2.1:=rfl
    generalize qD2 (ndK 5 O.1 [a,Q.1]) Q.2=C at h3 c rest⊢
    obtain ⟨x,hx,n4,h4⟩:=qE7 H hs f (.rl level C.1) C.2 ⟨by rw [rest];omega,hl1,hl4⟩ (hi.go c) trivial
    refine ⟨x,hx,n1+n2+n3+n4+1,fun n hn M hM=>?_⟩
    obtain ⟨M,rfl,hM⟩:=up1 hM
    have w1:IntKind.i64.wrap (level+1)=level+1:=qX (by omega)
    have h2:=h2 n (by omega)
    rw [←w1] at h2
    rw [qc (v':=(level,C.1,qCt s C.2)) (by
     exact qF (qD3 hb) (qA (h1 n (by omega)) (qO (beq_eq_false_iff_ne.2 h0) (qA h2 (qF rfl (qA (h3 n (by omega)) rfl))))))]
    exact h4 n (by omega) M (by omega)
 |f+1,.one,q,ha,hi,_=>by
  obtain ⟨ha,hb⟩:=ha
  have hr:q.1.length≤1000:=Nat.le_trans (qDG hi.1) hs
  unfold sP
  obtain ⟨n1,h1⟩:=qGb hs [45] (by simp) q hi.1
  cases c1:(sIs [45] q).1 with
  |true=>
   rw [if_pos rfl]
   have a:=qEq (by simp) c1
   have al:=qQ9 (by simp) c1
   have b:=qEx H f (.row 5) (sIs [45] q).2 (Nat.le_trans (qB0 a) hr) trivial
   obtain ⟨n2,h2⟩:=qE7 H hs f (.row 5) (sIs [45] q).2 ⟨by omega,by omega,by omega⟩ (hi.go a) trivial
   have ib:=(hi.go a).go b
   simp only
   generalize sP f (.row 5) (sIs [45] q).2=Q at h2 ib⊢
   obtain ⟨n3,h3⟩:=qJQ (s:=s) (ndK 4 0 [Q.1]) Q.2 (by have:=ib.2;omega) (qID (by simp))
   refine ⟨n1+n2+n3+1,fun n hn=>?_⟩
   obtain ⟨k,rfl,hm⟩:=up1 hn
   exact qA (h1 k (by omega)) (qF c1 (qA (h2 k (by omega)) (qF rfl (qA (h3 k (by omega)) rfl))))
  |false=>
   rw [if_neg (by simp)]
   have a:=qJR [45] q
   obtain ⟨n2,h2⟩:=qGb hs [40] (by simp) (sIs [45] q).2 (hi.go a).1
   cases c2:(sIs [40] (sIs [45] q).2).1 with
   |true=>
    rw [if_pos rfl]
    have b:=qEq (by simp) c2
    have al:=qQ9 (by simp) c2
    have atb:=a.tb
    have g1:=a.trans b
    have b2:=qEx H f (.row 1) (sIs [40] (sIs [45] q).2).2 (Nat.le_trans (qB0 g1) hr) trivial
    obtain ⟨n3,h3⟩:=qE7 H hs f (.row 1) (sIs [40] (sIs [45] q).2).2 ⟨by omega,by omega,by omega⟩ (hi.go g1) trivial
    have ib:=(hi.go g1).go b2
    simp only
    generalize sP f (.row 1) (sIs [40] (sIs [45] q).2).2=Q at h3 ib⊢
    obtain ⟨n4,h4⟩:=qGb hs [41] (by simp) Q.2 ib.1
    refine ⟨n1+n2+n3+n4+1,fun n hn=>?_⟩
    obtain ⟨k,rfl,hm⟩:=up1 hn
    refine qA (h1 k (by omega)) (qO c1 (qA (h2 k (by omega)) (qF c2 (qA (h3 k (by omega)) (qA (h4 k (by omega)) ?_)))))
    cases c3:(sIs [41] Q.2).1 with
    |true=>rw [if_pos rfl];exact qO rfl rfl
    |false=>rw [if_neg (by simp)];exact qF rfl rfl
   |false=>
    rw [if_neg (by simp)]
    have e2:(sIs [40] (sIs [45] q).2).2=(tb q.1,q.2):=by
     rw [qO3 c2,qO3 c1];simp only [qCW]
    rw [e2] at h2
    have t:=qLX q
    have it:=hi.go t
    obtain ⟨n3,h3⟩:=qGb hs [34] (by simp) (tb q.1,q.2) it.1
    simp only
    cases c3:(sIs [34] (tb q.1,q.2)).1 with
    |true=>
     rw [if_pos rfl]
     have b:=qEq (by simp) c3
     have ib:=it.go b
     have eq2:(sIs [34] (tb q.1,q.2)).2.2=q.2:=by obtain ⟨_,e,_⟩:=qKD c3;rw [e]
     obtain ⟨n4,h4⟩:=qRs hs (sIs [34] (tb q.1,q.2)).2 ib.1 (by have:=ib.2;omega)
     refine ⟨n1+n2+n3+n4+1,fun n hn=>?_⟩
     obtain ⟨k,rfl,hm⟩:=up1 hn
     refine qA (h1 k (by omega)) (qO c1 (qA (h2 k (by omega)) (qO c2 (qA (h3 k (by omega)) (qF c3 (qA (h4 k (by omega)) ?_))))))
     rw [qC,eq2]
     all_goals (cases qBx [] (sIs [34] (tb q.1,q.2)).2.1<;>rfl)
    |false=>
     rw [if_neg (by simp)]
     have e3:(sIs [34] (tb q.1,q.2)).2=(tb q.1,q.2):=by rw [qO3 c3];simp only [qCW]
     rw [e3] at h3
     obtain ⟨n4,h4⟩:=qGb hs [35] (by simp) (tb q.1,q.2) it.1
     cases c4:(sIs [35] (tb q.1,q.2)).1 with
     |true=>
      rw [if_pos rfl]
      have b:=qEq (by simp) c4
      have ib:=it.go b
      have eq2:(sIs [35] (tb q.1,q.2)).2.2=q.2:=by obtain ⟨_,e,_⟩:=qKD c4;rw [e]
      obtain ⟨n5,h5⟩:=qSf hs (sIs [35] (tb q.1,q.2)).2.1 ib.1 q.2.1 q.2.2 (by have:=hi.2;omega)
      have h4:=fun k hk=>h4 k hk
      refine ⟨n1+n2+n3+n4+n5+1,fun n hn=>?_⟩
      obtain ⟨k,rfl,hm⟩:=up1 hn
      have h4:=h4 k (by omega)
      have h5:=h5 k (by omega) k (by omega)
      have e4:qCt s (sIs [35] (tb q.1,q.2)).2=(BR s,pos s (sIs [35] (tb q.1,q.2)).2.1,q.2.1,q.2.2.length,q.2.2.map qd):=by unfold qCt;rw [eq2]
      rw [e4] at h4
      refine qA (h1 k (by omega)) (qO c1 (qA (h2 k (by omega)) (qO c2 (qA (h3 k (by omega)) (qO c3 (qA h4 (qF c4 (qA h5 ?_))))))))
      cases qP1 (sIs [35] (tb q.1,q.2)).2.1 1 5<;>rfl
     |false=>
      rw [if_neg (by simp)]
      have e4:(sIs [35] (tb q.1,q.2)).2=(tb q.1,q.2):=by rw [qO3 c4];simp only [qCW]
      rw [e4] at h4
      obtain ⟨n5,h5⟩:=qN4 hs (tb q.1,q.2) it.1
      have w:=qO2 q
      have iw:=hi.go w
      have htl:=qAA q.1
      obtain ⟨n6,h6⟩:=qGb hs [40] (by simp) (wr (tb q.1),q.2) iw.1
      obtain ⟨n7,h7⟩:=qSg
      obtain ⟨n9,h9⟩:=qO4 H (s:=s) (tb q.1) (wr (tb q.1),q.2) (by omega) (by have:=hi.2;simp only;omega)
      have gi:=qJR [40] (wr (tb q.1),q.2)
      cases hf:qFR (wd (tb q.1)) 1 10 with
      |none=>
       simp only
       refine ⟨n1+n2+n3+n4+n5+n6+n7+n9+12+1,fun n hn=>?_⟩
       obtain ⟨k,rfl,hm⟩:=up1 hn
       have lp:=qJe (g:=qi k) (s:=s) (wd (tb q.1)) (wr (tb q.1),q.2) (fun _=>(0,q)) (h7 k (by omega)) (h6 k (by omega)) 10 1 k (by omega) (by omega) (by omega) (fun op h=>by rw [hf] at h;cases h)
       rw [hf] at lp
       exact qA (h1 k (by omega)) (qO c1 (qA (h2 k (by omega)) (qO c2 (qA (h3 k (by omega)) (qO c3 (qA (h4 k (by omega)) (qO c4 (qA (h5 k (by omega)) (qA lp (h9 k (by omega)))))))))))
      |some op=>
       have wne:wd (tb q.1)≠ []:=fun e=>by rw [e,H.f0] at hf;cases hf
       have wlt:=qTQ wne
       simp only
       cases c5:(sIs [40] (wr (tb q.1),q.2)).1 with
       |true=>
        rw [if_pos rfl]
        have il:=qQ9 (by simp) c5
        simp only at il
        obtain ⟨x,hx,n8,h8⟩:=qE7 H hs f (.call op []) (sIs [40] (wr (tb q.1),q.2)).2 (.inr (by omega)) (iw.go gi) (.inr (by have:=qB0 (w.tr0 gi);simp only [List.length_nil];omega))
        have hcall:Ev (qHe · op (BR s) (pos s (sIs [40] (wr (tb q.1),q.2)).2.1) (sIs [40] (wr (tb q.1),q.2)).2.2.1 (sIs [40] (wr (tb q.1),q.2)).2.2.2.length ((sIs [40] (wr (tb q.1),q.2)).2.2.2.map qd)) (qCX s (sP f (.call op []) (sIs [40] (wr (tb q.1),q.2)).2)):=by
         refine ⟨n8+1,fun n hn=>?_⟩
         obtain ⟨k,rfl,hm⟩:=up1 hn
         have h8:=h8 k (by omega) k (by omega)
         rcases hx with rfl|⟨rfl,hz⟩
         ·exact qA h8 rfl
         ·refine qA h8 ?_
          show some ((0:Int),qCt s _)=some (_,qCt s _)
          rw [hz]
        obtain ⟨n10,h10⟩:=hcall
        refine ⟨n1+n2+n3+n4+n5+n6+n7+n10+12+1,fun n hn=>?_⟩
        obtain ⟨k,rfl,hm⟩:=up1 hn
        have lp:=qJe (g:=qi k) (s:=s) (wd (tb q.1)) (wr (tb q.1),q.2) (fun op=>sP f (.call op []) (sIs [40] (wr (tb q.1),q.2)).2) (h7 k (by omega)) (h6 k (by omega)) 10 1 k (by omega) (by omega) (by omega) (fun op' h _=>by rw [hf] at h;cases h;exact h10 k (by omega))
        rw [hf] at lp
        simp only at lp
        rw [if_pos c5] at lp
        exact qA (h1 k (by omega)) (qO c1 (qA (h2 k (by omega)) (qO c2 (qA (h3 k (by omega)) (qO c3 (qA (h4 k (by omega)) (qO c4 (qA (h5 k (by omega)) (qA lp rfl)))))))))
       |false=>
        rw [if_neg (by simp)]
        obtain ⟨v1,v2⟩:=H.f _ _ hf
        obtain ⟨n9,h9⟩:=qO4 H (s:=s) (tb q.1) (sIs [40] (wr (tb q.1),q.2)).2 (by omega) (by have:=(iw.go gi).2;omega)
        have er:qN7 (wd (tb q.1)) (sIs [40] (wr (tb q.1),q.2)).2=(0,qKl (sIs [40] (wr (tb q.1),q.2)).2):=by
         unfold qN7
         rw [if_neg (fun h=>by rw [v1] at h;cases h.1),if_neg (by rw [v2];simp)]
        rw [er] at h9
        refine ⟨n1+n2+n3+n4+n5+n6+n7+n9+12+1,fun n hn=>?_⟩
        obtain ⟨k,rfl,hm⟩:=up1 hn
        have lp:=qJe (g:=qi k) (s:=s) (wd (tb q.1)) (wr (tb q.1),q.2) (fun _=>(0,q)) (h7 k (by omega)) (h6 k (by omega)) 10 1 k (by omega) (by omega) (by omega) (fun op' h h'=>by rw [c5] at h';cases h')
        rw [hf] at lp
        simp only at lp
        rw [if_neg (by rw [c5];simp)] at lp
        exact qA (h1 k (by omega)) (qO c1 (qA (h2 k (by omega)) (qO c2 (qA (h3 k (by omega)) (qO c3 (qA (h4 k (by omega)) (qO c4 (qA (h5 k (by omega)) (qA lp (h9 k (by omega)))))))))))
 |f+1,.call op kids,q,ha,hi,hk=>by
  have hr:q.1.length≤1000:=Nat.le_trans (qDG hi.1) hs
  unfold sP
  by_cases hb:q.2.1=true
  ·rw [if_pos hb]
   refine ⟨.inr (qCt s q),.inr ⟨rfl,rfl⟩,1,fun n hn M hM=>?_⟩
   obtain ⟨M,rfl,hM⟩:=up1 hM
   exact qQ (qO (qC8 hb) rfl)
  ·have hk:kids.length+q.1.length≤1500:=hk.elim (fun h=>absurd h hb) id
   have ha:20*(tb q.1).length+12≤f+1:=ha.elim (fun h=>absurd h.1 hb) id
   have hb:q.2.1=false:=by rw [Bool.eq_false_iff];exact hb
   rw [if_neg (by rw [hb];simp)]
   simp only
   have a:=qEx H f .arg q hr trivial
   obtain ⟨n1,h1⟩:=qE7 H hs f .arg q (by show 20*_+10≤f;omega) hi trivial
   generalize sP f .arg q=A at a h1⊢
   have ia:=hi.go a
   have ta:=a.tb
   have ra:=qB0 a
   obtain ⟨n2,h2⟩:=qGb hs [41] (by simp) A.2 ia.1
   have kl:decide (kids.length=(kids.map qBE).length∧0<1∧0<8∧(kids.length+([[(PV.i .i64 A.1)]]:List (List PV)).length)*8≤140737488355328∧([[(PV.i .i64 A.1)]]:List (List PV)).all (fun e=>e.length==1)=true)=true:=decide_eq_true ⟨by simp,by decide,by decide,by simp;omega,rfl⟩
   have k1:(kids++ [A.1]).length=kids.length+1:=by simp
   have k2:(kids++ [A.1]).map qBE=kids.map qBE++ [[PV.i .i64 A.1]]:=by simp [qBE]
   cases c1:(sIs [41] A.2).1 with
   |true=>
    rw [if_pos rfl]
    have g:=a.trans (qEq (by simp) c1)
    obtain ⟨n3,h3⟩:=qJQ (s:=s) (ndK 6 op (kids++ [A.1])) (sIs [41] A.2).2 (by have:=(hi.go g).2;omega) (qID (by simp;omega))
    refine ⟨.inl (qCX s (qD2 (ndK 6 op (kids++ [A.1])) (sIs [41] A.2).2)),.inl rfl,n1+n2+n3+1,fun n hn M hM=>?_⟩
    obtain ⟨M,rfl,hM⟩:=up1 hM
    have h3:_=some _:=h3 n (by omega)
    simp only [ndK,kd] at h3
    rw [k2] at h3
    exact qQ (qF (qD3 hb) (qA (h1 n (by omega)) (qF rfl (qF kl (qA (h2 n (by omega)) (qF c1 (qF (decide_eq_true (by simp)) (qA h3 rfl))))))))
   |false=>
    rw [if_neg (by simp)]
    have g:=a.tr0 (qJR [41] A.2)
    have gt:=(qJR [41] A.2).tb
    have i2:=hi.go g
    obtain ⟨n3,h3⟩:=qGb hs [44] (by simp) (sIs [41] A.2).2 i2.1
    cases c2:(sIs [44] (sIs [41] A.2).2).1 with
    |true=>
     rw [if_pos rfl]
     have b:=qEq (by simp) c2
     have bl:=qQ9 (by simp) c2
     have bs:=qB0 (g.trans b)
     have b1:=b.sum
     have eq3:(sIs [44] (sIs [41] A.2).2).2.2=(sIs [41] A.2).2.2:=by obtain ⟨_,e,_⟩:=qKD c2;rw [e]
     rw [eq3] at b1
     have g0:=qB0 g
     obtain ⟨x,hx,n4,h4⟩:=qE7 H hs f (.call op (kids++ [A.1])) (sIs [44] (sIs [41] A.2).2).2 (.inr (by omega)) (i2.go b) (.inr (by rw [k1];omega))
     refine ⟨x,hx,n1+n2+n3+n4+1,fun n hn M hM=>?_⟩
     obtain ⟨M,rfl,hM⟩:=up1 hM
     have h4:=h4 n (by omega) M (by omega)
     rw [k1,k2] at h4
     rw [qc (v':=(op,kids.length+1,kids.map qBE++ [[PV.i .i64 A.1]],qCt s (sIs [44] (sIs [41] A.2).2).2)) (by
      exact qF (qD3 hb) (qA (h1 n (by omega)) (qF rfl (qF kl (qA (h2 n (by omega)) (qO c1 (qA (h3 n (by omega)) (qO (qC8 c2) rfl))))))))]
     exact h4
    |false=>
     rw [if_neg (by simp)]
     have b:=qJR [44] (sIs [41] A.2).2
     obtain ⟨x,hx,n4,h4⟩:=qE7 H hs f (.call op (kids++ [A.1])) (qKl (sIs [44] (sIs [41] A.2).2).2) (.inl ⟨rfl,by omega⟩) (i2.go (qN6 b)) (.inl rfl)
     refine ⟨x,hx,n1+n2+n3+n4+1,fun n hn M hM=>?_⟩
     obtain ⟨M,rfl,hM⟩:=up1 hM
     have h4:=h4 n (by omega) M (by omega)
     rw [k1,k2] at h4
     rw [qc (v':=(op,kids.length+1,kids.map qBE++ [[PV.i .i64 A.1]],qCt s (qKl (sIs [44] (sIs [41] A.2).2).2))) (by
      exact qF (qD3 hb) (qA (h1 n (by omega)) (qF rfl (qF kl (qA (h2 n (by omega)) (qO c1 (qA (h3 n (by omega)) (qF (qD3 c2) rfl))))))))]
     exact h4
 |f+1,.arg,q,ha,hi,_=>by
  replace ha:20*(tb q.1).length+10≤f+1:=ha
  have hr:q.1.length≤1000:=Nat.le_trans (qDG hi.1) hs
  have htl:=qAA q.1
  unfold sP
  simp only
  have t:=qLX q
  have it:=hi.go t
  have w:=qO2 q
  have iw:=hi.go w
  obtain ⟨n1,h1⟩:=qPY hs q hi.1
  obtain ⟨n2,h2⟩:=qN4 hs (tb q.1,q.2) it.1
  obtain ⟨n3,h3⟩:=srp (tb q.1) (by omega)
  obtain ⟨n4,h4⟩:=qGb hs [58] (by simp) (wr (tb q.1),q.2) iw.1
  have eq2:(sIs [58] (wr (tb q.1),q.2)).2.2=q.2:=by
   cases c:(sIs [58] (wr (tb q.1),q.2)).1 with
   |true=>obtain ⟨_,e,_⟩:=qKD c;rw [e]
   |false=>rw [qO3 c]
  by_cases hc:(qAv (BR (wd (tb q.1)))).2.2.2.2=true∧(sIs [58] (wr (tb q.1),q.2)).1=true
  ·rw [if_pos hc]
   have g:=w.trans (qEq (by simp) hc.2)
   have ig:=hi.go g
   have rg:=qB0 g
   generalize sIs [58] (wr (tb q.1),q.2)=I at*
   have gt:=qLX I.2
   have gw:=qO2 I.2
   have il:=qAA I.2.1
   obtain ⟨n5,h5⟩:=qPY hs I.2 ig.1
   obtain ⟨n6,h6⟩:=qN4 hs (tb I.2.1,I.2.2) (ig.go gt).1
   obtain ⟨n7,h7⟩:=srp (tb I.2.1) (by omega)
   cases hp:(qAv (BR (wd (tb I.2.1)))).2.2.2.2 with
   |true=>
    rw [if_pos rfl]
    obtain ⟨n8,h8⟩:=qJQ (s:=s) (ndA (qAv (BR (wd (tb q.1)))) (qAv (BR (wd (tb I.2.1))))) (wr (tb I.2.1),I.2.2) (by have:=(ig.go gw).2;simp only at this⊢;omega) ⟨by simp [kd,ndA],by simp [ndA,em];decide⟩
    refine ⟨n1+n2+n3+n4+n5+n6+n7+n8+1,fun n hn=>?_⟩
    obtain ⟨k,rfl,hm⟩:=up1 hn
    exact qA (h1 k (by omega)) (qA (h2 k (by omega)) (qA (h3 k (by omega)) (qF hc.1 (qA (h4 k (by omega)) (qF hc.2 (qA (h5 k (by omega)) (qA (h6 k (by omega)) (qA (h7 k (by omega)) (qO (qC8 hp) (qA (h8 k (by omega)) rfl))))))))))
   |false=>
    rw [if_neg (by simp)]
    refine ⟨n1+n2+n3+n4+n5+n6+n7+1,fun n hn=>?_⟩
    obtain ⟨k,rfl,hm⟩:=up1 hn
    exact qA (h1 k (by omega)) (qA (h2 k (by omega)) (qA (h3 k (by omega)) (qF hc.1 (qA (h4 k (by omega)) (qF hc.2 (qA (h5 k (by omega)) (qA (h6 k (by omega)) (qA (h7 k (by omega)) (qF (qD3 hp) rfl)))))))))
  ·rw [if_neg hc]
   obtain ⟨n5,h5⟩:=qE7 H hs f (.row 1) (tb q.1,q.2) ⟨by simp only [qCW];omega,by omega,by omega⟩ it trivial
   refine ⟨n1+n2+n3+n4+n5+1,fun n hn=>?_⟩
   obtain ⟨k,rfl,hm⟩:=up1 hn
   cases hp:(qAv (BR (wd (tb q.1)))).2.2.2.2 with
   |true=>
    have ht:(sIs [58] (wr (tb q.1),q.2)).1=false:=by rw [Bool.eq_false_iff];exact fun e=>hc ⟨hp,e⟩
    have h4:=h4 k (by omega)
    have e4:qCt s (sIs [58] (wr (tb q.1),q.2)).2=(BR s,pos s (sIs [58] (wr (tb q.1),q.2)).2.1,q.2.1,q.2.2.length,q.2.2.map qd):=by unfold qCt;rw [eq2]
    rw [e4] at h4
    exact qA (h1 k (by omega)) (qA (h2 k (by omega)) (qA (h3 k (by omega)) (qF hp (qA h4 (qO ht (qA (h5 k (by omega)) rfl))))))
   |false=>exact qA (h1 k (by omega)) (qA (h2 k (by omega)) (qA (h3 k (by omega)) (qO hp (qA (h5 k (by omega)) rfl))))
theorem qRU {w:List UInt8} (h:w.all wch=true) (hn:w≠ []):(qAy (BR w)).1=1∨(qAy (BR w)).1=3:=by
 cases w with
 |nil=>exact absurd rfl hn
 |cons c t=>
  simp only [List.all_cons,Bool.and_eq_true] at h
  have h39:¬(c::t).head?=some 39:=by
   intro e;simp at e;rw [e] at h;exact absurd h.1 (by decide)
  have h35:¬(c::t).head?=some 35:=by
   intro e;simp at e;rw [e] at h;exact absurd h.1 (by decide)
  unfold qAy
  rw [qAO,if_neg h39]
  split
  ·exact .inr rfl
  ·split
   ·exact .inr rfl
   ·exact .inl rfl
theorem qRV:RdOK where
 v:=fun w h hn ho=>by
  have c:=qRU h hn
  unfold qj at ho⊢
  split at ho
  ·rename_i hc;rw [if_pos hc];exact c
  ·cases ho
 v0:=by
  have:(qj (BR [])).1=0:=by
   have:(qj ⟨#[]⟩).1=0:=by decide+kernel
   exact this
  rw [this];decide
 p0:=by
  have:(qAv ⟨#[]⟩).2.2.2.2=false:=by decide+kernel
  exact this
 f:=fun w op h=>by
  have t:∀a:Fin 10,(qj (fnS (((a.val:Nat):Int)+1))).2.2.2=false∧(qAv (fnS (((a.val:Nat):Int)+1))).2.2.2.2=false:=by decide+kernel
  have e:∀(k:Nat) (i:Int),1≤i→i+k≤11→qFR w i k=some op→∃j:Int,1≤j∧j≤10∧(fnS j).toList=w:=by
   intro k
   induction k with
   |zero=>intro i _ _ h;cases h
   |succ k ih=>
    intro i h1 h2 h
    unfold qFR at h
    split at h
    ·rename_i hq;exact ⟨i,h1,by omega,hq⟩
    ·exact ih (i+1) (by omega) (by omega) h
  obtain ⟨j,j1,j2,rfl⟩:=e 10 1 (by omega) (by omega) h
  rw [qEv]
  have:=t ⟨(j-1).toNat,by omega⟩
  simp only at this
  rwa [show (((j-1).toNat:Nat):Int)+1=j by omega] at this
 f0:=by decide+kernel
 n:=fun n hn=>by
  have c:n=1∨n=2∨n=3∨n=4∨n=5:=by omega
  rcases c with rfl|rfl|rfl|rfl|rfl
  ·exact ⟨[68,73,86,33],by decide+kernel⟩
  ·exact ⟨[84,89,80,69,33],by decide+kernel⟩
  ·exact ⟨[82,69,70,33],by decide+kernel⟩
  ·exact ⟨[79,86,69,82,33],by decide+kernel⟩
  ·exact ⟨[67,89,67,76,69,33],by decide+kernel⟩
def qMi (s:ByteArray):PS:=(pP 4050 (.bin 1 0) (s.toList,false,[])).2
def qAz (s:ByteArray):List Nd×Bool:=
 if qBH s 200=true∧(qMi s).2.1=false∧tb (qMi s).1= []∧qD1 (qMi s).2.2=true then ((qMi s).2.2,true) else ([],false)
theorem qJf {s:ByteArray} (h:qBH s 200=true):s.toList.length≤200:=by
 unfold qBH at h
 simp only [Bool.and_eq_true,decide_eq_true_eq] at h
 rw [qAK];omega
theorem qQj {s:ByteArray} (h:qBH s 200=true):Gd (s.toList,false,[]):=⟨by have:=qJf h;simp only;omega,by simp,fun x hx=>by cases hx⟩
theorem qHp {l:List Nd} (h:∀x∈l,qOb x):∀c∈l,(kd c).length≤140737488351232∧c.2.2.2.2.1.size≤140737488351232:=fun c hc=>by
 have:=h c hc
 exact ⟨by have:=this.1;omega,by have:=this.2;omega⟩
theorem qFp (s:ByteArray) (hb:s.size≤140737488351232):Ev (qDB · s) ((qAz s).1.map qd,(qAz s).2):=by
 obtain ⟨n1,h1⟩:=qJD s 200 hb
 by_cases hp:qBH s 200=true
 ·have hl:=qJf hp
  have htb:=qAA s.toList
  have hg:=qQj hp
  obtain ⟨n2,h2⟩:=qE6 4050 (.bin 1 0) (s.toList,false,[]) (by show 20*(tb s.toList).length+6≤4050;omega) ⟨by decide,by decide⟩ hg trivial
  have g:=(qEw 4050 (.bin 1 0) (s.toList,false,[]) hg trivial).1
  have e0:(pP 4050 (.bin 1 0) (s.toList,false,[])).2=qMi s:=rfl
  rw [e0] at g
  generalize pP 4050 (.bin 1 0) (s.toList,false,[])=P at h2 e0
  rw [qEv] at h2
  unfold qAz
  rw [←e0] at g⊢
  obtain ⟨n3,h3⟩:=qGx P.2.1 P.2.2.2.length P.2.2.1 (P.2.2.2.map qd)
  obtain ⟨n4,h4⟩:=qGv P.2.2.2 (by have:=g.n;omega) (qHp g.s)
  refine ⟨n1+n2+n3+n4+1,fun n hn=>?_⟩
  obtain ⟨k,rfl,hm⟩:=up1 hn
  have h1:=h1 k (by omega)
  rw [hp] at h1
  refine qA h1 (qO rfl (qA (h2 k (by omega)) (qA (h3 k (by omega)) ?_)))
  by_cases hbad:P.2.2.1=true
  ·rw [if_neg (fun h=>by rw [hbad] at h;cases h.2.1)]
   exact qF hbad (qF rfl rfl)
  ·have hbad:P.2.2.1=false:=by rw [Bool.eq_false_iff];exact hbad
   refine qO hbad ?_
   by_cases hr:tb P.2.1= []
   ·refine qO (qC8 (by rw [beq_iff_eq,qk];show (BR (tb P.2.1)).toList= [];rw [qAO];exact hr)) (qF (decide_eq_true (by simp)) (qA (h4 k (by omega)) (qF (qE _) ?_)))
    cases ho:qD1 P.2.2.2 with
    |true=>
     rw [if_pos ⟨hp,hbad,hr,rfl⟩]
     exact qO rfl (qF (decide_eq_true (by simp)) rfl)
    |false=>
     rw [if_neg (fun h=>by cases h.2.2.2)]
     exact qF rfl (qF rfl rfl)
   ·rw [if_neg (fun h=>hr h.2.2.1)]
    exact qF (qD3 (by rw [beq_eq_false_iff_ne,qk];show (BR (tb P.2.1)).toList≠ [];rw [qAO];exact hr)) (qF rfl rfl)
 ·refine ⟨n1+1,fun n hn=>?_⟩
  obtain ⟨k,rfl,hm⟩:=up1 hn
  unfold qAz
  rw [if_neg (fun h=>hp h.1)]
  exact qA (h1 k (by omega)) (qF (qD3 (by rw [Bool.eq_false_iff];exact hp)) (qF rfl rfl))
theorem qRW {l:List Nd} (h:∃x∈l,qCI x=false):qD1 l=false:=by
 obtain ⟨x,hx,hb⟩:=h
 rw [Bool.eq_false_iff]
 intro ho
 unfold qD1 at ho
 simp only [Bool.and_eq_true] at ho
 obtain ⟨i,hi⟩:=List.mem_iff_getElem?.1 hx
 have hil:=(List.getElem?_eq_some_iff.1 hi).1
 have:=(qFP.1 ho.2.1 (i:Int) (by omega) (by omega)).1
 unfold qFv at this
 have e:ndi l (i:Int)=x:=by unfold ndi;simp [hi]
 rw [e,hb] at this
 cases this
theorem qJ0 (s:ByteArray) (hb:s.size≤140737488351232):Ev (qEG · s) ((qAz s).1.map qd,(qAz s).2):=by
 obtain ⟨n1,h1⟩:=qIX s hb
 by_cases hp:qBH s 200=true
 ·have hl:=qJf hp
  have hs:s.toList.length≤1000:=by omega
  have htb:=qAA s.toList
  have hg:=qQj hp
  have gi:=(qEw 4050 (.bin 1 0) (s.toList,false,[]) hg trivial).1
  have sim:=(qSY qRV (tb s.toList).length).2.2.1 (s.toList,false,[]) (s.toList,false,[]) 0 4 4050 4050 (by omega) ⟨rfl,rfl,rfl,rfl⟩ rfl (by omega) (by omega) (by omega) (by omega)
  rw [show (5:Int)-((4:Nat):Int)=1 from rfl] at sim
  have iv:Iv s.toList (s.toList,false,[]):=⟨List.suffix_rfl,by simp;omega⟩
  obtain ⟨n2,h2⟩:=qE7 qRV hs 4050 (.row 1) (s.toList,false,[]) ⟨by simp only;omega,by omega,by omega⟩ iv trivial
  have g:=qEx qRV 4050 (.row 1) (s.toList,false,[]) hs trivial
  have e0:(pP 4050 (.bin 1 0) (s.toList,false,[])).2=qMi s:=rfl
  generalize pP 4050 (.bin 1 0) (s.toList,false,[])=P at sim e0 gi
  generalize sP 4050 (.row 1) (s.toList,false,[])=Q at sim h2 g
  unfold qAz
  rw [←e0]
  obtain ⟨n3,h3⟩:=qPY hs Q.2 (iv.go g).1
  obtain ⟨n4,h4⟩:=qGu Q.2.2.2 (qHp (g.sm (fun x hx=>by cases hx)))
  have p0:pos s.toList s.toList=0:=by unfold pos;simp
  simp only [qEv,p0] at h2 h3
  have g2:=(qQi (iv.go g).1)
  refine ⟨n1+n2+n3+n4+1,fun n hn=>?_⟩
  obtain ⟨k,rfl,hm⟩:=up1 hn
  have h1:=h1 k (by omega)
  rw [hp] at h1
  have h2:=h2 k (by omega)
  have h3:=h3 k (by omega)
  have e1:qCX s.toList Q=(Q.1,s,pos s.toList Q.2.1,Q.2.2.1,Q.2.2.2.length,Q.2.2.2.map qd):=by unfold qCX qCt;rw [qEv]
  have e2:qCt s.toList (tb Q.2.1,Q.2.2)=(s,pos s.toList (tb Q.2.1),Q.2.2.1,Q.2.2.2.length,Q.2.2.2.map qd):=by unfold qCt;rw [qEv]
  rw [e1] at h2
  rw [e2] at h3
  refine qA h1 (qO rfl (qA h2 (qA h3 ?_)))
  rcases sim with ⟨_,hk,_⟩|⟨hbad,hd⟩
  ·obtain ⟨k1,k2,k3,k4⟩:=hk
   rw [k1,k3,k4]
   refine qO k2 ?_
   by_cases hr:tb Q.2.1= []
   ·refine qO (decide_eq_false (show ¬pos s.toList (tb Q.2.1)<(s.size:Int) by rw [hr];unfold pos;simp [qAK])) (qF (decide_eq_true (by simp)) (qA (h4 k (by omega)) (qF (qE _) ?_)))
    cases ho:qD1 Q.2.2.2 with
    |true=>
     rw [if_pos ⟨hp,rfl,hr,rfl⟩]
     exact qO rfl (qF (decide_eq_true (by simp)) rfl)
    |false=>
     rw [if_neg (fun h=>by cases h.2.2.2)]
     exact qF rfl (qF rfl rfl)
   ·rw [if_neg (fun h=>hr h.2.2.1)]
    have hlp:=List.length_pos_iff.2 hr
    have hsl:=qDG g2
    exact qF (decide_eq_true (show pos s.toList (tb Q.2.1)<(s.size:Int) by rw [qAK] at hsl;unfold pos;rw [qAK];omega)) (qF rfl rfl)
  ·rw [if_neg (fun h=>by
    rcases hd with hd|hd
    ·rw [hd] at h;cases h.2.1
    ·rw [qRW hd] at h;cases h.2.2.2)]
   exact qF hbad (qF rfl rfl)
 ·refine ⟨n1+1,fun n hn=>?_⟩
  obtain ⟨k,rfl,hm⟩:=up1 hn
  unfold qAz
  rw [if_neg (fun h=>hp h.1)]
  exact qA (h1 k (by omega)) (qF (qD3 (by rw [Bool.eq_false_iff];exact hp)) (qF rfl rfl))
theorem qJS (s:ByteArray):(qAz s).1.length≤60∧∀x∈(qAz s).1,qOb x:=by
 unfold qAz
 split
 ·rename_i h
  have g:=(qEw 4050 (.bin 1 0) (s.toList,false,[]) (qQj h.1) trivial).1
  exact ⟨g.n,g.s⟩
 ·exact ⟨by simp,fun x hx=>by cases hx⟩
theorem qN8:∀(l:List UInt8) (acc:Nat) {u:Nat},l.all qAe=true→Lib.parseUintM (2^64-1) acc l= .ok u→u=qAg acc l
 | [],acc,u,_,h=>by simp only [Lib.parseUintM] at h;cases h;rfl
 |c::r,acc,u,hd,h=>by
  simp only [List.all_cons,Bool.and_eq_true] at hd
  have hc:=hd.1
  simp only [qAe,Bool.and_eq_true,decide_eq_true_eq] at hc
  unfold Lib.parseUintM at h
  rw [qDl]
  rw [if_pos hc] at h
  by_cases h1:1844674407370955162≤acc
  ·rw [if_pos h1] at h;cases h
  ·rw [if_neg h1] at h
   by_cases h2:2^64-1<acc*10+(c.toNat-48)
   ·rw [if_pos h2] at h;cases h
   ·rw [if_neg h2] at h
    exact qN8 r _ hd.2 h
theorem qQk {p:UInt8→Bool}:∀l:List UInt8,(l.dropWhile p= [])↔l.all p=true
 | []=>by simp
 |c::r=>by
  rw [List.dropWhile_cons,List.all_cons]
  by_cases h:p c=true
  ·rw [if_pos h,h,Bool.true_and];exact qQk r
  ·rw [if_neg h];simp [h]
theorem qRB {p:UInt8→Bool}:∀(l:List UInt8) {a:UInt8} {r:List UInt8},l.dropWhile p=a::r→p a=false
 | [],a,r,h=>by simp at h
 |c::l,a,r,h=>by
  rw [List.dropWhile_cons] at h
  by_cases hc:p c=true
  ·rw [if_pos hc] at h;exact qRB l h
  ·rw [if_neg hc] at h
   cases h
   rw [Bool.eq_false_iff];exact hc
theorem qRw:∀i:Fin 256,((⟨#[48,49,50,51,52,53,54,55,56,57]⟩:ByteArray).data.toList.contains (UInt8.ofNat i.val))=qAe (UInt8.ofNat i.val):=by decide+kernel
theorem qQD {p:UInt8→Bool} {t:List UInt8}:((t.reverse.dropWhile p).reverse.dropWhile p= [])↔t.all p=true:=by
 rw [qQk]
 constructor
 ·intro h
  cases hx:t.reverse.dropWhile p with
  |nil=>
   rw [qQk] at hx
   rw [List.all_eq_true] at hx⊢
   exact fun x hx'=>hx x (by simpa using hx')
  |cons a r=>
   rw [List.all_eq_true] at h
   have h1:=h a (by rw [hx];simp)
   rw [qRB _ hx] at h1
   cases h1
 ·intro h
  rw [List.all_eq_true] at h⊢
  intro x hx
  rw [List.mem_reverse] at hx
  exact h x (by simpa using (List.dropWhile_suffix p).subset hx)
def qFU (s:List UInt8):List UInt8:=if s.head?=some 45 then s.tail else s
def qHQ (s:List UInt8):Int:=if s.head?=some 45 then-((qAg 0 (qFU s):Nat):Int) else ((qAg 0 (qFU s):Nat):Int)
def qLY (s:List UInt8):Bool:=decide (qFU s≠ [])&&(qFU s).all qAe
def qDo (s:List UInt8):Bool:=qLY s&&okV 1 (qHQ s) em
theorem qRx (s:List UInt8):(qFU s).length≤s.length:=by unfold qFU;split<;>simp
theorem qQE (s:List UInt8) (h:s.length≤1000):Ev (qD5 · (BR s)) (qLY s):=by
 refine ⟨10,fun n hn=>?_⟩
 obtain ⟨k,rfl⟩:∃k,n=k+5:=⟨n-5,by omega⟩
 have tp:qDY (k+4) (BR s) ⟨#[45]⟩=some (BR (qFU s)):=by
  have hp:qAC (k+2) (BR s) ⟨#[45]⟩=some (List.isPrefixOf [45] s):=by
   have:=qBf (k+1) s [45]
   simp only [qn,qB9,qC,qD,qG,qH,qJ,qK,Option.bind_some,qE,qM,qN] at this
   have e:∀o:Option Bool,(o.bind fun x=>some x)=o:=fun o=>by cases o<;>rfl
   rw [e] at this
   exact this
  have inner:qBV (k+3) (BR s) ⟨#[45]⟩=some (BR (qFU s)):=by
   by_cases hh:s.head?=some 45
   ·rw [(qDJ 45 s).2 hh] at hp
    obtain ⟨t,rfl⟩:=qJc hh
    unfold qFU
    rw [if_pos hh]
    refine qA hp (qF rfl (qF (decide_eq_true ⟨by decide,by rw [qe];show (1:Int)≤_;simp;omega,Int.le_refl _⟩) ?_))
    rw [qC]
    show some ((BR (45::t)).extract 1 ((((BR (45::t)).size:Nat):Int)).toNat)=_
    rw [qE5,qe]
    simp
   ·have e:List.isPrefixOf [45] s=false:=by rw [Bool.eq_false_iff];exact fun e=>hh ((qDJ 45 s).1 e)
    rw [e] at hp
    unfold qFU
    rw [if_neg hh]
    exact qA hp (qO rfl rfl)
  exact qA inner rfl
 have tl:=qRx s
 unfold qLY
 generalize qFU s=t at tp tl⊢
 refine qA tp ?_
 by_cases ht:t= []
 ·subst ht
  refine qO (qC8 (by rw [qAO,qk];rfl)) ?_
  rfl
 ·refine qF (qD3 (by rw [beq_eq_false_iff_ne,qAO,qk];exact ht)) ?_
  have tr:qGF (k+4) (BR t) ⟨#[48,49,50,51,52,53,54,55,56,57]⟩=some (BR (((t.reverse.dropWhile qAe).reverse).dropWhile qAe)):=by
   show zAE (BR t) ⟨#[48,49,50,51,52,53,54,55,56,57]⟩=_
   unfold zAE
   rw [if_pos ⟨by rw [qe];omega,by decide,by decide+kernel⟩]
   unfold Lib.trimS Lib.trimLeftS Lib.trimRightS
   have:(fun c=>(⟨#[48,49,50,51,52,53,54,55,56,57]⟩:ByteArray).data.toList.contains c)=qAe:=funext (qQf qRw)
   rw [this,←Go.Lib.toList_data (BR t),qAO]
   rfl
  refine qA tr ?_
  rw [qC]
  congr 1
  have dt:decide (t≠ [])=true:=decide_eq_true ht
  rw [dt,Bool.true_and,qAO,qk]
  by_cases ha:t.all qAe=true
  ·rw [qQD.2 ha,ha];rfl
  ·have hx:¬(t.reverse.dropWhile qAe).reverse.dropWhile qAe= []:=fun e=>ha (qQD.1 e)
   rw [beq_eq_false_iff_ne.2 hx,Bool.eq_false_iff.2 ha]
theorem qSh {n:Int}:okV 1 n em=true↔-1000000000000000≤n∧n≤1000000000000000:=by
 simp [okV,em,qk]
theorem qMa {s:List UInt8} (h:qLY s=true):(∀n,Lib.parseIntB 64 s= .ok n→n=qHQ s)∧(qDo s=true→Lib.parseIntB 64 s= .ok (qHQ s)):=by
 have hd:=h
 unfold qLY at hd
 simp only [Bool.and_eq_true,decide_eq_true_eq] at hd
 obtain ⟨h1,h2⟩:=hd
 have p:(2:Nat)^(64-1)=9223372036854775808:=by decide
 have hne:s≠ []:=fun e=>h1 (by rw [e];rfl)
 obtain ⟨c,r,rfl⟩:∃c r,s=c::r:=by
  cases s with
  |nil=>exact absurd rfl hne
  |cons c r=>exact ⟨c,r,rfl⟩
 have c45:(c.toNat=45)↔c=45:=⟨fun e=>UInt8.toNat_inj.1 (show c.toNat=(45:UInt8).toNat from e),fun e=>by rw [e];rfl⟩
 have nt:qFU (c::r)=if c.toNat=43∨c.toNat=45 then r else c::r:=by
  unfold qFU
  by_cases hc:c=45
  ·subst hc;simp
  ·have hc2:¬c.toNat=45:=fun e=>hc (c45.1 e)
   have ht:qFU (c::r)=c::r:=by unfold qFU;rw [if_neg (by simpa using hc)]
   rw [ht] at h2
   simp only [List.all_cons,Bool.and_eq_true,qAe,decide_eq_true_eq] at h2
   rw [if_neg (by simpa using hc),if_neg (by omega)]
 have nv:qHQ (c::r)=if c.toNat=45 then-((qAg 0 (qFU (c::r)):Nat):Int) else ((qAg 0 (qFU (c::r)):Nat):Int):=by
  unfold qHQ
  by_cases hc:c=45
  ·subst hc;rfl
  ·rw [if_neg (by simpa using hc),if_neg (fun e=>hc (c45.1 e))]
 unfold Lib.parseIntB
 simp only
 rw [←nt]
 unfold Lib.parseUintB
 rw [if_neg h1]
 constructor
 ·intro n hn
  rcases hq : Lib.parseUintM (2^64-1) 0 (qFU (c::r)) with u | _ | _
  rotate_left
  · rw [hq] at hn;cases hn
  · rw [hq] at hn;cases hn
  ·have hu:=qN8 _ 0 h2 hq
   rw [hq] at hn
   simp only at hn
   split at hn
   ·cases hn
   ·split at hn
    ·cases hn
    ·injection hn with hn
     rw [nv,←hu,←hn]
 ·intro ho
  unfold qDo at ho
  simp only [Bool.and_eq_true] at ho
  have hb:=qSh.1 ho.2
  have hv:qAg 0 (qFU (c::r))≤1000000000000000:=by
   rw [nv] at hb
   split at hb<;>omega
  rw [qMN _ 0 h2 (by omega)]
  simp only
  rw [if_neg (by rw [p];omega),if_neg (by rw [p];omega),nv]
def szL:List UInt8→List UInt8
 | []=> []
 |c::t=>if t≠ []∧c=48 then szL t else c::t
theorem qNK:∀l:List UInt8,qAg 0 (szL l)=qAg 0 l
 | []=>rfl
 |c::t=>by
  unfold szL
  split
  ·rename_i h
   rw [qNK t,qDl,h.2]
   rfl
  ·rfl
theorem qPb:∀l:List UInt8,(szL l).all qAe=l.all qAe
 | []=>rfl
 |c::t=>by
  unfold szL
  split
  ·rename_i h
   rw [qPb t,List.all_cons,h.2]
   simp [qAe]
  ·rfl
theorem qSr:∀l:List UInt8,l≠ []→szL l≠ []
 | [],h=>absurd rfl h
 |c::t,_=>by
  unfold szL
  split
  ·rename_i h;exact qSr t h.1
  ·simp
theorem qPc:∀l:List UInt8,(szL l).head?=some 48→(szL l).length=1
 | [],h=>by cases h
 |c::t,h=>by
  unfold szL at h⊢
  split at h
  ·rename_i hc;rw [if_pos hc];exact qPc t h
  ·rename_i hc
   rw [if_neg hc]
   have h48:c=48:=by simpa using h
   have:t= []:=Classical.byContradiction fun e=>hc ⟨e,h48⟩
   rw [this];rfl
theorem qRy {l:List UInt8} (h:l≠ []):qFm (szL l)=l.all qAe:=by
 unfold qFm
 rw [qPb]
 have h1:(szL l== [])=false:=beq_eq_false_iff_ne.2 (qSr l h)
 rw [h1]
 by_cases e:(szL l).head?=some 48
 ·rw [qPc l e];simp
 ·rw [beq_eq_false_iff_ne.2 e];simp
theorem qQF:∀(l:List UInt8) (acc:Nat),acc*10^l.length≤qAg acc l
 | [],acc=>by rw [qGT];simp
 |c::r,acc=>by
  have:=qQF r (acc*10+(c.toNat-48))
  rw [qDl,List.length_cons,Nat.pow_succ]
  refine Nat.le_trans ?_ this
  rw [show acc*(10^r.length*10)=acc*10*10^r.length by rw [Nat.mul_comm (10^r.length) 10,Nat.mul_assoc]]
  exact Nat.mul_le_mul_right _ (by omega)
theorem qS6 {l:List UInt8} (hd:l.all qAe=true) (h:16<(szL l).length):10000000000000000≤qAg 0 l:=by
 rw [←qNK]
 rw [←qPb] at hd
 have hh:=qPc l
 cases hz:szL l with
 |nil=>rw [hz] at h;simp at h
 |cons c r=>
  rw [hz] at h hd hh
  simp only [List.length_cons] at h
  have hc:¬c=48:=fun e=>by
   have:=hh (by rw [e];rfl)
   simp only [List.length_cons] at this
   omega
  simp only [List.all_cons,Bool.and_eq_true,qAe,decide_eq_true_eq] at hd
  have hc2:¬c.toNat=48:=fun e=>hc (UInt8.toNat_inj.1 (show c.toNat=(48:UInt8).toNat from e))
  rw [qDl]
  have a:=qQF r (0*10+(c.toNat-48))
  have p:10^16≤10^r.length:=Nat.pow_le_pow_right (by decide) (by omega)
  have p16:(10:Nat)^16=10000000000000000:=by decide
  have:1*10^r.length≤(0*10+(c.toNat-48))*10^r.length:=Nat.mul_le_mul_right _ (by omega)
  omega
theorem qLZ (n:Nat) (neg:Bool) (a b:Int) (e:ByteArray):∀(l:List UInt8) (M:Nat),l.length≤1000→l.length+1≤M→zC (qBs n) M (BR l,neg,a,b,e)=some (BR (szL l),neg,a,b,e)
 |l,0,_,h=>by omega
 | [],M+1,_,_=>qQ (qO (decide_eq_false (show ¬((BR []).size:Int)>1 by rw [qe];decide)) rfl)
 |c::t,M+1,hl,h=>by
  simp only [List.length_cons] at h hl
  unfold szL
  by_cases ht:t= []
  ·rw [if_neg (fun h=>h.1 ht)]
   subst ht
   exact qQ (qO (decide_eq_false (show ¬((BR [c]).size:Int)>1 by rw [qe];simp)) rfl)
  ·have hpos:=List.length_pos_iff.2 ht
   have g0:decide (((BR (c::t)).size:Int)>1)=true:=decide_eq_true (by rw [qe];simp only [List.length_cons];omega)
   have g1:(BR (c::t)).toList[((0:Int)).toNat]?=some c:=by rw [qAO];rfl
   by_cases hc:c=48
   ·rw [if_pos ⟨ht,hc⟩]
    subst hc
    rw [qc (v':=(BR t,neg,a,b,e)) (by
     refine qF g0 (qF rfl (qA g1 (qF rfl (qF (decide_eq_true ⟨by decide,by rw [qe];simp only [List.length_cons];omega,Int.le_refl _⟩) ?_))))
     rw [qC]
     show some (Sum.inl ((BR (48::t)).extract 1 ((((BR (48::t)).size:Nat):Int)).toNat,neg,a,b,e))=_
     rw [qE5,qe]
     simp)]
    exact qLZ n neg a b e t M (by omega) (by omega)
   ·rw [if_neg (fun h=>hc h.2)]
    refine qQ (qF g0 (qF rfl (qA g1 (qO ?_ rfl))))
    rw [beq_eq_false_iff_ne]
    intro e
    exact hc (UInt8.toNat_inj.1 (show c.toNat=48 by omega))
theorem qS7 {l:List UInt8} (h:l≠ []):l1I (szL l) 16=if (szL l).length≤16∧l.all qAe=true then (((qAg 0 l:Nat):Int),true) else (0,false):=by
 unfold l1I
 rw [qRy h,qNK]
 by_cases hh:(szL l).length≤16∧l.all qAe=true
 ·rw [if_pos hh,if_pos ⟨by have:=hh.1;omega,hh.2⟩]
 ·rw [if_neg hh,if_neg (fun e=>hh ⟨by have:=e.1;omega,e.2⟩)]
theorem qQG (neg:Bool) (t:List UInt8) (ht:t≠ []) (hl:t.length≤1000):∃r:Int×Int×ByteArray×Bool,(r.2.2.2=(t.all qAe&&okV 1 (if neg=true then-((qAg 0 t:Nat):Int) else ((qAg 0 t:Nat):Int)) em))∧(r.2.2.2=true→r=(1,(if neg=true then-((qAg 0 t:Nat):Int) else ((qAg 0 t:Nat):Int)),em,true))∧
  ∃n0,∀n,n0≤n→∃v:ByteArray×Bool×Int×Int×ByteArray,zC (qBs n) n (BR t,neg,0,0,⟨#[]⟩)=some v∧
   (Tr.opt (qx n v.1 16) fun r221=>(.ask (v.2.1)
    (.ask (r221.2) (.opt (qb n 1 (IntKind.i64.wrap (0-r221.1)) ⟨#[]⟩) fun r222=>(.done ((1:Int),(IntKind.i64.wrap (0-r221.1)),(⟨#[]⟩:ByteArray),r222))) (.done ((1:Int),(IntKind.i64.wrap (0-r221.1)),(⟨#[]⟩:ByteArray),false)))
    (.ask (r221.2) (.opt (qb n 1 r221.1 ⟨#[]⟩) fun r223=>(.done ((1:Int),r221.1,(⟨#[]⟩:ByteArray),r223))) (.done ((1:Int),r221.1,(⟨#[]⟩:ByteArray),false))))).run=some r:=by
 have hi:=qD0 (BR (szL t)) 16 (by decide)
 rw [qAO,qS7 ht] at hi
 obtain ⟨n1,h1⟩:=hi
 by_cases hh:(szL t).length≤16∧t.all qAe=true
 ·have hv:qAg 0 t<10^(0+(szL t).length):=by
   have:=qPL (szL t) 0 0 (by rw [qPb];exact hh.2) (by decide)
   rwa [qNK] at this
  have hp:10^(0+(szL t).length)≤10^16:=Nat.pow_le_pow_right (by decide) (by omega)
  have p16:(10:Nat)^16=10000000000000000:=by decide
  have w1:IntKind.i64.wrap (0-((qAg 0 t:Nat):Int))= -((qAg 0 t:Nat):Int):=by rw [qX (by omega)];omega
  cases neg with
  |true=>
   obtain ⟨n2,h2⟩:=qAF 1 (-((qAg 0 t:Nat):Int)) em (by decide)
   refine ⟨(1,-((qAg 0 t:Nat):Int),em,okV 1 (-((qAg 0 t:Nat):Int)) em),by rw [hh.2];simp,fun e=>?_,n1+n2+t.length+1,fun n hn=>⟨_,qLZ n true 0 0 _ t n hl (by omega),?_⟩⟩
   ·simp only at e;rw [e];rfl
   ·have h1:=h1 n (by omega)
    rw [if_pos hh] at h1
    have h2:=h2 n (by omega)
    rw [←w1] at h2
    refine qA h1 (qF rfl (qF rfl (qA h2 ?_)))
    rw [qC,w1];rfl
  |false=>
   obtain ⟨n2,h2⟩:=qAF 1 ((qAg 0 t:Nat):Int) em (by decide)
   refine ⟨(1,((qAg 0 t:Nat):Int),em,okV 1 ((qAg 0 t:Nat):Int) em),by rw [hh.2];simp,fun e=>?_,n1+n2+t.length+1,fun n hn=>⟨_,qLZ n false 0 0 _ t n hl (by omega),?_⟩⟩
   ·simp only at e;rw [e];rfl
   ·have h1:=h1 n (by omega)
    rw [if_pos hh] at h1
    exact qA h1 (qO rfl (qF rfl (qA (h2 n (by omega)) rfl)))
 ·have hno:(t.all qAe&&okV 1 (if neg=true then-((qAg 0 t:Nat):Int) else ((qAg 0 t:Nat):Int)) em)=false:=by
   rw [Bool.eq_false_iff]
   intro e
   simp only [Bool.and_eq_true] at e
   have hb:=qSh.1 e.2
   have:16<(szL t).length:=by
    have:¬(szL t).length≤16:=fun h=>hh ⟨h,e.1⟩
    omega
   have:=qS6 e.1 this
   split at hb<;>omega
  cases neg with
  |true=>
   refine ⟨(1,IntKind.i64.wrap (0-0),em,false),hno.symm,(fun e=>by cases e),n1+t.length+1,fun n hn=>⟨_,qLZ n true 0 0 _ t n hl (by omega),?_⟩⟩
   have h1:=h1 n (by omega)
   rw [if_neg hh] at h1
   exact qA h1 (qF rfl (qO rfl rfl))
  |false=>
   refine ⟨(1,0,em,false),hno.symm,(fun e=>by cases e),n1+t.length+1,fun n hn=>⟨_,qLZ n false 0 0 _ t n hl (by omega),?_⟩⟩
   have h1:=h1 n (by omega)
   rw [if_neg hh] at h1
   exact qA h1 (qO rfl (qO rfl rfl))
theorem qQH (s:List UInt8) (hs:s≠ []) (hl:s.length≤1000):∃r:Int×Int×ByteArray×Bool,r.2.2.2=qDo s∧(qDo s=true→r=(1,qHQ s,em,true))∧Ev (qFb · (BR s)) r:=by
 obtain ⟨c,t,rfl⟩:∃c t,s=c::t:=by
  cases s with
  |nil=>exact absurd rfl hs
  |cons c t=>exact ⟨c,t,rfl⟩
 simp only [List.length_cons] at hl
 have g0:decide (((BR (c::t)).size:Int)>0)=true:=decide_eq_true (by rw [qe];simp only [List.length_cons];omega)
 have g1:(BR (c::t)).toList[((0:Int)).toNat]?=some c:=by rw [qAO];rfl
 by_cases hc:c=45
 ·subst hc
  have ext:(BR (45::t)).extract ((1:Int)).toNat ((((BR (45::t)).size:Nat):Int)).toNat=BR t:=by rw [qE5,qe];simp
  have g2:decide (0≤(1:Int)∧(1:Int)≤((BR (45::t)).size:Int)∧((BR (45::t)).size:Int)≤((BR (45::t)).size:Int))=true:=decide_eq_true ⟨by decide,by rw [qe];simp only [List.length_cons];omega,Int.le_refl _⟩
  have nt:qFU (45::t)=t:=rfl
  have nv:qHQ (45::t)= -((qAg 0 t:Nat):Int):=rfl
  by_cases ht:t= []
  ·subst ht
   refine ⟨(0,0,⟨#[]⟩,false),by decide+kernel,(fun e=>by revert e;decide+kernel),1,fun n hn=>?_⟩
   obtain ⟨k,rfl,hm⟩:=up1 hn
   exact qF g0 (qF rfl (qA g1 (qF rfl (qF g2 (qF (by rw [ext,qAO,qk];rfl) rfl)))))
  ·obtain ⟨r,r1,r2,n0,h0⟩:=qQG true t ht (by omega)
   have e:qDo (45::t)=(t.all qAe&&okV 1 (-((qAg 0 t:Nat):Int)) em):=by
    unfold qDo qLY
    rw [nt,nv,decide_eq_true ht,Bool.true_and]
   rw [if_pos rfl] at r1 r2
   refine ⟨r,by rw [e];exact r1,fun h=>by rw [nv];exact r2 (by rw [r1,←e];exact h),n0+1,fun n hn=>?_⟩
   obtain ⟨k,rfl,hm⟩:=up1 hn
   obtain ⟨v,lp,fin⟩:=h0 k (by omega)
   rw [←ext] at lp
   exact qF g0 (qF rfl (qA g1 (qF rfl (qF g2 (qO (by rw [ext,beq_eq_false_iff_ne,qAO,qk];exact ht) (qA lp fin))))))
 ·have c45:((c.toNat:Int)==45)=false:=by
   rw [beq_eq_false_iff_ne];intro e
   exact hc (UInt8.toNat_inj.1 (show c.toNat=45 by omega))
  have hh:¬(c::t).head?=some 45:=by simpa using hc
  have nt:qFU (c::t)=c::t:=by unfold qFU;rw [if_neg hh]
  have nv:qHQ (c::t)=((qAg 0 (c::t):Nat):Int):=by unfold qHQ;rw [if_neg hh,nt]
  obtain ⟨r,r1,r2,n0,h0⟩:=qQG false (c::t) (by simp) (by simp only [List.length_cons];omega)
  have e:qDo (c::t)=((c::t).all qAe&&okV 1 (((qAg 0 (c::t):Nat):Int)) em):=by
   unfold qDo qLY
   rw [nt,nv,decide_eq_true (by simp),Bool.true_and]
  rw [if_neg (by simp)] at r1 r2
  refine ⟨r,by rw [e];exact r1,fun h=>by rw [nv];exact r2 (by rw [r1,←e];exact h),n0+1,fun n hn=>?_⟩
  obtain ⟨k,rfl,hm⟩:=up1 hn
  obtain ⟨v,lp,fin⟩:=h0 k (by omega)
  rw [←c45] at lp
  exact qF g0 (qF rfl (qA g1 (qO c45 (qO (by rw [beq_eq_false_iff_ne,qAO,qk];simp) (qA lp fin)))))
def qE8 (s:ByteArray):ByteArray×Bool:=
 if qBH s 200=false then (⟨#[]⟩,false) else if s.toList= [] then (⟨#[]⟩,true) else
 if s.toList.head?=some 61 then (if (qAz (BR s.toList.tail)).2=true∧(qBU (qAz (BR s.toList.tail)).1).toList≠ []∧(qBU (qAz (BR s.toList.tail)).1).size<200 then (⟨#[61]⟩++qBU (qAz (BR s.toList.tail)).1,true) else (⟨#[]⟩,false)) else
 if qDo s.toList=true then (qEH (qHQ s.toList),true) else
 if (qj s).2.2.2=true then (s,true) else
 if s.size=200 then (⟨#[]⟩,false) else (⟨#[39]⟩++s,true)
theorem qQl (t:ByteArray):Ev (qBr · ((qAz t).1.map qd)) (qBU (qAz t).1):=qJy _ (by have:=(qJS t).1;omega) (qHp (qJS t).2)
theorem qN9 (t:ByteArray):Ev (qBO · ((qAz t).1.map qd)) (qBU (qAz t).1):=qJz _ (by have:=(qJS t).1;omega) (qHp (qJS t).2)
theorem qIE (l:List Nd):(qBU l).size≤200:=by
 unfold qBU
 split
 ·split
  ·decide
  ·omega
 ·decide
theorem qFq {s:ByteArray} (h:s.toList≠ []):(s.toList==(⟨#[]⟩:ByteArray).toList)=false:=by rw [qk];exact beq_eq_false_iff_ne.2 h
theorem qMj {s:ByteArray} (h:s.toList= []):(s.toList==(⟨#[]⟩:ByteArray).toList)=true:=by rw [qk];exact beq_iff_eq.2 h
theorem qLa {s:ByteArray} (h:(qj s).2.2.2=true):okV (qj s).1 (qj s).2.1 (qj s).2.2.1=true∧(q9 (qj s).1 (qj s).2.1 (qj s).2.2.1)=s:=by
 unfold qj at h⊢
 split at h
 ·rename_i hc
  rw [if_pos hc]
  exact ⟨hc.1,qDN hc.2⟩
 ·cases h
theorem qTR {s:ByteArray} (h:qBH s 200=true):okV 2 0 s=true:=by
 unfold okV
 rw [if_pos rfl,h]
 rfl
theorem qGc {s:ByteArray} (h:qBH s 200=true):s.size≤200:=by have:=qJf h;rw [qAK] at this;exact this
theorem qRz (s:ByteArray):(q9 2 0 s).size=s.size+1:=by
 have e:q9 2 0 s=⟨#[39]⟩++s:=rfl
 rw [e,ByteArray.size_append]
 show 1+s.size=_
 omega
theorem qO5 {s:ByteArray} (h:(qj s).2.2.2=true):(qj s).2.2.1.size≤1000:=by
 obtain ⟨h1,h2⟩:=qLa h
 unfold okV at h1
 split at h1
 ·simp only [Bool.and_eq_true] at h1
  have:=qGc h1.2;omega
 ·simp only [Bool.and_eq_true,beq_iff_eq] at h1
  have:=congrArg List.length h1.1
  rw [qAK] at this
  simp only [List.length_nil] at this
  omega
theorem qNI (s:ByteArray) (hb:s.size≤140737488355328):Ev (qGS · s) (qE8 s):=by
 obtain ⟨n1,h1⟩:=qHg s hb
 unfold qE8
 cases hp:qBH s 200 with
 |false=>
  rw [if_pos rfl]
  refine ⟨n1+1,fun n hn=>?_⟩
  obtain ⟨k,rfl,hm⟩:=up1 hn
  exact qA (h1 k (by omega)) (qF (qD3 hp) rfl)
 |true=>
  rw [if_neg (by simp)]
  have hsz:=qGc hp
  by_cases h0:s.toList= []
  ·rw [if_pos h0]
   refine ⟨n1+1,fun n hn=>?_⟩
   obtain ⟨k,rfl,hm⟩:=up1 hn
   exact qA (h1 k (by omega)) (qO (qC8 hp) (qF (qMj h0) rfl))
  ·rw [if_neg h0]
   obtain ⟨c,t,hct⟩:∃c t,s.toList=c::t:=by
    cases h:s.toList with
    |nil=>exact absurd h h0
    |cons c t=>exact ⟨c,t,rfl⟩
   have g1:s.toList[((0:Int)).toNat]?=some c:=by rw [hct];rfl
   have hl:s.size=t.length+1:=by rw [←qAK,hct];rfl
   by_cases h61:s.toList.head?=some 61
   ·rw [if_pos h61]
    have hc:c=61:=by rw [hct] at h61;simpa using h61
    subst hc
    have ext:s.extract ((1:Int)).toNat (((s.size:Nat):Int)).toNat=BR s.toList.tail:=by
     conv=>lhs;rw [←qEv s]
     rw [qE5,qe,hct]
     simp
    obtain ⟨n2,h2⟩:=qJ0 (BR s.toList.tail) (by rw [qe,hct];simp;omega)
    obtain ⟨n3,h3⟩:=qQl (BR s.toList.tail)
    rw [←ext] at h2 h3⊢
    have fz:=qIE (qAz (s.extract ((1:Int)).toNat (((s.size:Nat):Int)).toNat)).1
    have w1:IntKind.i64.wrap (((qBU (qAz (s.extract ((1:Int)).toNat (((s.size:Nat):Int)).toNat)).1).size:Int)+1)=((qBU (qAz (s.extract ((1:Int)).toNat (((s.size:Nat):Int)).toNat)).1).size:Int)+1:=qX (by omega)
    refine ⟨n1+n2+n3+1,fun n hn=>?_⟩
    obtain ⟨k,rfl,hm⟩:=up1 hn
    refine qA (h1 k (by omega)) (qO (qC8 hp) (qO (qFq h0) (qF rfl (qA g1 (qF rfl (qF (decide_eq_true ⟨by decide,by omega,Int.le_refl _⟩) (qA (h2 k (by omega)) (qA (h3 k (by omega)) ?_))))))))
    by_cases hr:(qAz (s.extract ((1:Int)).toNat (((s.size:Nat):Int)).toNat)).2=true
    ·refine qO (qC8 hr) ?_
     by_cases he:(qBU (qAz (s.extract ((1:Int)).toNat (((s.size:Nat):Int)).toNat)).1).toList= []
     ·rw [if_neg (fun h=>h.2.1 he)]
      exact qF (qMj he) rfl
     ·refine qO (qFq he) ?_
      by_cases hz:(qBU (qAz (s.extract ((1:Int)).toNat (((s.size:Nat):Int)).toNat)).1).size<200
      ·rw [if_pos ⟨hr,he,hz⟩]
       exact qO (decide_eq_false (by rw [w1];omega)) (qF (decide_eq_true (by show 1+(qBU (qAz (s.extract ((1:Int)).toNat (((s.size:Nat):Int)).toNat)).1).size≤9223372036854775807;omega)) rfl)
      ·rw [if_neg (fun h=>hz h.2.2)]
       exact qF (decide_eq_true (by rw [w1];omega)) rfl
    ·rw [if_neg (fun h=>hr h.1)]
     exact qF (qD3 (by rw [Bool.eq_false_iff];exact hr)) rfl
   ·rw [if_neg h61]
    have hc:((c.toNat:Int)==61)=false:=by
     rw [beq_eq_false_iff_ne];intro e
     refine h61 ?_
     rw [hct,show c=61 from UInt8.toNat_inj.1 (show c.toNat=61 by omega)];rfl
    obtain ⟨r,r1,r2,n2,h2⟩:=qQH s.toList h0 (by rw [qAK];omega)
    rw [qEv] at h2
    obtain ⟨n3,h3⟩:=qGt s (by omega)
    cases hn:qDo s.toList with
    |true=>
     rw [if_pos rfl]
     have er:=r2 hn
     subst er
     have hok:okV 1 (qHQ s.toList) em=true:=by unfold qDo at hn;simp only [Bool.and_eq_true] at hn;exact hn.2
     obtain ⟨n4,h4⟩:=qDQ 1 (qHQ s.toList) em (by decide)
     rw [if_pos hok] at h4
     refine ⟨n1+n2+n4+1,fun n hn=>?_⟩
     obtain ⟨k,rfl,hm⟩:=up1 hn
     exact qA (h1 k (by omega)) (qO (qC8 hp) (qO (qFq h0) (qF rfl (qA g1 (qO hc (qA (h2 k (by omega)) (qF rfl (qA (h4 k (by omega)) rfl))))))))
    |false=>
     rw [if_neg (by simp)]
     have rf:r.2.2.2=false:=by rw [r1];exact hn
     by_cases hv:(qj s).2.2.2=true
     ·rw [if_pos hv]
      obtain ⟨v1,v2⟩:=qLa hv
      obtain ⟨n4,h4⟩:=qDQ (qj s).1 (qj s).2.1 (qj s).2.2.1 (by have:=qO5 hv;omega)
      rw [if_pos v1,v2] at h4
      refine ⟨n1+n2+n3+n4+1,fun n hn=>?_⟩
      obtain ⟨k,rfl,hm⟩:=up1 hn
      exact qA (h1 k (by omega)) (qO (qC8 hp) (qO (qFq h0) (qF rfl (qA g1 (qO hc (qA (h2 k (by omega)) (qO rf (qA (h3 k (by omega)) (qO (qC8 hv) (qA (h4 k (by omega)) (qO (decide_eq_false (by omega)) rfl)))))))))))
     ·rw [if_neg hv]
      obtain ⟨n4,h4⟩:=qDQ 2 0 s (by omega)
      rw [if_pos (qTR hp)] at h4
      have vz:=qRz s
      refine ⟨n1+n2+n3+n4+1,fun n hn=>?_⟩
      obtain ⟨k,rfl,hm⟩:=up1 hn
      refine qA (h1 k (by omega)) (qO (qC8 hp) (qO (qFq h0) (qF rfl (qA g1 (qO hc (qA (h2 k (by omega)) (qO rf (qA (h3 k (by omega)) (qF (qD3 (by rw [Bool.eq_false_iff];exact hv)) (qA (h4 k (by omega)) ?_))))))))))
      by_cases hz:s.size=200
      ·rw [if_pos hz]
       exact qF (decide_eq_true (by omega)) rfl
      ·rw [if_neg hz]
       exact qO (decide_eq_false (by omega)) rfl
theorem qQI (X:ByteArray):Ev (qFX · ((qAz X).1.map qd)) (⟨#[61]⟩++qBU (qAz X).1,decide ((qBU (qAz X).1).toList≠ [])&&decide ((qBU (qAz X).1).size<200)):=by
 obtain ⟨n1,h1⟩:=qN9 X
 have fz:=qIE (qAz X).1
 refine ⟨n1+1,fun n hn=>?_⟩
 obtain ⟨k,rfl,hm⟩:=up1 hn
 refine qA (h1 k (by omega)) (qF (decide_eq_true (by show 1+(qBU (qAz X).1).size≤9223372036854775807;omega)) ?_)
 by_cases he:(qBU (qAz X).1).toList= []
 ·refine qO (qC8 (qMj he)) ?_
  rw [qC,decide_eq_false (fun h=>h he),Bool.false_and]
 ·refine qF (qD3 (qFq he)) ?_
  rw [qC,decide_eq_true he,Bool.true_and]
  have e:decide (((qBU (qAz X).1).size:Int)<200)=decide ((qBU (qAz X).1).size<200):=by rw [decide_eq_decide];omega
  exact congrArg (fun b:Bool=>some ((⟨#[61]⟩:ByteArray)++qBU (qAz X).1,b)) e
theorem qIc (s:ByteArray) (hb:s.size≤140737488355328):Ev (qEe · s) (qE8 s):=by
 obtain ⟨n1,h1⟩:=qIY s 200 hb
 unfold qE8
 cases hp:qBH s 200 with
 |false=>
  rw [if_pos rfl]
  have h0:s.toList≠ []:=fun e=>by
   have:qBH s 200=true:=by
    unfold qBH
    have hz:s.size=0:=by rw [←qAK,e];rfl
    rw [e,hz];rfl
   rw [hp] at this;cases this
  refine ⟨n1+1,fun n hn=>?_⟩
  obtain ⟨k,rfl,hm⟩:=up1 hn
  refine qA (h1 k (by omega)) (qF (qD3 hp) ?_)
  rw [qC,qFq h0]
 |true=>
  rw [if_neg (by simp)]
  have hsz:=qGc hp
  by_cases h0:s.toList= []
  ·rw [if_pos h0]
   refine ⟨n1+1,fun n hn=>?_⟩
   obtain ⟨k,rfl,hm⟩:=up1 hn
   refine qA (h1 k (by omega)) (qO (qC8 hp) (qF (qMj h0) ?_))
   rw [qC,qMj h0]
  ·rw [if_neg h0]
   obtain ⟨n2,h2⟩:=qFt s 61
   by_cases h61:s.toList.head?=some 61
   ·rw [if_pos h61]
    rw [if_pos h61] at h2
    obtain ⟨n3,h3⟩:=qFp (BR s.toList.tail) (by rw [qe,List.length_tail,qAK];omega)
    obtain ⟨n4,h4⟩:=qQI (BR s.toList.tail)
    change ∀n,n2≤n→qAG n s ⟨#[61]⟩=some (BR s.toList.tail,true) at h2
    generalize BR s.toList.tail=X at h2 h3 h4⊢
    refine ⟨n1+n2+n3+n4+1,fun n hn=>?_⟩
    obtain ⟨k,rfl,hm⟩:=up1 hn
    have h4:=h4 k (by omega)
    refine qA (h1 k (by omega)) (qO (qC8 hp) (qO (qFq h0) (qA (h2 k (by omega)) (qF rfl (qA (h3 k (by omega)) (qA h4 ?_))))))
    by_cases hr:(qAz X).2=true
    ·refine qO (qC8 hr) ?_
     by_cases he:(qBU (qAz X).1).toList≠ []∧(qBU (qAz X).1).size<200
     ·rw [if_pos ⟨hr,he⟩]
      exact qO (qC8 (by simp only;rw [decide_eq_true he.1,decide_eq_true he.2];rfl)) rfl
     ·rw [if_neg (fun h=>he h.2)]
      exact qF (qD3 (by simp only;rw [Bool.eq_false_iff];intro e;simp only [Bool.and_eq_true,decide_eq_true_eq] at e;exact he e)) rfl
    ·rw [if_neg (fun h=>hr h.1)]
     exact qF (qD3 (by rw [Bool.eq_false_iff];exact hr)) rfl
   ·rw [if_neg h61]
    rw [if_neg h61] at h2
    obtain ⟨n3,h3⟩:=qEn s (by omega)
    obtain ⟨n4,h4⟩:=qQE s.toList (by rw [qAK];omega)
    rw [qEv] at h4
    have fin:∀k,n3≤k→(Tr.opt (qZ k s) fun r=>(.ask (r.2.2.2) (.done (s,true)) (.ask (((s.size:Int)==(200:Int))) (.done ((⟨#[]⟩:ByteArray),false)) (.ask (decide ((⟨#[39]⟩:ByteArray).size+s.size≤9223372036854775807)) (.done (((⟨#[39]⟩:ByteArray)++s),true)) .fail)))).run=some (if (qj s).2.2.2=true then (s,true) else if s.size=200 then ((⟨#[]⟩:ByteArray),false) else (⟨#[39]⟩++s,true)):=fun k hk=>by
     refine qA (h3 k hk) ?_
     by_cases hv:(qj s).2.2.2=true
     ·rw [if_pos hv];exact qF hv rfl
     ·rw [if_neg hv]
      refine qO (by rw [Bool.eq_false_iff];exact hv) ?_
      by_cases hz:s.size=200
      ·rw [if_pos hz];exact qF (beq_iff_eq.2 (by omega)) rfl
      ·rw [if_neg hz]
       exact qO (beq_eq_false_iff_ne.2 (by omega)) (qF (decide_eq_true (by show 1+s.size≤9223372036854775807;omega)) rfl)
    have hpi:∀k,qA4 (k+1) s 10 64=zK s 10 64:=fun k=>rfl
    have hL:zK s 10 64=(match Lib.parseIntB 64 s.toList with
     | .ok v=>some (.inl v)
     | .range=>some (.inr (Lib.intSat 64 s.toList))
     | _ => some (.inr 0)):=by
     unfold zK
     rw [if_pos ⟨rfl,rfl,by omega⟩,Go.Lib.toList_data]
     cases Lib.parseIntB 64 s.data.toList<;>rfl
    rcases hq : Lib.parseIntB 64 s.toList with v | _ | _
    rotate_left
    ·have hn:qDo s.toList=false:=by
      rw [Bool.eq_false_iff];intro e
      have hd:qLY s.toList=true:=by unfold qDo at e;simp only [Bool.and_eq_true] at e;exact e.1
      have:=(qMa hd).2 e
      rw [hq] at this;cases this
     rw [hn,if_neg (by simp)]
     rw [hq] at hL
     refine ⟨n1+n2+n3+2,fun n hn=>?_⟩
     obtain ⟨k,rfl,hm⟩:=up1 hn
     obtain ⟨k,rfl,hm⟩:=up1 (show n1+n2+n3+1≤k by omega)
     exact qA (h1 (k+1) (by omega)) (qO (qC8 hp) (qO (qFq h0) (qA (h2 (k+1) (by omega)) (qO rfl (qA ((hpi k).trans hL) (qO rfl (fin (k+1) (by omega))))))))
    ·have hn:qDo s.toList=false:=by
      rw [Bool.eq_false_iff];intro e
      have hd:qLY s.toList=true:=by unfold qDo at e;simp only [Bool.and_eq_true] at e;exact e.1
      have:=(qMa hd).2 e
      rw [hq] at this;cases this
     rw [hn,if_neg (by simp)]
     rw [hq] at hL
     refine ⟨n1+n2+n3+2,fun n hn=>?_⟩
     obtain ⟨k,rfl,hm⟩:=up1 hn
     obtain ⟨k,rfl,hm⟩:=up1 (show n1+n2+n3+1≤k by omega)
     exact qA (h1 (k+1) (by omega)) (qO (qC8 hp) (qO (qFq h0) (qA (h2 (k+1) (by omega)) (qO rfl (qA ((hpi k).trans hL) (qO rfl (fin (k+1) (by omega))))))))
    ·rw [hq] at hL
     cases hd:qLY s.toList with
     |false=>
      have hn:qDo s.toList=false:=by unfold qDo;rw [hd];rfl
      rw [hn,if_neg (by simp)]
      refine ⟨n1+n2+n3+n4+2,fun n hn=>?_⟩
      obtain ⟨k,rfl,hm⟩:=up1 hn
      obtain ⟨k,rfl,hm⟩:=up1 (show n1+n2+n3+n4+1≤k by omega)
      have h4:=h4 (k+1) (by omega)
      rw [hd] at h4
      exact qA (h1 (k+1) (by omega)) (qO (qC8 hp) (qO (qFq h0) (qA (h2 (k+1) (by omega)) (qO rfl (qA ((hpi k).trans hL) (qF rfl (qA h4 (qO rfl (fin (k+1) (by omega))))))))))
     |true=>
      have hv:=(qMa hd).1 v hq
      subst hv
      obtain ⟨n5,h5⟩:=qJE (qHQ s.toList)
      obtain ⟨n6,h6⟩:=qDI 1 (qHQ s.toList) em (by decide)
      have ei:qDo s.toList=okV 1 (qHQ s.toList) em:=by unfold qDo;rw [hd,Bool.true_and]
      rw [ei]
      cases ho:okV 1 (qHQ s.toList) em with
      |true=>
       rw [if_pos rfl]
       have hb2:=qSh.1 ho
       obtain ⟨n7,h7⟩:=qFd (qHQ s.toList) (by omega)
       refine ⟨n1+n2+n3+n4+n5+n6+n7+2,fun n hn=>?_⟩
       obtain ⟨k,rfl,hm⟩:=up1 hn
       obtain ⟨k,rfl,hm⟩:=up1 (show n1+n2+n3+n4+n5+n6+n7+1≤k by omega)
       have h4:=h4 (k+1) (by omega)
       rw [hd] at h4
       exact qA (h1 (k+1) (by omega)) (qO (qC8 hp) (qO (qFq h0) (qA (h2 (k+1) (by omega)) (qO rfl (qA ((hpi k).trans hL) (qF rfl (qA h4 (qF rfl (qA (h5 (k+1) (by omega)) (qA (h6 (k+1) (by omega)) (qF ho (qA (h7 (k+1) (by omega)) rfl))))))))))))
      |false=>
       rw [if_neg (by simp)]
       refine ⟨n1+n2+n3+n4+n5+n6+2,fun n hn=>?_⟩
       obtain ⟨k,rfl,hm⟩:=up1 hn
       obtain ⟨k,rfl,hm⟩:=up1 (show n1+n2+n3+n4+n5+n6+1≤k by omega)
       have h4:=h4 (k+1) (by omega)
       rw [hd] at h4
       exact qA (h1 (k+1) (by omega)) (qO (qC8 hp) (qO (qFq h0) (qA (h2 (k+1) (by omega)) (qO rfl (qA ((hpi k).trans hL) (qF rfl (qA h4 (qF rfl (qA (h5 (k+1) (by omega)) (qA (h6 (k+1) (by omega)) (qO ho (fin (k+1) (by omega)))))))))))))
theorem qLb {r:List UInt8} (h:r.head?≠some 32):tb r=r:=by
 cases r with
 |nil=>rfl
 |cons c t=>
  have:¬c=32:=fun e=>h (by rw [e];rfl)
  simp [tb,this]
theorem qPd {w r:List UInt8} (h:w.all wch=true) (h2:∀c,r.head?=some c→wch c=false):wd (w++r)=w∧wr (w++r)=r:=by
 unfold wd wr
 rw [List.all_eq_true] at h
 rw [List.takeWhile_append_of_pos h,List.dropWhile_append_of_pos h]
 cases r with
 |nil=>simp
 |cons c r=>simp [h2 c rfl]
def Fo (r:List UInt8):Prop:=∀c,r.head?=some c→c∈([38,43,45,42,47,60,61,62,41,44]:List UInt8)
theorem qR0:Fo []:=fun c h=>by cases h
theorem qCq {c:UInt8} {r:List UInt8} (h:c∈([38,43,45,42,47,60,61,62,41,44]:List UInt8)):Fo (c::r):=fun d hd=>by
 simp at hd;subst hd;exact h
theorem qKm {r:List UInt8} (h:Fo r):∀c,r.head?=some c→wch c=false:=fun c hc=>by
 have:=h c hc
 revert this
 simp only [List.mem_cons,List.not_mem_nil,or_false]
 rintro (rfl|rfl|rfl|rfl|rfl|rfl|rfl|rfl|rfl|rfl)<;>decide
theorem qRC {r:List UInt8} (h:Fo r) {d:UInt8} (hd:d∉([38,43,45,42,47,60,61,62,41,44]:List UInt8)):r.head?≠some d:=fun e=>hd (h d e)
theorem qRD {r:List UInt8} (h:Fo r):tb r=r:=qLb (qRC h (by decide))
theorem qPe:∀(b acc r:List UInt8),r.head?≠some 34→qBx acc (qAf b++34::r)=some (acc++b,r)
 | [],acc,r,h=>by simp only [qAf,List.flatMap_nil,List.nil_append,List.append_nil];exact qSa acc r h
 |c::b,acc,r,h=>by
  rw [qEI]
  by_cases hc:c=34
  ·subst hc
   rw [if_pos rfl]
   show qBx acc (34::34::(qAf b++34::r))=_
   rw [qSZ,qPe b _ r h]
   simp
  ·rw [if_neg hc]
   show qBx acc (c::(qAf b++34::r))=_
   rw [qSb _ _ hc,qPe b _ r h]
   simp
def Sta (r:List UInt8):Prop:=∃c,r.head?=some c∧(wch c=true∨c=45∨c=40∨c=34∨c=35)
theorem qPf {r:List UInt8} (h:Sta r) {d:UInt8} (h1:wch d=false) (h2:d≠45∧d≠40∧d≠34∧d≠35):r.head?≠some d:=fun e=>by
 obtain ⟨c,hc,hw⟩:=h
 rw [e] at hc
 cases hc
 rcases hw with hw|rfl|rfl|rfl|rfl
 ·rw [h1] at hw;cases hw
 ·exact h2.1 rfl
 ·exact h2.2.1 rfl
 ·exact h2.2.2.1 rfl
 ·exact h2.2.2.2 rfl
theorem qQm {r:List UInt8} (h:Sta r):tb r=r:=qLb (qPf h (by decide) (by decide))
theorem qIF {r:List UInt8} (h:Sta r) (x:List UInt8):Sta (r++x):=by
 obtain ⟨c,hc,hw⟩:=h
 cases r with
 |nil=>cases hc
 |cons d t=>exact ⟨c,hc,hw⟩
theorem qQJ {op:Int} (ho:1≤op∧op≤11) {x:List UInt8} (hx:Sta x):sgn ((qo op).toList++x)=(qo op).toList:=by
 have n61:x.head?≠some 61:=qPf hx (by decide) (by decide)
 have n62:x.head?≠some 62:=qPf hx (by decide) (by decide)
 have c:op=1∨op=2∨op=3∨op=4∨op=5∨op=6∨op=7∨op=8∨op=9∨op=10∨op=11:=by omega
 rcases c with rfl|rfl|rfl|rfl|rfl|rfl|rfl|rfl|rfl|rfl|rfl
 ·rw [sg1];exact (qEp 43 x (by decide) (by decide)).trans (by decide)
 ·rw [sg2];exact (qEp 45 x (by decide) (by decide)).trans (by decide)
 ·rw [sg3];exact (qEp 42 x (by decide) (by decide)).trans (by decide)
 ·rw [sg4];exact (qEp 47 x (by decide) (by decide)).trans (by decide)
 ·rw [sg5];exact (qEp 38 x (by decide) (by decide)).trans (by decide)
 ·rw [sg6];exact (qEp 61 x (by decide) (by decide)).trans (by decide)
 ·rw [sg7];exact (qJN (62::x)).trans (by simp)
 ·rw [sg8];exact (qJN x).trans (by rw [if_neg n62,if_neg n61])
 ·rw [sg9];exact (qJN (61::x)).trans (by simp)
 ·rw [qQc];exact (qMS x).trans (by rw [if_neg n61])
 ·rw [qQd];exact (qMS (61::x)).trans (by simp)
theorem qO6 {op:Int} (ho:1≤op∧op≤11) {r:List UInt8} (h:sgn r=(qo op).toList):qAS r=op:=by
 unfold qAS
 rw [h]
 have c:op=1∨op=2∨op=3∨op=4∨op=5∨op=6∨op=7∨op=8∨op=9∨op=10∨op=11:=by omega
 rcases c with rfl|rfl|rfl|rfl|rfl|rfl|rfl|rfl|rfl|rfl|rfl<;>decide+kernel
theorem qPg {op:Int} (ho:1≤op∧op≤11) (x:List UInt8):Fo ((qo op).toList++x):=by
 have c:op=1∨op=2∨op=3∨op=4∨op=5∨op=6∨op=7∨op=8∨op=9∨op=10∨op=11:=by omega
 rcases c with rfl|rfl|rfl|rfl|rfl|rfl|rfl|rfl|rfl|rfl|rfl
 ·rw [sg1];exact qCq (by decide)
 ·rw [sg2];exact qCq (by decide)
 ·rw [sg3];exact qCq (by decide)
 ·rw [sg4];exact qCq (by decide)
 ·rw [sg5];exact qCq (by decide)
 ·rw [sg6];exact qCq (by decide)
 ·rw [sg7];exact qCq (by decide)
 ·rw [sg8];exact qCq (by decide)
 ·rw [sg9];exact qCq (by decide)
 ·rw [qQc];exact qCq (by decide)
 ·rw [qQd];exact qCq (by decide)
theorem qR1 {op:Int} (ho:1≤op∧op≤11):1≤(qo op).toList.length:=by
 have c:op=1∨op=2∨op=3∨op=4∨op=5∨op=6∨op=7∨op=8∨op=9∨op=10∨op=11:=by omega
 rcases c with rfl|rfl|rfl|rfl|rfl|rfl|rfl|rfl|rfl|rfl|rfl<;>decide+kernel
theorem qPh (x:List UInt8):qAS (41::x)=0:=by
 unfold qAS
 rw [qEp 41 x (by decide) (by decide)]
 decide
theorem qSi (x:List UInt8):qAS (44::x)=0:=by
 unfold qAS
 rw [qEp 44 x (by decide) (by decide)]
 decide
theorem qQK:qAS []=0:=by decide
theorem qPi {c:UInt8} (hc:c∈([45,40,41,44,58]:List UInt8)) {p:PS} (h:(tb p.1).head?≠some c):qW [c] p=(false,tb p.1,p.2):=by
 unfold qW
 rw [if_neg]
 intro e
 exact h ((qDJ c _).1 ((qQ2 hc _).1 e))
theorem qJT {c:UInt8} (hc:c∈([45,40,41,44,58]:List UInt8)) {r:List UInt8} (h32:c≠32) (b:Bool) (l:List Nd):qW [c] (c::r,b,l)=(true,r,b,l):=by
 have t:tb (c::r)=c::r:=qLb (by simpa using h32)
 unfold qW
 simp only [t]
 rw [if_pos ((qQ2 hc _).2 ((qDJ c _).2 rfl))]
 rfl
theorem qS8 {n:Int} (hn:1≤n∧n≤5) (r:List UInt8):qGw ((qY n).toList++r) 1 5=some n:=by
 have t1:(qY 1).toList= [35,68,73,86,33]:=by rw [Go.Lib.toList_data];rfl
 have t2:(qY 2).toList= [35,84,89,80,69,33]:=by rw [Go.Lib.toList_data];rfl
 have t3:(qY 3).toList= [35,82,69,70,33]:=by rw [Go.Lib.toList_data];rfl
 have t4:(qY 4).toList= [35,79,86,69,82,33]:=by rw [Go.Lib.toList_data];rfl
 have t5:(qY 5).toList= [35,67,89,67,76,69,33]:=by rw [Go.Lib.toList_data];rfl
 have a2:(1:Int)+1=2:=rfl
 have a3:(2:Int)+1=3:=rfl
 have a4:(3:Int)+1=4:=rfl
 have a5:(4:Int)+1=5:=rfl
 simp only [qGw,a2,a3,a4,a5]
 have c:n=1∨n=2∨n=3∨n=4∨n=5:=by omega
 rcases c with rfl|rfl|rfl|rfl|rfl<;>simp [t1,t2,t3,t4,t5,List.isPrefixOf]
theorem qEr (a b:ByteArray):(a++b).toList=a.toList++b.toList:=by rw [Go.Lib.toList_data,qDF,Go.Lib.toList_data,Go.Lib.toList_data]
theorem qLc {a b:Int} {f g:Bool} (h:zP a b f g=true):a=0∧b=0∧f=false∧g=false:=by
 unfold zP at h
 simp only [Bool.and_eq_true,decide_eq_true_eq,Bool.not_eq_true'] at h
 exact ⟨h.1,h.2.1,h.2.2.1,h.2.2.2⟩
theorem qQL {k x:Int} {s:ByteArray} (h:zV k x s=true):k=0∧x=0∧s=em:=by
 unfold zV at h
 simp only [Bool.and_eq_true,decide_eq_true_eq,beq_iff_eq] at h
 exact ⟨h.1,h.2.1,qDN (h.2.2.trans qk.symm)⟩
theorem qQn {l:List Int} (h:decide (l.length=0)=true):l= []:=List.length_eq_zero_iff.1 (of_decide_eq_true h)
theorem qR2 {c:Nd} (h:qCI c=true) (k:c.1=1):c=nd1 (c.2.2.1,c.2.2.2.1,c.2.2.2.2.1)∧okV c.2.2.1 c.2.2.2.1 c.2.2.2.2.1=true∧c.2.2.1≠0∧(c.2.2.1=1→0≤c.2.2.2.1):=by
 obtain ⟨k0,op,vk,vx,vs,a,b,fc,fr,a2,b2,fc2,fr2,ks⟩:=c
 simp only at k
 subst k
 unfold qCI at h
 simp only [if_true,Bool.and_eq_true,decide_eq_true_eq,kd,Bool.not_eq_true',decide_eq_false_iff_not,Bool.or_eq_true] at h
 obtain ⟨h1,h2,h3,h4,h5,h6,h7⟩:=h
 obtain ⟨rfl,rfl,rfl,rfl⟩:=qLc h2
 obtain ⟨rfl,rfl,rfl,rfl⟩:=qLc h3
 have:=qQn h4
 subst this;subst h1
 refine ⟨rfl,h5,h6,fun e=>?_⟩
 rcases h7 with h7|h7
 ·exact absurd e h7
 ·exact h7
theorem qR3 {c:Nd} (h:qCI c=true) (k:c.1=2):c=ndC (c.2.2.2.2.2.1,c.2.2.2.2.2.2.1,c.2.2.2.2.2.2.2.1,c.2.2.2.2.2.2.2.2.1,true)∧qAx c.2.2.2.2.2.1 c.2.2.2.2.2.2.1=true:=by
 obtain ⟨k0,op,vk,vx,vs,a,b,fc,fr,a2,b2,fc2,fr2,ks⟩:=c
 simp only at k
 subst k
 unfold qCI at h
 rw [if_neg (by simp),if_pos rfl] at h
 simp only [Bool.and_eq_true,decide_eq_true_eq,kd] at h
 obtain ⟨h1,h2,h3,h4,h5⟩:=h
 obtain ⟨rfl,rfl,rfl⟩:=qQL h2
 obtain ⟨rfl,rfl,rfl,rfl⟩:=qLc h3
 have:=qQn h4
 subst this;subst h1
 exact ⟨rfl,h5⟩
theorem qQo {c:Nd} (h:qCI c=true) (k:c.1=3):c=ndA (c.2.2.2.2.2.1,c.2.2.2.2.2.2.1,c.2.2.2.2.2.2.2.1,c.2.2.2.2.2.2.2.2.1,true) (c.2.2.2.2.2.2.2.2.2.1,c.2.2.2.2.2.2.2.2.2.2.1,c.2.2.2.2.2.2.2.2.2.2.2.1,c.2.2.2.2.2.2.2.2.2.2.2.2.1,true)∧qEj c.2.2.2.2.2.1 c.2.2.2.2.2.2.1 c.2.2.2.2.2.2.2.2.2.1 c.2.2.2.2.2.2.2.2.2.2.1=true:=by
 obtain ⟨k0,op,vk,vx,vs,a,b,fc,fr,a2,b2,fc2,fr2,ks⟩:=c
 simp only at k
 subst k
 unfold qCI at h
 rw [if_neg (by simp),if_neg (by simp),if_pos rfl] at h
 simp only [Bool.and_eq_true,decide_eq_true_eq,kd] at h
 obtain ⟨h1,h2,h4,h5⟩:=h
 obtain ⟨rfl,rfl,rfl⟩:=qQL h2
 have:=qQn h4
 subst this;subst h1
 exact ⟨rfl,h5⟩
theorem qR4 {c:Nd} (h:qCI c=true) (k:c.1=4):∃x,c=ndK 4 0 [x]:=by
 obtain ⟨k0,op,vk,vx,vs,a,b,fc,fr,a2,b2,fc2,fr2,ks⟩:=c
 simp only at k
 subst k
 unfold qCI at h
 rw [if_neg (by simp),if_neg (by simp),if_neg (by simp),if_pos rfl] at h
 simp only [Bool.and_eq_true,decide_eq_true_eq,kd] at h
 obtain ⟨h1,h2,h3,h4,h5⟩:=h
 obtain ⟨rfl,rfl,rfl⟩:=qQL h2
 obtain ⟨rfl,rfl,rfl,rfl⟩:=qLc h3
 obtain ⟨rfl,rfl,rfl,rfl⟩:=qLc h4
 obtain ⟨x,rfl⟩:=List.length_eq_one_iff.1 (of_decide_eq_true h5)
 subst h1
 exact ⟨x,rfl⟩
theorem qR5 {c:Nd} (h:qCI c=true) (k:c.1=5):∃x y,c=ndK 5 c.2.1 [x,y]∧1≤c.2.1∧c.2.1≤11:=by
 obtain ⟨k0,op,vk,vx,vs,a,b,fc,fr,a2,b2,fc2,fr2,ks⟩:=c
 simp only at k
 subst k
 unfold qCI at h
 rw [if_neg (by simp),if_neg (by simp),if_neg (by simp),if_neg (by simp),if_pos rfl] at h
 simp only [Bool.and_eq_true,decide_eq_true_eq,kd] at h
 obtain ⟨h1,h2,h3,h4,h5⟩:=h
 obtain ⟨rfl,rfl,rfl⟩:=qQL h2
 obtain ⟨rfl,rfl,rfl,rfl⟩:=qLc h3
 obtain ⟨rfl,rfl,rfl,rfl⟩:=qLc h4
 obtain ⟨x,y,rfl⟩:∃x y,ks= [x,y]:=by
  match ks,of_decide_eq_true h5 with
  | [x,y],_=>exact ⟨x,y,rfl⟩
 exact ⟨x,y,rfl,h1⟩
theorem qR6 {c:Nd} (h:qCI c=true) (k:c.1=6):c=ndK 6 c.2.1 (kd c)∧qFn c.2.1 ((kd c).length:Int)=true:=by
 obtain ⟨k0,op,vk,vx,vs,a,b,fc,fr,a2,b2,fc2,fr2,ks⟩:=c
 simp only at k
 subst k
 unfold qCI at h
 rw [if_neg (by simp),if_neg (by simp),if_neg (by simp),if_neg (by simp),if_neg (by simp),if_pos rfl] at h
 simp only [Bool.and_eq_true,kd] at h
 obtain ⟨h1,h2,h3,h4⟩:=h
 obtain ⟨rfl,rfl,rfl⟩:=qQL h2
 obtain ⟨rfl,rfl,rfl,rfl⟩:=qLc h3
 obtain ⟨rfl,rfl,rfl,rfl⟩:=qLc h4
 exact ⟨rfl,h1⟩
theorem qO7 {c r:Int} {fc fr:Bool} (h:qAx c r=true):(qAT c r fc fr).toList=(if fc=true then [36] else [])++((qBj c).data.toList++((if fr=true then [36] else [])++Lib.itoa r)):=by
 rw [Go.Lib.toList_data]
 simp [qAT,h,qEH]
theorem qS9 {c:UInt8} (h:qEQ c=true):wch c=true:=by
 simp only [qEQ,Bool.and_eq_true,decide_eq_true_eq] at h
 unfold wch
 simp only [Bool.or_eq_true,Bool.and_eq_true,decide_eq_true_eq]
 exact .inl h
theorem qLd {c:UInt8} (h:qAe c=true):wch c=true:=by
 simp only [qAe,Bool.and_eq_true,decide_eq_true_eq] at h
 unfold wch
 simp only [Bool.or_eq_true,Bool.and_eq_true,decide_eq_true_eq]
 exact .inr (.inl h)
theorem qJU {x:Int} (h:0≤x):(Lib.itoa x).all qAe=true∧Lib.itoa x≠ []:=by
 unfold Lib.itoa
 rw [if_neg (by omega)]
 obtain ⟨h1,_,h3,_,_⟩:=qC6 x.toNat
 exact ⟨h1,h3⟩
theorem qEs {p q:UInt8→Bool} {l:List UInt8} (h:∀c,p c=true→q c=true) (hl:l.all p=true):l.all q=true:=by
 rw [List.all_eq_true] at hl⊢
 exact fun x hx=>h x (hl x hx)
theorem qE9 {c r:Int} {fc fr:Bool} (h:qAx c r=true):(qAT c r fc fr).toList.all wch=true∧(qAT c r fc fr).toList≠ []:=by
 obtain ⟨hc,hr⟩:=qEk h
 obtain ⟨u1,u2,u3⟩:=qPQ hc
 rw [qO7 h]
 obtain ⟨d1,d2⟩:=qJU (x:=r) (by omega)
 refine ⟨?_,by simp [u3]⟩
 simp only [List.all_append,Bool.and_eq_true]
 refine ⟨?_,qEs (fun _=>qS9) u1,?_,qEs (fun _=>qLd) d1⟩
 ·split<;>decide
 ·split<;>decide
theorem qRX {c r:Int} {fc fr:Bool} (h:qAx c r=true):¬((qj (qAT c r fc fr)).2.2.2=true∧((qj (qAT c r fc fr)).1=1∨(qj (qAT c r fc fr)).1=3)):=by
 rintro ⟨ho,hk⟩
 obtain ⟨hc,hr⟩:=qEk h
 obtain ⟨u1,u2,u3⟩:=qPQ hc
 obtain ⟨d1,d2⟩:=qJU (x:=r) (by omega)
 obtain ⟨v1,v2⟩:=qLa ho
 have e:=congrArg ByteArray.toList v2
 rw [qO7 h] at e
 generalize qj (qAT c r fc fr)=v at*
 obtain ⟨a,t,hat⟩:∃a t,(qBj c).data.toList=a::t:=by
  cases hq:(qBj c).data.toList with
  |nil=>exact absurd hq u3
  |cons a t=>exact ⟨a,t,rfl⟩
 obtain ⟨d,t',hdt⟩:∃d t',Lib.itoa r=d::t':=by
  cases hq:Lib.itoa r with
  |nil=>exact absurd hq d2
  |cons a t=>exact ⟨a,t,rfl⟩
 have ma:a∈(q9 v.1 v.2.1 v.2.2.1).toList:=by rw [e,hat];simp
 have md:d∈(q9 v.1 v.2.1 v.2.2.1).toList:=by rw [e,hdt];simp
 have ua:qEQ a=true:=by rw [hat,List.all_cons,Bool.and_eq_true] at u1;exact u1.1
 have dd:qAe d=true:=by rw [hdt,List.all_cons,Bool.and_eq_true] at d1;exact d1.1
 simp only [qEQ,Bool.and_eq_true,decide_eq_true_eq] at ua
 simp only [qAe,Bool.and_eq_true,decide_eq_true_eq] at dd
 rcases hk with hk|hk
 ·rw [hk] at ma
  have ht:(q9 1 v.2.1 v.2.2.1).toList=Lib.itoa v.2.1:=by rw [Go.Lib.toList_data];simp [q9,qEH]
  rw [ht] at ma
  unfold Lib.itoa at ma
  split at ma
  ·rcases List.mem_cons.1 ma with rfl|ma
   ·exact absurd ua.1 (by decide)
   ·have:=(qC6 v.2.1.natAbs).1
    rw [List.all_eq_true] at this
    have:=this a ma
    simp only [qAe,Bool.and_eq_true,decide_eq_true_eq] at this
    omega
  ·have:=(qC6 v.2.1.toNat).1
   rw [List.all_eq_true] at this
   have:=this a ma
   simp only [qAe,Bool.and_eq_true,decide_eq_true_eq] at this
   omega
 ·rw [hk] at md v1
  have hs:=qHK v1 (by decide)
  rw [hs] at v1 md
  have hr:=qOf v1
  have c01:v.2.1=0∨v.2.1=1:=by omega
  rcases c01 with e0|e0
  ·rw [e0] at md
   have ht:(q9 3 0 em).toList= [70,65,76,83,69]:=by rw [Go.Lib.toList_data];rfl
   rw [ht] at md
   simp only [List.mem_cons,List.not_mem_nil,or_false] at md
   rcases md with rfl|rfl|rfl|rfl|rfl<;>exact absurd dd (by decide)
  ·rw [e0] at md
   have ht:(q9 3 1 em).toList= [84,82,85,69]:=by rw [Go.Lib.toList_data];rfl
   rw [ht] at md
   simp only [List.mem_cons,List.not_mem_nil,or_false] at md
   rcases md with rfl|rfl|rfl|rfl<;>exact absurd dd (by decide)
theorem qEt {l:List Nd} (hl:l.length≤60) {i:Int} (hi:0≤i∧i<l.length) (r:List UInt8) {x:Nd} (hx:ndi l i=x):qC7 x (r,false,l.take i.toNat)=(i,r,false,l.take (i.toNat+1)):=by
 have hlen:(l.take i.toNat).length=i.toNat:=by rw [List.length_take];omega
 unfold qC7
 rw [if_neg]
 ·simp only [hlen]
  have hg:=qCn (l:=l) (i:=i) ⟨hi.1,hi.2⟩
  rw [hx] at hg
  rw [List.take_add_one,hg]
  refine Prod.ext (by simp only;omega) rfl
 ·simp only [hlen]
  rintro (h|h)
  ·cases h
  ·omega
theorem qRE {f:Nat} {deep:Int} {x:List UInt8} {l:List Nd} (hd:deep≤400) (h32:x.head?≠some 32) (h45:x.head?≠some 45):pP (f+1) (.un deep) (x,false,l)=pP f (.at deep) (x,false,l):=by
 have t:=qLb h32
 have tk:=qPi (c:=45) (by decide) (p:=(x,false,l)) (by simp only;rw [t];exact h45)
 simp only [t] at tk
 conv=>lhs;unfold pP
 rw [if_neg (fun h=>h.elim (by omega) (by simp)),tk]
 simp
theorem qSj {f:Nat} {deep:Int} {w r:List UInt8} {l:List Nd} (hw:w.all wch=true) (hn:w≠ []) (hr:∀c,r.head?=some c→wch c=false):pP (f+1) (.at deep) (w++r,false,l)=qLV f deep w (r,false,l):=by
 obtain ⟨c,t,rfl⟩:∃c t,w=c::t:=by
  cases w with
  |nil=>exact absurd rfl hn
  |cons c t=>exact ⟨c,t,rfl⟩
 have wc:wch c=true:=by rw [List.all_cons,Bool.and_eq_true] at hw;exact hw.1
 have ne:∀d:UInt8,wch d=false→((c::t)++r).head?≠some d:=fun d hd e=>by
  have:c=d:=by simpa using e
  rw [this,hd] at wc;cases wc
 have tt:tb ((c::t)++r)=(c::t)++r:=qLb (ne 32 (by decide))
 have tk:=qPi (c:=40) (by decide) (p:=((c::t)++r,false,l)) (by simp only;rw [tt];exact ne 40 (by decide))
 obtain ⟨e1,e2⟩:=qPd hw hr
 conv=>lhs;unfold pP
 simp only [tt,tk,e1,e2]
 rw [if_neg (ne 34 (by decide)),if_neg (ne 35 (by decide))]
 simp only
 rw [if_neg (fun h=>by cases h.2)]
 rfl
theorem qNL {f:Nat} {deep:Int} {w r:List UInt8} {l:List Nd} (hd:deep≤400) (hw:w.all wch=true) (hn:w≠ []) (hr:∀c,r.head?=some c→wch c=false):pP (f+2) (.un deep) (w++r,false,l)=qLV f deep w (r,false,l):=by
 have hs:Sta (w++r):=by
  cases w with
  |nil=>exact absurd rfl hn
  |cons c t=>
   rw [List.all_cons,Bool.and_eq_true] at hw
   exact ⟨c,rfl,.inl hw.1⟩
 have h45:(w++r).head?≠some 45:=by
  cases w with
  |nil=>exact absurd rfl hn
  |cons c t=>
   rw [List.all_cons,Bool.and_eq_true] at hw
   intro e
   have:c=45:=by simpa using e
   rw [this] at hw
   exact absurd hw.1 (by decide)
 rw [qRE hd (qPf hs (by decide) (by decide)) h45,qSj hw hn hr]
theorem qOA {x:Int} (h:0≤x∧x≤1):(q9 3 x em).toList.all wch=true∧(q9 3 x em).toList≠ []:=by
 have c01:x=0∨x=1:=by omega
 rcases c01 with rfl|rfl
 ·have ht:(q9 3 0 em).toList= [70,65,76,83,69]:=by rw [Go.Lib.toList_data];rfl
  rw [ht];exact ⟨by decide,by decide⟩
 ·have ht:(q9 3 1 em).toList= [84,82,85,69]:=by rw [Go.Lib.toList_data];rfl
  rw [ht];exact ⟨by decide,by decide⟩
theorem qTA {l:List Nd} (hl:l.length≤60) {i:Int} (hi:0≤i∧i<l.length) {k x:Int} {s:ByteArray} (hx:ndi l i=nd1 (k,x,s)) (hv:okV k x s=true) (h0:k≠0) (h1:k=1→0≤x) {f:Nat} {deep:Int} {r:List UInt8} (hd:deep≤400) (hr:Fo r):
  pP (f+2) (.un deep) ((if k=2 then qDa s else q9 k x s).toList++r,false,l.take i.toNat)=(i,r,false,l.take (i.toNat+1)):=by
 have kc:=qQu hv
 rcases kc with rfl|rfl|rfl|rfl|rfl
 ·exact absurd rfl h0
 ·rw [if_neg (by decide)]
  have hs:=qHK hv (by decide)
  subst hs
  have ht:(q9 1 x em).toList=Lib.itoa x:=by rw [Go.Lib.toList_data];simp [q9,qEH]
  have rb:=qHj hv
  obtain ⟨d1,d2⟩:=qJU (h1 rfl)
  have e:BR (Lib.itoa x)=q9 1 x em:=by rw [←ht,qEv]
  rw [ht,qNL hd (qEs (fun _=>qLd) d1) d2 (qKm hr)]
  unfold qLV
  rw [e,rb,if_pos ⟨rfl,.inl rfl⟩]
  exact qEt hl hi r hx
 ·rw [if_pos rfl]
  obtain ⟨rfl,_,_⟩:=qLC hv
  have ht:(qDa s).toList=34::qAf s.toList++ [34]:=by unfold qDa;exact qAu _
  rw [ht]
  have e:(34::qAf s.toList++ [34])++r=34::(qAf s.toList++34::r):=by simp
  rw [e,qRE hd (by simp) (by simp)]
  have tt:tb (34::(qAf s.toList++34::r))=34::(qAf s.toList++34::r):=qLb (by simp)
  have q:=qPe s.toList [] r (qRC hr (by decide))
  conv=>lhs;unfold pP
  simp only [tt]
  rw [if_pos (show (34::(qAf s.toList++34::r)).head?=some 34 from rfl),List.tail_cons,q]
  simp only [List.nil_append,qEv]
  exact qEt hl hi r hx
 ·rw [if_neg (by decide)]
  have hs:=qHK hv (by decide)
  subst hs
  have rb:=qHj hv
  obtain ⟨d1,d2⟩:=qOA (qOf hv)
  rw [qNL hd d1 d2 (qKm hr)]
  unfold qLV
  rw [qEv,rb,if_pos ⟨rfl,.inr rfl⟩]
  exact qEt hl hi r hx
 ·rw [if_neg (by decide)]
  have hs:=qHK hv (by decide)
  subst hs
  have hn:=qOg hv
  have hx2:q9 4 x em=qY x:=rfl
  rw [hx2]
  obtain ⟨t,ht⟩:=qRV.n x hn
  have hh:((qY x).toList++r).head?=some 35:=by rw [ht];rfl
  rw [qRE hd (by rw [hh];decide) (by rw [hh];decide)]
  have tt:tb ((qY x).toList++r)=(qY x).toList++r:=qLb (by rw [hh];decide)
  have ea:=qS8 hn r
  have ed:((qY x).toList++r).drop (qY x).size=r:=by rw [←qAK];exact List.drop_left
  conv=>lhs;unfold pP
  simp only [tt]
  rw [if_neg (by rw [hh];decide),if_pos hh,ea]
  simp only [ed]
  exact qEt hl hi r hx
theorem qSk {l:List Nd} (hl:l.length≤60) {i:Int} (hi:0≤i∧i<l.length) {c w:Int} {fc fr:Bool} (hx:ndi l i=ndC (c,w,fc,fr,true)) (ho:qAx c w=true) {f:Nat} {deep:Int} {r:List UInt8} (hd:deep≤400) (hr:Fo r):
  pP (f+2) (.un deep) ((qAT c w fc fr).toList++r,false,l.take i.toNat)=(i,r,false,l.take (i.toNat+1)):=by
 obtain ⟨d1,d2⟩:=qE9 (fc:=fc) (fr:=fr) ho
 rw [qNL hd d1 d2 (qKm hr)]
 unfold qLV
 rw [qEv,if_neg (qRX ho),qKj ho,if_pos rfl]
 exact qEt hl hi r hx
def lo (l:List Nd) (i:Int):Int:=qBw (qT l) (i.toNat+1) i
def qMk (l:List Nd):Int→List Int→Int→Prop
 |s,[],e=>s=e
 |s,k::r,e=>lo l k=s∧qMk l (k+1) r e
theorem qOB {l:List Nd}:∀{ks:List Int} {s m k e:Int},qMk l s ks m→lo l k=m→k+1=e→qMk l s (ks++ [k]) e
 | [],s,m,k,e,h,h1,h2=>by
  have h:s=m:=h
  subst h
  exact ⟨h1,h2⟩
 |a::ks,s,m,k,e,h,h1,h2=>⟨h.1,qOB h.2 h1 h2⟩
theorem qQM {l:List Nd} {F:Int→Int}:∀(ks:List Int) {e s:Int},(∀k∈ks,0≤k→F k=lo l k)→goT F ks (e-1)=s→0≤s→qMk l s ks.reverse e
 | [],e,s,_,h,_=>by
  have h:e-1+1=s:=h
  show s=e
  omega
 |k::r,e,s,hF,h,h0=>by
  unfold goT at h
  split at h
  ·omega
  ·rename_i hc
   split at h
   ·omega
   ·have hk:k=e-1:=Classical.byContradiction fun h=>hc (.inr h)
    have h1:0≤k:=by omega
    have e1:=hF k (List.mem_cons_self ..) h1
    rw [←hk,e1] at h
    rw [List.reverse_cons]
    exact qOB (qQM r (fun k hk=>hF k (List.mem_cons_of_mem _ hk)) h h0) rfl (by omega)
theorem qOC {l:List Nd} (h:Fine l) {i:Int} (hi:0≤i∧i<l.length) (h0:0≤lo l i):qMk l (lo l i) (qT l i) i:=by
 have:=qQM (l:=l) (F:=qBw (qT l) i.toNat) (qT l i).reverse (e:=i) (s:=lo l i) (fun k hk hk0=>by
  have hin:=(h.own i hi.1 hi.2).2 k (by simpa using hk)
  exact qPx (qT l) _ _ _ (by omega) (by omega) hk0) (by
  unfold lo
  rw [qBw]) h0
 rwa [List.reverse_reverse] at this
def tx (l:List Nd) (g:Nat) (i t:Int):List UInt8:=(qp l g i t).toList
def qFr (l:List Nd) (g:Nat):List Int→List UInt8
 | []=> []
 | [k]=>tx l g k 1
 |k::r=>tx l g k 1++44::qFr l g r
theorem qKn (l:List Nd) (g:Nat) (k k2:Int) (r:List Int):qFr l g (k::k2::r)=tx l g k 1++44::qFr l g (k2::r):=rfl
theorem qRF (l:List Nd) (g:Nat):∀ks:List Int,(qJL (ks.map fun k=>qp l g k 1)).toList=qFr l g ks
 | []=>by unfold qJL;exact qAu _
 | [k]=>by
  unfold qJL
  rw [qAu]
  simp [Lib.join,qFr,tx,Go.Lib.toList_data]
 |k::k2::r=>by
  have ih:=qRF l g (k2::r)
  unfold qJL at ih⊢
  rw [qAu] at ih⊢
  simp only [List.map_cons] at ih⊢
  rw [qKn,←ih]
  simp [Lib.join,tx,Go.Lib.toList_data]
theorem qTS {l:List Nd} {g:Nat} {i t:Int} (h:(ndi l i).1=1):tx l (g+1) i t=(if (ndi l i).2.2.1=2 then qDa (ndi l i).2.2.2.2.1 else q9 (ndi l i).2.2.1 (ndi l i).2.2.2.1 (ndi l i).2.2.2.2.1).toList:=by
 unfold tx
 conv=>lhs;unfold qp
 rw [if_pos h]
theorem qTT {l:List Nd} {g:Nat} {i t:Int} (h:(ndi l i).1=2):tx l (g+1) i t=(qAT (ndi l i).2.2.2.2.2.1 (ndi l i).2.2.2.2.2.2.1 (ndi l i).2.2.2.2.2.2.2.1 (ndi l i).2.2.2.2.2.2.2.2.1).toList:=by
 unfold tx
 conv=>lhs;unfold qp
 rw [if_neg (by rw [h];decide),if_pos h]
theorem qTU {l:List Nd} {g:Nat} {i t:Int} (h:(ndi l i).1=3):tx l (g+1) i t=(qAT (ndi l i).2.2.2.2.2.1 (ndi l i).2.2.2.2.2.2.1 (ndi l i).2.2.2.2.2.2.2.1 (ndi l i).2.2.2.2.2.2.2.2.1).toList++58::(qAT (ndi l i).2.2.2.2.2.2.2.2.2.1 (ndi l i).2.2.2.2.2.2.2.2.2.2.1 (ndi l i).2.2.2.2.2.2.2.2.2.2.2.1 (ndi l i).2.2.2.2.2.2.2.2.2.2.2.2.1).toList:=by
 unfold tx
 conv=>lhs;unfold qp
 rw [if_neg (by rw [h];decide),if_neg (by rw [h];decide),if_pos h,qEr,qEr]
 simp [Go.Lib.toList_data]
theorem qTV {l:List Nd} {g:Nat} {i t:Int} {k:Int} (h:ndi l i=ndK 4 0 [k]):tx l (g+1) i t=45::tx l g k 5:=by
 unfold tx
 conv=>lhs;unfold qp
 rw [h,show (ndK 4 0 [k]).1=4 from rfl,if_neg (by decide),if_neg (by decide),if_neg (by decide),if_pos rfl,qEr]
 simp [Go.Lib.toList_data,kid,kd,ndK]
theorem qTW {l:List Nd} {g:Nat} {i t:Int} {op k0 k1:Int} (h:ndi l i=ndK 5 op [k0,k1]):tx l (g+1) i t=if lvl op<t then 40::(tx l g k0 (lvl op)++((qo op).toList++tx l g k1 (lvl op+1)))++ [41] else tx l g k0 (lvl op)++((qo op).toList++tx l g k1 (lvl op+1)):=by
 unfold tx
 conv=>lhs;unfold qp
 rw [h,show (ndK 5 op [k0,k1]).1=5 from rfl,if_neg (by decide),if_neg (by decide),if_neg (by decide),if_neg (by decide),if_pos rfl]
 have e0:kid (ndK 5 op [k0,k1]) 0=k0:=rfl
 have e1:kid (ndK 5 op [k0,k1]) 1=k1:=rfl
 have e2:(ndK 5 op [k0,k1]).2.1=op:=rfl
 rw [e0,e1,e2]
 unfold par
 by_cases hl:lvl op<t
 ·rw [if_pos (decide_eq_true hl),if_pos hl,qEr,qEr,qEr,qEr]
  simp [Go.Lib.toList_data]
 ·rw [if_neg (by simpa using hl),if_neg hl,qEr,qEr,List.append_assoc]
theorem qTX {l:List Nd} {g:Nat} {i t:Int} {op:Int} {ks:List Int} (h:ndi l i=ndK 6 op ks):tx l (g+1) i t=(fnS op).toList++40::(qFr l g ks++ [41]):=by
 unfold tx
 conv=>lhs;unfold qp
 have e:qT l i=ks:=by unfold qT;rw [h];rfl
 rw [e,h,show (ndK 6 op ks).1=6 from rfl,if_neg (by decide),if_neg (by decide),if_neg (by decide),if_neg (by decide),if_neg (by decide),qEr,qEr,qEr,qRF]
 have e2:(ndK 6 op ks).2.1=op:=rfl
 rw [e2]
 simp [Go.Lib.toList_data]
structure RT (l:List Nd) (g:Nat) (i:Int):Prop where
 s:∀t,Sta (tx l g i t)
 c:∀(t:Int) (r:List UInt8),Fo r→∀d:UInt8,(d=58∨d=32)→(wr (tx l g i t++r)).head?≠some d
 u:∀(r:List UInt8) (deep:Int) (f:Nat),Fo r→0≤deep→deep+g≤400→20*(tx l g i 5++r).length+4≤f→pP f (.un deep) (tx l g i 5++r,false,l.take (lo l i).toNat)=(i,r,false,l.take (i.toNat+1))
 b:∀(t t':Int) (r:List UInt8) (deep:Int) (f:Nat),1≤t→t≤t'→t'≤5→Fo r→(qAS r=0∨lvl (qAS r)≤t')→0≤deep→deep+g≤400→20*(tx l g i t'++r).length+6≤f→
  ∃f2,20*r.length+5≤f2∧pP f (.bin t deep) (tx l g i t'++r,false,l.take (lo l i).toNat)=pP f2 (.loop t deep i) (r,false,l.take (i.toNat+1))
theorem qR7 (op:Int):1≤lvl op∧lvl op≤4:=qPU
theorem qOD {l:List Nd} {g:Nat} {i:Int} (u:∀(r:List UInt8) (deep:Int) (f:Nat),Fo r→0≤deep→deep+g≤400→20*(tx l g i 5++r).length+4≤f→pP f (.un deep) (tx l g i 5++r,false,l.take (lo l i).toNat)=(i,r,false,l.take (i.toNat+1)))
  {t t':Int} (e:tx l g i t'=tx l g i 5) {r:List UInt8} {deep:Int} {f:Nat} (hr:Fo r) (h0:0≤deep) (hd:deep+g≤400) (hf:20*(tx l g i t'++r).length+6≤f):
  ∃f2,20*r.length+5≤f2∧pP f (.bin t deep) (tx l g i t'++r,false,l.take (lo l i).toNat)=pP f2 (.loop t deep i) (r,false,l.take (i.toNat+1)):=by
 obtain ⟨f,rfl⟩:∃f',f=f'+1:=⟨f-1,by omega⟩
 rw [e] at hf⊢
 refine ⟨f,by simp only [List.length_append] at hf;omega,?_⟩
 conv=>lhs;unfold pP
 rw [u r deep f hr h0 hd (by omega)]
theorem qLe {f:Nat} {t deep a:Int} {r:List UInt8} {l:List Nd} (hr:Fo r) (h:qAS r=0∨lvl (qAS r)<t) (hf:1≤f):pP f (.loop t deep a) (r,false,l)=(a,r,false,l):=by
 obtain ⟨f,rfl⟩:∃f',f=f'+1:=⟨f-1,by omega⟩
 unfold pP
 simp only [qRD hr]
 rw [if_neg (by simp),if_pos h]
theorem qSl {l:List Nd} (hl:l.length≤60) {g:Nat} {i k0 k1 op:Int} (hi:0≤i∧i<l.length) (hx:ndi l i=ndK 5 op [k0,k1]) (ho:1≤op∧op≤11) (R:RT l g k1) (h1:lo l k1=k0+1) (h2:k1+1=i) (hk0:0≤k0) (hk1:0≤k1)
  {t:Int} {r:List UInt8} {deep:Int} {f:Nat} (ht:t≤lvl op) (hr:Fo r) (hop:qAS r=0∨lvl (qAS r)≤lvl op) (h0:0≤deep) (hd:deep+g≤400) (hf:20*((qo op).toList++(tx l g k1 (lvl op+1)++r)).length+5≤f):
  ∃f2,20*r.length+5≤f2∧pP f (.loop t deep k0) ((qo op).toList++(tx l g k1 (lvl op+1)++r),false,l.take (k0.toNat+1))=pP f2 (.loop t deep i) (r,false,l.take (i.toNat+1)):=by
 obtain ⟨f,rfl⟩:∃f',f=f'+1:=⟨f-1,by omega⟩
 have lv:=qR7 op
 have hs:=qIF (R.s (lvl op+1)) r
 have sg:=qQJ ho hs
 have oa:=qO6 ho sg
 have tt:=qRD (qPg ho (tx l g k1 (lvl op+1)++r))
 have sl:=qR1 ho
 simp only [List.length_append] at hf
 obtain ⟨f2,q1,q2⟩:=R.b (lvl op+1) (lvl op+1) r deep f (by omega) (Int.le_refl _) (by omega) hr (by rcases hop with h|h;exact .inl h;exact .inr (by omega)) h0 hd (by simp only [List.length_append];omega)
 rw [qLe hr (by rcases hop with h|h;exact .inl h;exact .inr (by omega)) (by omega)] at q2
 refine ⟨f,by omega,?_⟩
 conv=>lhs;unfold pP
 simp only [tt,oa,sg]
 rw [if_neg (by simp),if_neg (by omega)]
 have ed:((qo op).toList++(tx l g k1 (lvl op+1)++r)).drop (qo op).toList.length=tx l g k1 (lvl op+1)++r:=List.drop_left
 have el:(lo l k1).toNat=k0.toNat+1:=by omega
 rw [ed,←el,q2]
 have e2:k1.toNat+1=i.toNat:=by omega
 rw [e2,qEt hl hi r hx]
theorem qTY {c:UInt8} {x:List UInt8} (h:wch c=false):wr (c::x)=c::x:=by unfold wr;rw [List.dropWhile_cons,if_neg (by rw [h];simp)]
theorem qJg {w:List UInt8} (hw:w.all wch=true) (hn:w≠ []):Sta w∧∀r,(∀c,r.head?=some c→wch c=false)→∀d:UInt8,r.head?≠some d→(wr (w++r)).head?≠some d:=by
 refine ⟨?_,fun r h1 d h2=>by rw [(qPd hw h1).2];exact h2⟩
 cases w with
 |nil=>exact absurd rfl hn
 |cons c t=>
  rw [List.all_cons,Bool.and_eq_true] at hw
  exact ⟨c,rfl,.inl hw.1⟩
theorem qNM {c:UInt8} {w:List UInt8} (hc:c=45∨c=40∨c=34∨c=35):Sta (c::w)∧∀r:List UInt8,∀d:UInt8,(d=58∨d=32)→(wr ((c::w)++r)).head?≠some d:=by
 refine ⟨⟨c,rfl,.inr hc⟩,fun r d hd=>?_⟩
 have:wch c=false:=by rcases hc with rfl|rfl|rfl|rfl<;>decide
 rw [List.cons_append,qTY this]
 simp only [List.head?_cons]
 intro e
 have e:c=d:=by simpa using e
 subst e
 rcases hc with rfl|rfl|rfl|rfl<;>exact absurd hd (by decide)
theorem qR8 {r:List UInt8} (h:Fo r) {d:UInt8} (hd:d=58∨d=32):r.head?≠some d:=by
 rcases hd with rfl|rfl
 ·exact qRC h (by decide)
 ·exact qRC h (by decide)
theorem qTB {k x:Int} {s:ByteArray} (hv:okV k x s=true) (h0:k≠0) (h1:k=1→0≤x):Sta (if k=2 then qDa s else q9 k x s).toList∧∀r,Fo r→∀d:UInt8,(d=58∨d=32)→(wr ((if k=2 then qDa s else q9 k x s).toList++r)).head?≠some d:=by
 rcases qQu hv with rfl|rfl|rfl|rfl|rfl
 ·exact absurd rfl h0
 ·rw [if_neg (by decide)]
  have ht:(q9 1 x s).toList=Lib.itoa x:=by rw [Go.Lib.toList_data];simp [q9,qEH]
  obtain ⟨d1,d2⟩:=qJU (h1 rfl)
  rw [ht]
  have:=qJg (qEs (fun _=>qLd) d1) d2
  exact ⟨this.1,fun r hr d hd=>this.2 r (qKm hr) d (qR8 hr hd)⟩
 ·rw [if_pos rfl]
  have ht:(qDa s).toList=34::(qAf s.toList++ [34]):=by unfold qDa;rw [qAu];simp
  rw [ht]
  have:=qNM (c:=34) (w:=qAf s.toList++ [34]) (.inr (.inr (.inl rfl)))
  exact ⟨this.1,fun r _ d hd=>this.2 r d hd⟩
 ·rw [if_neg (by decide)]
  have hs:=qHK hv (by decide)
  subst hs
  obtain ⟨d1,d2⟩:=qOA (qOf hv)
  have:=qJg d1 d2
  exact ⟨this.1,fun r hr d hd=>this.2 r (qKm hr) d (qR8 hr hd)⟩
 ·rw [if_neg (by decide)]
  have hx2:q9 4 x s=qY x:=rfl
  obtain ⟨t,ht⟩:=qRV.n x (qOg hv)
  rw [hx2,ht]
  have:=qNM (c:=35) (w:=t) (.inr (.inr (.inr rfl)))
  exact ⟨this.1,fun r _ d hd=>this.2 r d hd⟩
theorem qSs {op:Int} (h:1≤op∧op≤10):qFR (fnS op).toList 1 10=some op∧(fnS op).toList.all wch=true∧(fnS op).toList≠ []:=by
 have t:∀a:Fin 10,qFR (fnS (((a.val:Nat):Int)+1)).toList 1 10=some (((a.val:Nat):Int)+1)∧(fnS (((a.val:Nat):Int)+1)).toList.all wch=true∧(fnS (((a.val:Nat):Int)+1)).toList≠ []:=by decide+kernel
 have:=t ⟨(op-1).toNat,by omega⟩
 simp only at this
 rwa [show (((op-1).toNat:Nat):Int)+1=op by omega] at this
def qRG (l:List Nd) (g:Nat) (k:Int):Prop:=(0≤k∧k<l.length)∧(RT l g k∨((ndi l k).1=3∧qCI (ndi l k)=true∧lo l k=k∧∃g',g=g'+1))
theorem qQN {l:List Nd} (hl:l.length≤60) {g:Nat} {k:Int} (A:qRG l g k) {x:List UInt8} (hx:Fo x) (ho:qAS x=0) {deep:Int} {f:Nat} (h0:0≤deep) (hd:deep+1+g≤400) (hf:20*(tx l g k 1++x).length+6≤f):
  qDb (qA1 (tx l g k 1++x,false,l.take (lo l k).toNat)) (fun p=>pP f (.bin 1 (deep+1)) p)=(k,x,false,l.take (k.toNat+1)):=by
 obtain ⟨hi,A⟩:=A
 rcases A with R|⟨h3,hb,hlo,g',rfl⟩
 ·have tt:=qQm (qIF (R.s 1) x)
  have none:qA1 (tx l g k 1++x,false,l.take (lo l k).toNat)=(none,tx l g k 1++x,false,l.take (lo l k).toNat):=by
   unfold qA1
   simp only [tt]
   rw [if_neg]
   rintro ⟨_,h2⟩
   have tk:=R.c 1 x hx 58 (.inl rfl)
   unfold qW at h2
   split at h2
   ·rename_i hs
    have hh:=(qDJ 58 _).1 ((qQ2 (by decide) _).1 hs)
    by_cases hb:(wr (tx l g k 1++x)).head?=some 32
    ·exact absurd hb (R.c 1 x hx 32 (.inr rfl))
    ·rw [qLb hb] at hh
     exact tk hh
   ·cases h2
  rw [none]
  unfold qDb
  simp only
  obtain ⟨f2,q1,q2⟩:=R.b 1 1 x (deep+1) f (by omega) (by omega) (by omega) hx (.inl ho) (by omega) (by omega) hf
  rw [q2]
  exact qLe hx (.inl ho) (by omega)
 ·obtain ⟨e,ha⟩:=qQo hb h3
  obtain ⟨a1,a2,a3,a4,_⟩:=qOe ha
  have e3:=qTU (g:=g') (t:=1) h3
  generalize hc:ndi l k=c at*
  have r1:qAx c.2.2.2.2.2.1 c.2.2.2.2.2.2.1=true:=by unfold qAx;simp;omega
  have r2:qAx c.2.2.2.2.2.2.2.2.2.1 c.2.2.2.2.2.2.2.2.2.2.1=true:=by unfold qAx;simp;omega
  obtain ⟨d1,d2⟩:=qE9 (fc:=c.2.2.2.2.2.2.2.1) (fr:=c.2.2.2.2.2.2.2.2.1) r1
  obtain ⟨d3,d4⟩:=qE9 (fc:=c.2.2.2.2.2.2.2.2.2.2.2.1) (fr:=c.2.2.2.2.2.2.2.2.2.2.2.2.1) r2
  have b1:=qKj (fc:=c.2.2.2.2.2.2.2.1) (fr:=c.2.2.2.2.2.2.2.2.1) r1
  have b2:=qKj (fc:=c.2.2.2.2.2.2.2.2.2.2.2.1) (fr:=c.2.2.2.2.2.2.2.2.2.2.2.2.1) r2
  rw [e3,hlo]
  generalize hw1:(qAT c.2.2.2.2.2.1 c.2.2.2.2.2.2.1 c.2.2.2.2.2.2.2.1 c.2.2.2.2.2.2.2.2.1).toList=w1 at*
  generalize hw2:(qAT c.2.2.2.2.2.2.2.2.2.1 c.2.2.2.2.2.2.2.2.2.2.1 c.2.2.2.2.2.2.2.2.2.2.2.1 c.2.2.2.2.2.2.2.2.2.2.2.2.1).toList=w2 at*
  have p1:qAv (BR w1)=(c.2.2.2.2.2.1,c.2.2.2.2.2.2.1,c.2.2.2.2.2.2.2.1,c.2.2.2.2.2.2.2.2.1,true):=by rw [←hw1,qEv];exact b1
  have p2:qAv (BR w2)=(c.2.2.2.2.2.2.2.2.2.1,c.2.2.2.2.2.2.2.2.2.2.1,c.2.2.2.2.2.2.2.2.2.2.2.1,c.2.2.2.2.2.2.2.2.2.2.2.2.1,true):=by rw [←hw2,qEv];exact b2
  have ea:(w1++58::w2)++x=w1++(58::(w2++x)):=by simp
  rw [ea]
  have t1:tb (w1++(58::(w2++x)))=w1++(58::(w2++x)):=qQm (qIF (qJg d1 d2).1 _)
  obtain ⟨q1,q2⟩:=qPd (r:=58::(w2++x)) d1 (fun d hd=>by simp at hd;subst hd;decide)
  have t2:tb (w2++x)=w2++x:=qQm (qIF (qJg d3 d4).1 _)
  obtain ⟨q3,q4⟩:=qPd (r:=x) d3 (qKm hx)
  have ar:qA1 (w1++(58::(w2++x)),false,l.take k.toNat)=(some c,x,false,l.take k.toNat):=by
   unfold qA1
   simp only [t1,q1,q2]
   rw [qJT (by decide) (by decide)]
   simp only [t2,q3,q4,p1,p2]
   rw [if_pos (by simp),←e]
   rfl
  rw [ar]
  unfold qDb
  simp only
  exact qEt hl hi x hc
theorem qOE {c:UInt8} (hc:c∈([45,40,41,44,58]:List UInt8)) (h32:c≠32) (r:List UInt8) (l:List Nd):qCC [c] (c::r,false,l)=(r,false,l):=by
 unfold qCC
 rw [if_neg (by simp),qJT hc h32,if_pos rfl]
theorem qO8 {l:List Nd} (hl:l.length≤60) {g:Nat} {op:Int} {deep:Int} (h0:0≤deep) (hd:deep+1+g≤400):∀(ks:List Int),ks≠ []→(∀k∈ks,qRG l g k)→∀(pre:List Int) (m e:Int) (r:List UInt8) (f:Nat),qMk l m ks e→0≤m→20*(qFr l g ks++41::r).length+8≤f→
  pP f (.args op deep pre) (qFr l g ks++41::r,false,l.take m.toNat)=qC7 (ndK 6 op (pre++ks)) (r,false,l.take e.toNat)
 | [],h,_,_,_,_,_,_,_,_,_=>absurd rfl h
 | [k],_,hA,pre,m,e,r,f,hc,hm,hf=>by
  obtain ⟨f,rfl⟩:∃f',f=f'+1:=⟨f-1,by omega⟩
  obtain ⟨c1,c2⟩:=hc
  have c2:k+1=e:=c2
  have hk:=(hA k (List.mem_cons_self ..)).1
  have ar:=qQN hl (hA k (List.mem_cons_self ..)) (x:=41::r) (qCq (by decide)) (qPh r) h0 hd (f:=f) (by have:qFr l g [k]=tx l g k 1:=rfl;rw [this] at hf;omega)
  rw [c1] at ar
  have ek:k.toNat+1=e.toNat:=by omega
  rw [ek] at ar
  show pP (f+1) (.args op deep pre) (tx l g k 1++41::r,false,l.take m.toNat)=_
  conv=>lhs;unfold pP
  rw [if_neg (by simp),ar]
  simp only
  have tk:=qPi (c:=44) (by decide) (p:=(41::r,false,l.take e.toNat)) (by simp only;rw [qRD (qCq (by decide))];simp)
  rw [tk,if_neg (by simp)]
  simp only [qRD (r:=41::r) (qCq (by decide))]
  rw [qOE (by decide) (by decide)]
 |k::k2::ks,_,hA,pre,m,e,r,f,hc,hm,hf=>by
  obtain ⟨f,rfl⟩:∃f',f=f'+1:=⟨f-1,by omega⟩
  obtain ⟨c1,c2⟩:=hc
  have hk:=(hA k (List.mem_cons_self ..)).1
  have ej:qFr l g (k::k2::ks)++41::r=tx l g k 1++(44::(qFr l g (k2::ks)++41::r)):=by rw [qKn];simp
  rw [ej] at hf⊢
  have ar:=qQN hl (hA k (List.mem_cons_self ..)) (x:=44::(qFr l g (k2::ks)++41::r)) (qCq (by decide)) (qSi _) h0 hd (f:=f) (by omega)
  rw [c1] at ar
  conv=>lhs;unfold pP
  rw [if_neg (by simp),ar]
  simp only
  rw [qJT (by decide) (by decide),if_pos rfl]
  have hlen:20*(qFr l g (k2::ks)++41::r).length+8≤f:=by
   rw [List.length_append,List.length_cons] at hf
   omega
  have ek:k.toNat+1=(k+1).toNat:=by omega
  have ih:=qO8 (op:=op) hl h0 hd (k2::ks) (by simp) (fun q hq=>hA q (List.mem_cons_of_mem _ hq)) (pre++ [k]) (k+1) e r f c2 (by omega) hlen
  rw [ek]
  rw [List.append_assoc] at ih
  exact ih
theorem qSm {l:List Nd} (hl:l.length≤60) {g:Nat} {i op:Int} {ks:List Int} (hi:0≤i∧i<l.length) (hx:ndi l i=ndK 6 op ks) (ho:1≤op∧op≤10) (hn:ks≠ []) (hA:∀k∈ks,qRG l g k) (hc:qMk l (lo l i) ks i) (h0:0≤lo l i):RT l (g+1) i:=by
 obtain ⟨w1,w2,w3⟩:=qSs ho
 have e:=fun t=>qTX (g:=g) (t:=t) hx
 have ws:=qJg w2 w3
 have u:∀(r:List UInt8) (deep:Int) (f:Nat),Fo r→0≤deep→deep+(g+1:Nat)≤400→20*(tx l (g+1) i 5++r).length+4≤f→pP f (.un deep) (tx l (g+1) i 5++r,false,l.take (lo l i).toNat)=(i,r,false,l.take (i.toNat+1)):=fun r deep f hr hd hd2 hf=>by
  have ee:tx l (g+1) i 5++r=(fnS op).toList++(40::(qFr l g ks++41::r)):=by rw [e];simp
  rw [ee] at hf⊢
  have wl:=List.length_pos_iff.2 w3
  simp only [List.length_append,List.length_cons] at hf
  obtain ⟨f,rfl⟩:∃f',f=f'+4:=⟨f-4,by omega⟩
  rw [qNL (f:=f+2) (by omega) w2 w3 (fun d hd=>by simp at hd;subst hd;decide)]
  unfold qLV
  obtain ⟨v1,v2⟩:=qRV.f _ _ w1
  rw [if_neg (fun h=>by rw [v1] at h;cases h.1),if_neg (by rw [v2];simp),w1]
  simp only
  conv=>lhs;unfold pP
  rw [qOE (by decide) (by decide),qO8 hl hd (by omega) ks hn hA [] (lo l i) i r (f+1) hc h0 (by simp only [List.length_append,List.length_cons];omega)]
  exact qEt hl hi r hx
 refine ⟨fun t=>by rw [e];exact qIF ws.1 _,fun t r hr d hd=>?_,u,fun t t' r deep f h1 h2 h3 hr _ hd hd2 hf=>qOD u (by rw [e,e]) hr hd hd2 hf⟩
 have ee:tx l (g+1) i t++r=(fnS op).toList++(40::(qFr l g ks++41::r)):=by rw [e];simp
 rw [ee]
 refine ws.2 _ (fun d hd=>by simp at hd;subst hd;decide) d (fun e=>?_)
 simp at e
 rcases hd with rfl|rfl
 ·exact absurd e (by decide)
 ·exact absurd e (by decide)
theorem qTC {l:List Nd} (hl:l.length≤60) {g:Nat} {i k:Int} (hi:0≤i∧i<l.length) (hx:ndi l i=ndK 4 0 [k]) (R:RT l g k) (h1:lo l k=lo l i) (h2:k+1=i) (hk:0≤k):RT l (g+1) i:=by
 have e:=fun t=>qTV (g:=g) (t:=t) hx
 have hs:=fun x=>qNM (c:=45) (w:=x) (.inl rfl)
 have u:∀(r:List UInt8) (deep:Int) (f:Nat),Fo r→0≤deep→deep+(g+1:Nat)≤400→20*(tx l (g+1) i 5++r).length+4≤f→pP f (.un deep) (tx l (g+1) i 5++r,false,l.take (lo l i).toNat)=(i,r,false,l.take (i.toNat+1)):=fun r deep f hr hd hd2 hf=>by
  rw [e,List.cons_append] at hf⊢
  simp only [List.length_cons] at hf
  obtain ⟨f,rfl⟩:∃f',f=f'+1:=⟨f-1,by omega⟩
  have ih:=R.u r (deep+1) f hr (by omega) (by omega) (by omega)
  rw [h1] at ih
  conv=>lhs;unfold pP
  rw [if_neg (fun h=>h.elim (by omega) (by simp)),qJT (by decide) (by decide),if_pos rfl]
  simp only
  rw [ih]
  have ek:k.toNat+1=i.toNat:=by omega
  rw [ek]
  exact qEt hl hi r hx
 exact ⟨fun t=>by rw [e];exact (hs _).1,fun t r _ d hd=>by rw [e];exact (hs _).2 r d hd,u,fun t t' r deep f h1 h2 h3 hr _ hd hd2 hf=>qOD u (by rw [e,e]) hr hd hd2 hf⟩
theorem qTD {l:List Nd} (hl:l.length≤60) {g:Nat} {i k0 k1 op:Int} (hi:0≤i∧i<l.length) (hx:ndi l i=ndK 5 op [k0,k1]) (ho:1≤op∧op≤11) (R0:RT l g k0) (R1:RT l g k1) (h0:lo l k0=lo l i) (h1:lo l k1=k0+1) (h2:k1+1=i) (hk0:0≤k0) (hk1:0≤k1):RT l (g+1) i:=by
 have e:=fun t=>qTW (g:=g) (t:=t) hx
 have lv:=qR7 op
 have e5:tx l (g+1) i 5=40::(tx l g k0 (lvl op)++((qo op).toList++tx l g k1 (lvl op+1)))++ [41]:=by rw [e,if_pos (by omega)]
 have c0:∀(t t':Int) (r:List UInt8) (deep:Int) (f:Nat),1≤t→t≤t'→t'≤lvl op→Fo r→(qAS r=0∨lvl (qAS r)≤lvl op)→0≤deep→deep+g≤400→20*((tx l g k0 (lvl op)++((qo op).toList++tx l g k1 (lvl op+1)))++r).length+6≤f→
   ∃f2,20*r.length+5≤f2∧pP f (.bin t deep) ((tx l g k0 (lvl op)++((qo op).toList++tx l g k1 (lvl op+1)))++r,false,l.take (lo l i).toNat)=pP f2 (.loop t deep i) (r,false,l.take (i.toNat+1)):=fun t t' r deep f a1 a2 a3 hr hop hd hd2 hf=>by
  have ee:(tx l g k0 (lvl op)++((qo op).toList++tx l g k1 (lvl op+1)))++r=tx l g k0 (lvl op)++((qo op).toList++(tx l g k1 (lvl op+1)++r)):=by simp
  rw [ee] at hf⊢
  have sg:=qQJ ho (qIF (R1.s (lvl op+1)) r)
  have oa:=qO6 ho sg
  obtain ⟨f2,q1,q2⟩:=R0.b t (lvl op) ((qo op).toList++(tx l g k1 (lvl op+1)++r)) deep f a1 (by omega) (by omega) (qPg ho _) (.inr (by rw [oa];omega)) hd hd2 hf
  obtain ⟨f3,q3,q4⟩:=qSl hl hi hx ho R1 h1 h2 hk0 hk1 (t:=t) (deep:=deep) (f:=f2) (by omega) hr hop hd hd2 q1
  rw [h0] at q2
  exact ⟨f3,q3,q2.trans q4⟩
 have u:∀(r:List UInt8) (deep:Int) (f:Nat),Fo r→0≤deep→deep+(g+1:Nat)≤400→20*(tx l (g+1) i 5++r).length+4≤f→pP f (.un deep) (tx l (g+1) i 5++r,false,l.take (lo l i).toNat)=(i,r,false,l.take (i.toNat+1)):=fun r deep f hr hd hd2 hf=>by
  have ee:tx l (g+1) i 5++r=40::((tx l g k0 (lvl op)++((qo op).toList++tx l g k1 (lvl op+1)))++41::r):=by rw [e5];simp
  rw [ee] at hf⊢
  simp only [List.length_cons] at hf
  obtain ⟨f,rfl⟩:∃f',f=f'+2:=⟨f-2,by omega⟩
  obtain ⟨f2,q1,q2⟩:=c0 1 1 (41::r) (deep+1) f (by omega) (by omega) (by omega) (qCq (by decide)) (.inl (qPh r)) (by omega) (by omega) (by omega)
  rw [qLe (qCq (by decide)) (.inl (qPh r)) (by omega)] at q2
  generalize (tx l g k0 (lvl op)++((qo op).toList++tx l g k1 (lvl op+1)))++41::r=x at q2⊢
  rw [qRE (by omega) (by simp) (by simp)]
  have tt:tb (40::x)=40::x:=qLb (by simp)
  conv=>lhs;unfold pP
  simp only [tt]
  rw [if_neg (show ¬(40::x).head?=some 34 by simp),if_neg (show ¬(40::x).head?=some 35 by simp)]
  simp only
  rw [qJT (by decide) (by decide),if_pos ⟨by simp,rfl⟩,q2]
  simp only
  rw [qOE (by decide) (by decide)]
 refine ⟨fun t=>?_,fun t r hr d hd=>?_,u,fun t t' r deep f a1 a2 a3 hr hop hd hd2 hf=>?_⟩
 ·rw [e]
  split
  ·exact ⟨40,rfl,.inr (.inr (.inl rfl))⟩
  ·exact qIF (R0.s (lvl op)) _
 ·rw [e]
  split
  ·exact (qNM (c:=40) (w:=(tx l g k0 (lvl op)++((qo op).toList++tx l g k1 (lvl op+1)))++ [41]) (.inr (.inl rfl))).2 r d hd
  ·have ee:(tx l g k0 (lvl op)++((qo op).toList++tx l g k1 (lvl op+1)))++r=tx l g k0 (lvl op)++((qo op).toList++(tx l g k1 (lvl op+1)++r)):=by simp
   rw [ee]
   exact R0.c (lvl op) _ (qPg ho _) d hd
 ·by_cases hp:lvl op<t'
  ·exact qOD u (by rw [e,e,if_pos hp,if_pos (by omega)]) hr hd hd2 hf
  ·rw [e,if_neg hp] at hf⊢
   exact c0 t t' r deep f a1 a2 (by omega) hr (by rcases hop with h|h;exact .inl h;exact .inr (by omega)) hd (by omega) hf
theorem qOF {l:List Nd} (h:Fine l):∀(g:Nat) (i:Int),(0≤i∧i<l.length)→qA0 (qT l) (i.toNat+1) i≤g→qBF l i=false→0≤lo l i→RT l g i
 |0,i,hi,hd,_,_=>by
  have:=qHl (qT l) (i.toNat+1) i hi.1 (by omega)
  omega
 |g+1,i,hi,hd,ha,h0=>by
  have hb:qCI (ndi l i)=true:=(h.own i hi.1 hi.2).1
  have hch:=qOC h hi h0
  have kidok:=fun k hk=>h.kid hi hd (k:=k) hk
  have kin:=(h.own i hi.1 hi.2).2
  rcases qFQ hb with ⟨k1,_⟩|k2|k3|⟨k4,_⟩|⟨k5,_⟩|k6
  ·obtain ⟨e,v1,v2,v3⟩:=qR2 hb k1
   have et:=fun t=>qTS (g:=g) (t:=t) k1
   have kz:qT l i= []:=by unfold qT;rw [e];rfl
   rw [kz] at hch
   have hlo:lo l i=i:=hch
   have sc:=qTB v1 v2 v3
   have u:∀(r:List UInt8) (deep:Int) (f:Nat),Fo r→0≤deep→deep+(g+1:Nat)≤400→20*(tx l (g+1) i 5++r).length+4≤f→pP f (.un deep) (tx l (g+1) i 5++r,false,l.take (lo l i).toNat)=(i,r,false,l.take (i.toNat+1)):=fun r deep f hr hd1 hd2 hf=>by
    obtain ⟨f,rfl⟩:∃f',f=f'+2:=⟨f-2,by omega⟩
    rw [et,hlo]
    exact qTA h.len hi e v1 v2 v3 (by omega) hr
   exact ⟨fun t=>by rw [et];exact sc.1,fun t r hr d hd=>by rw [et];exact sc.2 r hr d hd,u,fun t t' r deep f _ _ _ hr _ hd1 hd2 hf=>qOD u (by rw [et,et]) hr hd1 hd2 hf⟩
  ·obtain ⟨e,v1⟩:=qR3 hb k2
   have et:=fun t=>qTT (g:=g) (t:=t) k2
   have kz:qT l i= []:=by unfold qT;rw [e];rfl
   rw [kz] at hch
   have hlo:lo l i=i:=hch
   obtain ⟨d1,d2⟩:=qE9 (fc:=(ndi l i).2.2.2.2.2.2.2.1) (fr:=(ndi l i).2.2.2.2.2.2.2.2.1) v1
   have sc:=qJg d1 d2
   have u:∀(r:List UInt8) (deep:Int) (f:Nat),Fo r→0≤deep→deep+(g+1:Nat)≤400→20*(tx l (g+1) i 5++r).length+4≤f→pP f (.un deep) (tx l (g+1) i 5++r,false,l.take (lo l i).toNat)=(i,r,false,l.take (i.toNat+1)):=fun r deep f hr hd1 hd2 hf=>by
    obtain ⟨f,rfl⟩:∃f',f=f'+2:=⟨f-2,by omega⟩
    rw [et,hlo]
    exact qSk h.len hi e v1 (by omega) hr
   exact ⟨fun t=>by rw [et];exact sc.1,fun t r hr d hd=>by rw [et];exact sc.2 r (qKm hr) d (qR8 hr hd),u,fun t t' r deep f _ _ _ hr _ hd1 hd2 hf=>qOD u (by rw [et,et]) hr hd1 hd2 hf⟩
  ·unfold qBF at ha
   rw [decide_eq_false_iff_not] at ha
   exact absurd k3 ha
  ·obtain ⟨k,e⟩:=qR4 hb k4
   have kz:qT l i= [k]:=by unfold qT;rw [e];rfl
   rw [kz] at hch
   obtain ⟨c1,c2⟩:=hch
   have c2:k+1=i:=c2
   have hk:k∈qT l i:=by rw [kz];exact List.mem_cons_self ..
   obtain ⟨q1,q2⟩:=kidok k hk
   have na:qBF l k=false:=by
    rw [Bool.eq_false_iff];intro hh
    exact (kin k hk).2.2 ⟨hh,by unfold qB4;rw [e];rfl⟩
   exact qTC h.len hi e (qOF h g k q1 q2 na (by omega)) c1 c2 q1.1
  ·obtain ⟨k0,k1,e,o1,o2⟩:=qR5 hb k5
   have kz:qT l i= [k0,k1]:=by unfold qT;rw [e];rfl
   rw [kz] at hch
   obtain ⟨c1,c2,c3⟩:=hch
   have c3:k1+1=i:=c3
   have hk0:k0∈qT l i:=by rw [kz];simp
   have hk1:k1∈qT l i:=by rw [kz];simp
   obtain ⟨q1,q2⟩:=kidok k0 hk0
   obtain ⟨q3,q4⟩:=kidok k1 hk1
   have nc:qB4 l i=false:=by unfold qB4;rw [e];rfl
   have na0:qBF l k0=false:=by
    rw [Bool.eq_false_iff];intro hh
    exact (kin k0 hk0).2.2 ⟨hh,nc⟩
   have na1:qBF l k1=false:=by
    rw [Bool.eq_false_iff];intro hh
    exact (kin k1 hk1).2.2 ⟨hh,nc⟩
   exact qTD h.len hi e ⟨o1,o2⟩ (qOF h g k0 q1 q2 na0 (by omega)) (qOF h g k1 q3 q4 na1 (by omega)) c1 c2 c3 q1.1 q3.1
  ·have k6:(ndi l i).1=6:=by
    first
    |exact k6
    |exact k6.1
   obtain ⟨e,hargs⟩:=qR6 hb k6
   have kz:qT l i=kd (ndi l i):=rfl
   rw [kz] at hch
   have ops:1≤(ndi l i).2.1∧(ndi l i).2.1≤10∧kd (ndi l i)≠ []:=by
    unfold qFn at hargs
    split at hargs
    ·have:=of_decide_eq_true hargs
     refine ⟨by omega,by omega,fun e0=>?_⟩
     rw [e0] at this;simp at this
    ·split at hargs
     ·have:=of_decide_eq_true hargs
      refine ⟨by omega,by omega,fun e0=>?_⟩
      rw [e0] at this;simp at this
     ·split at hargs
      ·have:=of_decide_eq_true hargs
       refine ⟨by omega,by omega,fun e0=>?_⟩
       rw [e0] at this;simp at this
      ·cases hargs
   have args:∀(ks:List Int),(∀k∈ks,k∈qT l i)→∀m,0≤m→qMk l m ks i→∀k∈ks,qRG l g k:=by
    intro ks
    induction ks with
    |nil=>intro _ m _ _ k hk;cases hk
    |cons a ks ih=>
     intro hsub m hm hc k hk
     obtain ⟨c1,c2⟩:=hc
     obtain ⟨q1,q2⟩:=kidok a (hsub a (List.mem_cons_self ..))
     rcases List.mem_cons.1 hk with rfl|hk
     ·refine ⟨q1,?_⟩
      by_cases har:qBF l k=true
      ·right
       have h3:(ndi l k).1=3:=by unfold qBF at har;exact of_decide_eq_true har
       have hbk:qCI (ndi l k)=true:=(h.own k q1.1 q1.2).1
       have hch2:=qOC h q1 (by omega)
       have kz2:qT l k= []:=by unfold qT;rw [(qQo hbk h3).1];rfl
       rw [kz2] at hch2
       have gp:=qHl (qT l) (k.toNat+1) k q1.1 (by omega)
       exact ⟨h3,hbk,hch2,g-1,by omega⟩
      ·left
       exact qOF h g k q1 q2 (by rw [Bool.eq_false_iff];exact har) (by omega)
     ·exact ih (fun k hk=>hsub k (List.mem_cons_of_mem _ hk)) (a+1) (by omega) c2 k hk
   exact qSm h.len hi e ⟨ops.1,ops.2.1⟩ ops.2.2 (args _ (fun k hk=>hk) _ h0 hch) hch h0
theorem qIG {c:UInt8} (h:wch c=true):okc c=true:=by
 unfold wch at h
 simp only [Bool.or_eq_true,Bool.and_eq_true,decide_eq_true_eq,beq_iff_eq] at h
 unfold okc
 rw [decide_eq_true_eq]
 rcases h with h|h|h
 ·omega
 ·omega
 ·subst h;decide
theorem qO9:∀s:List UInt8,s.all okc=true→(qAf s).all okc=true
 | [],_=>rfl
 |c::s,h=>by
  rw [List.all_cons,Bool.and_eq_true] at h
  rw [qEI,List.all_append,Bool.and_eq_true]
  refine ⟨?_,qO9 s h.2⟩
  split
  ·decide
  ·simp [h.1]
theorem qQO {op:Int} (ho:1≤op∧op≤11):(qo op).toList.all okc=true:=by
 have c:op=1∨op=2∨op=3∨op=4∨op=5∨op=6∨op=7∨op=8∨op=9∨op=10∨op=11:=by omega
 rcases c with rfl|rfl|rfl|rfl|rfl|rfl|rfl|rfl|rfl|rfl|rfl<;>decide+kernel
theorem qR9 {n:Int} (hn:1≤n∧n≤5):(qY n).toList.all okc=true:=by
 have c:n=1∨n=2∨n=3∨n=4∨n=5:=by omega
 rcases c with rfl|rfl|rfl|rfl|rfl<;>decide+kernel
theorem qSn {k x:Int} {s:ByteArray} (hv:okV k x s=true) (h0:k≠0) (h1:k=1→0≤x):(if k=2 then qDa s else q9 k x s).toList.all okc=true:=by
 rcases qQu hv with rfl|rfl|rfl|rfl|rfl
 ·exact absurd rfl h0
 ·rw [if_neg (by decide)]
  have ht:(q9 1 x s).toList=Lib.itoa x:=by rw [Go.Lib.toList_data];simp [q9,qEH]
  rw [ht]
  exact qEs (fun _ h=>qIG (qLd h)) (qJU (h1 rfl)).1
 ·rw [if_pos rfl]
  have ht:(qDa s).toList=34::(qAf s.toList++ [34]):=by unfold qDa;rw [qAu];simp
  obtain ⟨_,_,a⟩:=qLC hv
  rw [ht,List.all_cons,List.all_append,qO9 _ a]
  decide
 ·rw [if_neg (by decide)]
  have hs:=qHK hv (by decide)
  subst hs
  exact qEs (fun _=>qIG) (qOA (qOf hv)).1
 ·rw [if_neg (by decide)]
  exact qR9 (qOg hv)
theorem qQP {l:List Nd} {g:Nat}:∀ks:List Int,(∀k∈ks,(tx l g k 1).all okc=true)→(qFr l g ks).all okc=true
 | [],_=>rfl
 | [k],h=>h k (List.mem_cons_self ..)
 |k::k2::ks,h=>by
  rw [qKn,List.all_append,List.all_cons,h k (List.mem_cons_self ..),qQP (k2::ks) (fun q hq=>h q (List.mem_cons_of_mem _ hq))]
  decide
theorem qQQ {l:List Nd} (h:Fine l):∀(g:Nat) (i t:Int),(0≤i∧i<l.length)→(tx l g i t).all okc=true
 |0,i,t,_=>by unfold tx qp;rw [qk];rfl
 |g+1,i,t,hi=>by
  have hb:qCI (ndi l i)=true:=(h.own i hi.1 hi.2).1
  have kin:=fun k hk=>(h.own i hi.1 hi.2).2 k hk
  have ih:=fun k t (hk:k∈qT l i)=>qQQ h g k t (by have:=kin k hk;omega)
  rcases qFQ hb with ⟨k1,_⟩|k2|k3|⟨k4,_⟩|⟨k5,_⟩|k6
  ·obtain ⟨e,v1,v2,v3⟩:=qR2 hb k1
   rw [qTS k1]
   exact qSn v1 v2 v3
  ·rw [qTT k2]
   exact qEs (fun _=>qIG) (qE9 (qR3 hb k2).2).1
  ·obtain ⟨e,ha⟩:=qQo hb k3
   obtain ⟨a1,a2,a3,a4,_⟩:=qOe ha
   rw [qTU k3]
   generalize ndi l i=c at*
   have r1:qAx c.2.2.2.2.2.1 c.2.2.2.2.2.2.1=true:=by unfold qAx;simp;omega
   have r2:qAx c.2.2.2.2.2.2.2.2.2.1 c.2.2.2.2.2.2.2.2.2.2.1=true:=by unfold qAx;simp;omega
   rw [List.all_append,List.all_cons,qEs (fun _=>qIG) (qE9 r1).1,qEs (fun _=>qIG) (qE9 r2).1]
   decide
  ·obtain ⟨k,e⟩:=qR4 hb k4
   have kz:qT l i= [k]:=by unfold qT;rw [e];rfl
   rw [qTV e,List.all_cons,ih k 5 (by rw [kz];simp)]
   decide
  ·obtain ⟨k0,k1,e,o1,o2⟩:=qR5 hb k5
   have kz:qT l i= [k0,k1]:=by unfold qT;rw [e];rfl
   have i0:=fun t=>ih k0 t (by rw [kz];simp)
   have i1:=fun t=>ih k1 t (by rw [kz];simp)
   rw [qTW e]
   split
   ·rw [List.cons_append,List.all_cons,List.all_append,List.all_append,List.all_append,i0,i1,qQO ⟨o1,o2⟩]
    decide
   ·rw [List.all_append,List.all_append,i0,i1,qQO ⟨o1,o2⟩]
    decide
  ·have k6:(ndi l i).1=6:=by
    first
    |exact k6
    |exact k6.1
   obtain ⟨e,hargs⟩:=qR6 hb k6
   have ops:1≤(ndi l i).2.1∧(ndi l i).2.1≤10:=by
    unfold qFn at hargs
    split at hargs
    ·omega
    ·split at hargs
     ·omega
     ·split at hargs
      ·omega
      ·cases hargs
   rw [qTX e,List.all_append,List.all_cons,List.all_append,qEs (fun _=>qIG) (qSs ops).2.1,qQP (kd (ndi l i)) (fun k hk=>ih k 1 hk)]
   decide
theorem qRY {l:List Nd} (hf:qD1 l=true) (hk:∀c∈l,(kd c).length≤140737488351232∧c.2.2.2.2.1.size≤140737488351232) (hs:(qBU l).toList≠ []):qAz (qBU l)=(l,true):=by
 obtain ⟨q1,q2,q3⟩:=qPT hf hk
 have hform:=hf
 unfold qD1 at hf
 simp only [Bool.and_eq_true,decide_eq_true_eq,Bool.not_eq_true'] at hf
 obtain ⟨h1,_,h3,h4,_⟩:=hf
 have en:((l.length:Int)-1).toNat+1=l.length:=by omega
 have hlo:lo l ((l.length:Int)-1)=0:=by unfold lo;rw [en];exact h3
 have R:=qOF q1 12 ((l.length:Int)-1) q2 q3 h4 (by omega)
 have hsz:=qIE l
 have et:(qBU l).toList=tx l 12 ((l.length:Int)-1) 1:=by
  unfold qBU at hs⊢
  rw [if_pos hform] at hs⊢
  split at hs
  ·exact absurd qk hs
  ·rename_i hc;rw [if_neg hc];rfl
 have hlen:(tx l 12 ((l.length:Int)-1) 1).length≤200:=by rw [←et,qAK];exact hsz
 have hp:qBH (qBU l) 200=true:=by
  unfold qBH
  rw [et,qQQ q1 12 _ 1 q2,Bool.true_and,decide_eq_true_eq]
  omega
 obtain ⟨f2,b1,b2⟩:=R.b 1 1 [] 0 4050 (by omega) (by omega) (by omega) qR0 (.inl qQK) (by omega) (by omega) (by rw [List.append_nil];omega)
 rw [qLe qR0 (.inl qQK) (by simp at b1;omega),List.append_nil,hlo,en,List.take_length] at b2
 have hR:qMi (qBU l)=([],false,l):=by
  unfold qMi
  rw [et]
  have:l.take (0:Int).toNat= []:=rfl
  rw [this] at b2
  rw [b2]
 unfold qAz
 rw [hR,if_pos ⟨hp,rfl,rfl,hform⟩]
theorem qQp {s:ByteArray} (h:(qAz s).2=true):qD1 (qAz s).1=true:=by
 unfold qAz at h⊢
 split at h
 ·rename_i hc
  rw [if_pos hc]
  exact hc.2.2.2
 ·cases h
def Dwx {β:Type} (Q:β→Prop) (R:Nat→Tr β):Prop:=∃x,Q x∧Ev (fun n=>(R n).run) x
theorem qA7 {α β:Type} {Q:β→Prop} {F:Nat→Option α} {r:α} {K:Nat→α→Tr β} (h:Ev F r) (hk:Dwx Q fun n=>K n r):Dwx Q fun n=> .opt (F n) (K n):=by
 obtain ⟨x,q,n1,h1⟩:=hk
 obtain ⟨n0,h0⟩:=h
 exact ⟨x,q,n0+n1,fun n hn=>qA (h0 n (by omega)) (h1 n (by omega))⟩
theorem qBi {β:Type} {Q:β→Prop} {b:Bool} {t e:Nat→Tr β} (h:b=true) (hk:Dwx Q t):Dwx Q fun n=> .ask b (t n) (e n):=by
 obtain ⟨x,q,n1,h1⟩:=hk
 exact ⟨x,q,n1,fun n hn=>qF h (h1 n hn)⟩
theorem qA6 {β:Type} {Q:β→Prop} {b:Bool} {t e:Nat→Tr β} (h:b=false) (hk:Dwx Q e):Dwx Q fun n=> .ask b (t n) (e n):=by
 obtain ⟨x,q,n1,h1⟩:=hk
 exact ⟨x,q,n1,fun n hn=>qO h (h1 n hn)⟩
theorem qEu {α β:Type} {Q:β→Prop} {o:Option α} {r:α} {K:Nat→α→Tr β} (h:o=some r) (hk:Dwx Q fun n=>K n r):Dwx Q fun n=> .opt o (K n):=by
 obtain ⟨x,q,n1,h1⟩:=hk
 exact ⟨x,q,n1,fun n hn=>qA h (h1 n hn)⟩
theorem qCF {β:Type} {Q:β→Prop} {x:β} (h:Q x):Dwx Q fun _=> .done x:=⟨x,h,0,fun _ _=>rfl⟩
theorem qOG {β:Type} {Q:β→Prop} {F:Nat→Option β} {R:Nat→Tr β} (h:Dwx Q R) (hF:∀n,F (n+1)=(R n).run):∃x,Q x∧Ev F x:=by
 obtain ⟨x,q,n1,h1⟩:=h
 refine ⟨x,q,n1+1,fun n hn=>?_⟩
 obtain ⟨m,rfl,hm⟩:=up1 hn
 rw [hF]
 exact h1 m hm
theorem qTZ {β:Type} {F:Nat→Option β} {x:β} (h:∃y,y=x∧Ev F y):Ev F x:=by
 obtain ⟨y,rfl,h⟩:=h
 exact h
theorem qBv {x y:ByteArray} {a b:Nat} (hx:x.size≤a) (hy:y.size≤b):(x++y).size≤a+b:=by rw [ByteArray.size_append];omega
theorem fit {x y:ByteArray} {a b:Nat} (hx:x.size≤a) (hy:y.size≤b) (h:a+b≤9000000000000000000):decide (x.size+y.size≤9223372036854775807)=true:=decide_eq_true (by omega)
abbrev Drn (l:List (List PV)) {α:Type} (P:α→Prop) (x:α×List (List PV)×Int):Prop:=x.2.1=l∧(0≤x.2.2∧x.2.2≤l.length)∧P x.1
def qRH (n:Nat) (l:List (List PV)) (p:Int):Tr (ByteArray×List (List PV)×Int):= .opt (qAi n l p) fun r11=> .opt (qf n (5:Int) r11.2.2.1 r11.2.2.2) fun r13=> .opt (qf n (5:Int) r13.2.1 r13.2.2) fun r14=> .opt (qh n r11.1 r11.2.1 r13.1 r14.1) fun r30=> .done (r30,r14.2.1,r14.2.2)
theorem qOH {l:List (List PV)} {p:Int} (hl:qHh l) (hp:0≤p∧p≤l.length):Dwx (Drn l fun t:ByteArray=>t.size≤1000) fun n=>qRH n l p:=by
 obtain ⟨a,b,p1,h1,h2⟩:=qQV hl hp
 obtain ⟨fc,p2,h3,h4⟩:=qJV 5 (by decide) hl h1
 obtain ⟨fr,p3,h5,h6⟩:=qJV 5 (by decide) hl h3
 refine qA7 (qEL h2) (qA7 (qEL h4) (qA7 (qEL h6) (qA7 (qB5 a b fc fr) (qCF ⟨rfl,h5,?_⟩))))
 have:=qEM a b fc fr
 dsimp only
 omega
def qTa (n:Nat) (l:List (List PV)) (p:Int):Tr (ByteArray×List (List PV)×Int):= .opt (qP n (7:Int) l p) fun r8=> .ask (r8.1==(0:Int)) (qRH n r8.2.1 r8.2.2) (.ask (r8.1==(1:Int)) (qRH n r8.2.1 r8.2.2) (.ask (r8.1==(2:Int)) (qRH n r8.2.1 r8.2.2) (.ask (r8.1==(3:Int))
 (.opt (qP n (6:Int) r8.2.1 r8.2.2) fun r39=>(.ask (decide (6=([[(.s (⟨#[34,97,34]⟩:ByteArray))],[(.s (⟨#[34,34]⟩:ByteArray))],[(.s (⟨#[84,82,85,69]⟩:ByteArray))],[(.s (⟨#[70,65,76,83,69]⟩:ByteArray))],[(.s (⟨#[35,82,69,70,33]⟩:ByteArray))],[(.s (⟨#[34,113,34,34,34]⟩:ByteArray))]]:List (List PV)).length∧0≤r39.1∧r39.1<((6:Nat):Int))) (.opt (([[(.s (⟨#[34,97,34]⟩:ByteArray))],[(.s (⟨#[34,34]⟩:ByteArray))],[(.s (⟨#[84,82,85,69]⟩:ByteArray))],[(.s (⟨#[70,65,76,83,69]⟩:ByteArray))],[(.s (⟨#[35,82,69,70,33]⟩:ByteArray))],[(.s (⟨#[34,113,34,34,34]⟩:ByteArray))]]:List (List PV))[(r39.1).toNat]?) fun e40=>(.opt (zp e40 0) fun y41=>(.done (y41,r39.2.1,r39.2.2)))) .fail))
 (.opt (qP n (12:Int) r8.2.1 r8.2.2) fun r42=>(.opt (qAB n r42.1) fun r43=>(.done (r43,r42.2.1,r42.2.2)))))))
theorem qQR {l:List (List PV)} {p:Int} (hl:qHh l) (hp:0≤p∧p≤l.length):Dwx (Drn l fun t:ByteArray=>t.size≤1000) fun n=>qTa n l p:=by
 obtain ⟨a,p1,h1,ha,h2⟩:=qBT 7 (by decide) hl hp
 refine qA7 (qEL h2) ?_
 have c:a=0∨a=1∨a=2∨a=3∨¬(a=0∨a=1∨a=2∨a=3):=by omega
 rcases c with rfl|rfl|rfl|rfl|c
 ·exact qBi rfl (qOH hl h1)
 ·exact qA6 rfl (qBi rfl (qOH hl h1))
 ·exact qA6 rfl (qA6 rfl (qBi rfl (qOH hl h1)))
 ·refine qA6 rfl (qA6 rfl (qA6 rfl (qBi rfl ?_)))
  obtain ⟨b,p2,h3,hb,h4⟩:=qBT 6 (by decide) hl h1
  refine qA7 (qEL h4) ?_
  have c:b=0∨b=1∨b=2∨b=3∨b=4∨b=5:=by omega
  rcases c with rfl|rfl|rfl|rfl|rfl|rfl<;>exact qBi rfl (qEu rfl (qEu rfl (qCF ⟨rfl,h3,by dsimp only;decide⟩)))
 ·refine qA6 (beq_eq_false_iff_ne.2 (by dsimp only;omega)) (qA6 (beq_eq_false_iff_ne.2 (by dsimp only;omega)) (qA6 (beq_eq_false_iff_ne.2 (by dsimp only;omega)) (qA6 (beq_eq_false_iff_ne.2 (by dsimp only;omega)) ?_)))
  obtain ⟨b,p2,h3,hb,h4⟩:=qBT 12 (by decide) hl h1
  refine qA7 (qEL h4) (qA7 (qFF b (by omega)) (qCF ⟨rfl,h3,?_⟩))
  have:=qJX (x:=b) (by omega)
  dsimp only
  omega
theorem qQS {l:List (List PV)} (hl:qHh l):∀(d:Nat),d≤9→∀{p:Int},(0≤p∧p≤l.length)→∃(t:ByteArray) (p':Int),(0≤p'∧p'≤l.length)∧t.size≤1000*4^d∧Ev (fun n=>qt n (d:Int) l p) (t,l,p')
 |0,_,p,hp=>by
  obtain ⟨⟨t,l',p'⟩,⟨rfl,h1,h2⟩,h3⟩:=qOG (F:=fun n=>qt n ((0:Nat):Int) l p) (R:=fun n=>qCZ (qt n) n ((0:Nat):Int) l p) (qBi rfl (qQR hl hp)) fun n=>rfl
  exact ⟨t,p',h1,by simpa using h2,h3⟩
 |d+1,hd,p,hp=>by
  have ih:=fun {p:Int} (hp:0≤p∧p≤l.length)=>qQS hl d (by omega) (p:=p) hp
  have hb:1000≤1000*4^d:=Nat.le_mul_of_pos_right _ (Nat.pow_pos (by decide))
  have hb9:1000*4^d≤300000000:=by
   have:4^d≤4^9:=Nat.pow_le_pow_right (by decide) (by omega)
   have e:4^9=262144:=by decide
   omega
  have he:1000*4^(d+1)=4*(1000*4^d):=by rw [Nat.pow_succ];omega
  rw [he]
  generalize 1000*4^d=B at ih hb hb9
  have hw:IntKind.i64.wrap (((d+1:Nat):Int)-(1:Int))=(d:Int):=by rw [qX (by omega)];omega
  have key:Dwx (Drn l fun t:ByteArray=>t.size≤4*B) fun n=>qCZ (qt n) n ((d+1:Nat):Int) l p:=by
   unfold qCZ
   rw [hw]
   refine qA6 (beq_eq_false_iff_ne.2 (by omega)) ?_
   obtain ⟨o,p1,h1,h2⟩:=qJV 3 (by decide) hl hp
   refine qA7 (qEL h2) ?_
   cases o with
   |true=>
    obtain ⟨⟨t,l',p'⟩,⟨rfl,g1,g2⟩,g3⟩:=qQR hl h1
    refine qBi rfl ⟨(t,l',p'),⟨rfl,g1,?_⟩,g3⟩
    dsimp only at g2⊢
    omega
   |false=>
    refine qA6 rfl ?_
    obtain ⟨a,p2,h3,ha,h4⟩:=qBT 8 (by decide) hl h1
    refine qA7 (qEL h4) ?_
    have one:(⟨#[45]⟩:ByteArray).size≤9∧(⟨#[40]⟩:ByteArray).size≤9∧(⟨#[41]⟩:ByteArray).size≤9∧(⟨#[44]⟩:ByteArray).size≤9∧(⟨#[58]⟩:ByteArray).size≤9∧(⟨#[73,70,40]⟩:ByteArray).size≤9:=by decide
    obtain ⟨o1,o2,o3,o4,o5,o6⟩:=one
    have areaG:∀{K:Nat→Int×List (List PV)×Int→Int→Int→Int→Int→Tr (ByteArray×List (List PV)×Int)},(∀(u:ByteArray) (a b c d q:Int),u.size≤9→True)→True:=fun _=>trivial
    have c:a=0∨a=1∨(a=2∨a=3)∨a=4∨a=5∨¬(a=0∨a=1∨a=2∨a=3∨a=4∨a=5):=by omega
    rcases c with rfl|rfl|c|rfl|rfl|c
    ·refine qBi rfl ?_
     obtain ⟨t,p3,g1,g2,g3⟩:=ih h3
     exact qA7 g3 (qBi (fit o1 g2 (by omega)) (qCF ⟨rfl,g1,Nat.le_trans (qBv o1 g2) (by omega)⟩))
    ·refine qA6 rfl (qBi rfl ?_)
     obtain ⟨t,p3,g1,g2,g3⟩:=ih h3
     exact qA7 g3 (qBi (fit o2 g2 (by omega)) (qBi (fit (qBv o2 g2) o3 (by omega)) (qCF ⟨rfl,g1,Nat.le_trans (qBv (qBv o2 g2) o3) (by omega)⟩)))
    ·obtain ⟨a1,a2,a3,a4,p3,g1,g2⟩:=qSH hl h3
     obtain ⟨b,p4,g3,hb',g4⟩:=qBT 6 (by decide) hl g1
     have z1:=qEM a1 a2 false false
     have z2:=qEM a3 a4 false false
     obtain ⟨t,p5,g5,g6,g7⟩:=ih g3
     have fin:∀(u:ByteArray),u.size≤9→Dwx (Drn l fun t:ByteArray=>t.size≤4*B) fun n=>(.ask (decide (u.size+(⟨#[40]⟩:ByteArray).size≤9223372036854775807)) (.opt (qh n a1 a2 false false) fun r83=>(.ask (decide ((u++(⟨#[40]⟩:ByteArray)).size+r83.size≤9223372036854775807)) (.ask (decide (((u++(⟨#[40]⟩:ByteArray))++r83).size+(⟨#[58]⟩:ByteArray).size≤9223372036854775807)) (.opt (qh n a3 a4 false false) fun r84=>(.ask (decide ((((u++(⟨#[40]⟩:ByteArray))++r83)++(⟨#[58]⟩:ByteArray)).size+r84.size≤9223372036854775807)) (.ask (decide (((((u++(⟨#[40]⟩:ByteArray))++r83)++(⟨#[58]⟩:ByteArray))++r84).size+(⟨#[44]⟩:ByteArray).size≤9223372036854775807)) (.opt (qt n (d:Int) l p4) fun r85=>(.ask (decide ((((((u++(⟨#[40]⟩:ByteArray))++r83)++(⟨#[58]⟩:ByteArray))++r84)++(⟨#[44]⟩:ByteArray)).size+r85.1.size≤9223372036854775807)) (.ask (decide (((((((u++(⟨#[40]⟩:ByteArray))++r83)++(⟨#[58]⟩:ByteArray))++r84)++(⟨#[44]⟩:ByteArray))++r85.1).size+(⟨#[41]⟩:ByteArray).size≤9223372036854775807)) (.done ((((((((u++(⟨#[40]⟩:ByteArray))++r83)++(⟨#[58]⟩:ByteArray))++r84)++(⟨#[44]⟩:ByteArray))++r85.1)++(⟨#[41]⟩:ByteArray)),r85.2.1,r85.2.2)) .fail) .fail)) .fail) .fail)) .fail) .fail)) .fail:Tr (ByteArray×List (List PV)×Int)):=fun u hu=>by
      have s1:=qBv hu o2
      have s2:=qBv s1 z1
      have s3:=qBv s2 o5
      have s4:=qBv s3 z2
      have s5:=qBv s4 o4
      have s6:=qBv s5 g6
      exact qBi (fit hu o2 (by omega)) (qA7 (qB5 a1 a2 false false) (qBi (fit s1 z1 (by omega)) (qBi (fit s2 o5 (by omega)) (qA7 (qB5 a3 a4 false false) (qBi (fit s3 z2 (by omega)) (qBi (fit s4 o4 (by omega)) (qA7 g7 (qBi (fit s5 g6 (by omega)) (qBi (fit s6 o3 (by omega)) (qCF ⟨rfl,g5,Nat.le_trans (qBv s6 o3) (by omega)⟩))))))))))
     have cb:b=0∨b=1∨b=2∨b=3∨b=4∨b=5:=by omega
     rcases c with rfl|rfl
     ·refine qA6 rfl (qA6 rfl (qBi rfl (qA7 (qEL g2) (qA7 (qEL g4) ?_))))
      rcases cb with rfl|rfl|rfl|rfl|rfl|rfl<;>exact qBi rfl (qEu rfl (qEu rfl (fin _ (by decide))))
     ·refine qA6 rfl (qA6 rfl (qA6 rfl (qBi rfl (qA7 (qEL g2) (qA7 (qEL g4) ?_)))))
      rcases cb with rfl|rfl|rfl|rfl|rfl|rfl<;>exact qBi rfl (qEu rfl (qEu rfl (fin _ (by decide))))
    ·refine qA6 rfl (qA6 rfl (qA6 rfl (qA6 rfl (qBi rfl ?_))))
     obtain ⟨t1,p3,g1,g2,g3⟩:=ih h3
     obtain ⟨t2,p4,g4,g5,g6⟩:=ih g1
     obtain ⟨t3,p5,g7,g8,g9⟩:=ih g4
     have s1:=qBv o6 g2
     have s2:=qBv s1 o4
     have s3:=qBv s2 g5
     have s4:=qBv s3 o4
     have s5:=qBv s4 g8
     exact qA7 g3 (qBi (fit o6 g2 (by omega)) (qBi (fit s1 o4 (by omega)) (qA7 g6 (qBi (fit s2 g5 (by omega)) (qBi (fit s3 o4 (by omega)) (qA7 g9 (qBi (fit s4 g8 (by omega)) (qBi (fit s5 o3 (by omega)) (qCF ⟨rfl,g7,Nat.le_trans (qBv s5 o3) (by omega)⟩)))))))))
    ·refine qA6 rfl (qA6 rfl (qA6 rfl (qA6 rfl (qA6 rfl (qBi rfl ?_)))))
     obtain ⟨b,p3,g1,hb',g2⟩:=qBT 3 (by decide) hl h3
     obtain ⟨t,p4,g4,g5,g6⟩:=ih g1
     refine qA7 (qEL g2) ?_
     have cb:b=0∨b=1∨b=2:=by omega
     rcases cb with rfl|rfl|rfl<;>exact qBi rfl (qEu rfl (qEu rfl (qBi (fit (a:=9) (by decide) o2 (by omega)) (qA7 g6 (qBi (fit (qBv (a:=9) (by decide) o2) g5 (by omega)) (qBi (fit (qBv (qBv (a:=9) (by decide) o2) g5) o3 (by omega)) (qCF ⟨rfl,g4,Nat.le_trans (qBv (qBv (qBv (a:=9) (by decide) o2) g5) o3) (by omega)⟩)))))))
    ·have ne:∀{x:Int},a≠x→(a==x)=false:=fun h=>beq_eq_false_iff_ne.2 h
     refine qA6 (ne (by omega)) (qA6 (ne (by omega)) (qA6 (ne (by omega)) (qA6 (ne (by omega)) (qA6 (ne (by omega)) (qA6 (ne (by omega)) ?_)))))
     obtain ⟨t1,p3,g1,g2,g3⟩:=ih h3
     obtain ⟨b,p4,g4,hb',g5⟩:=qBT 11 (by decide) hl g1
     obtain ⟨t2,p5,g7,g8,g9⟩:=ih g4
     have w1:IntKind.i64.wrap ((1:Int)+b)=1+b:=qX (by omega)
     have z:=qH9 (op:=1+b) (by omega)
     refine qA7 g3 (qA7 (qEL g5) ?_)
     dsimp only
     rw [w1]
     exact qA7 (qGW (1+b) (by omega)) (qBi (fit g2 z (by omega)) (qA7 g9 (qBi (fit (qBv g2 z) g8 (by omega)) (qCF ⟨rfl,g7,Nat.le_trans (qBv (qBv g2 z) g8) (by omega)⟩))))
  obtain ⟨⟨t,l',p'⟩,⟨rfl,h1,h2⟩,h3⟩:=qOG (F:=fun n=>qt n ((d+1:Nat):Int) l p) key fun n=>rfl
  exact ⟨t,p',h1,h2,h3⟩
theorem qSA (x:Int):qLY (Lib.itoa x)=true∧qHQ (Lib.itoa x)=x:=by
 unfold Lib.itoa
 split
 ·rename_i hx
  obtain ⟨h1,h2,h3,_,_⟩:=qC6 x.natAbs
  have e:qFU (45::Lib.decDigits x.natAbs)=Lib.decDigits x.natAbs:=rfl
  refine ⟨by unfold qLY;rw [e,h1];simpa using h3,?_⟩
  unfold qHQ
  rw [e,h2]
  simp only [List.head?_cons,if_true]
  omega
 ·rename_i hx
  obtain ⟨h1,h2,h3,_,_⟩:=qC6 x.toNat
  obtain ⟨c,r,hcr,hd⟩:=qHi x.toNat
  have e:(Lib.decDigits x.toNat).head?≠some 45:=by
   rw [hcr]
   intro h
   cases h
   revert hd
   decide
  have e2:qFU (Lib.decDigits x.toNat)=Lib.decDigits x.toNat:=by unfold qFU;rw [if_neg e]
  refine ⟨by unfold qLY;rw [e2,h1];simpa using h3,?_⟩
  unfold qHQ
  rw [if_neg e,e2,h2]
  omega
theorem qSB (x:Int):(Lib.itoa x).all okc=true:=by
 have hd:∀u,(Lib.decDigits u).all okc=true:=fun u=>qEs (fun c hc=>qIG (qLd hc)) (qC6 u).1
 unfold Lib.itoa
 split
 ·rw [List.all_cons,hd];decide
 ·exact hd _
theorem qRI (s:ByteArray):BR s.toList=s:=qDN (by rw [Go.Lib.toList_data];rfl)
theorem qOI {s:ByteArray} (h:s.toList.all okc=true) (h2:s.size≤200):qBH s 200=true:=by
 unfold qBH
 rw [h,Bool.true_and,decide_eq_true_eq]
 omega
theorem qQT {s o:ByteArray} (h:qE8 s=(o,true)):qE8 o=(o,true)∧(o.toList= []↔s.toList= [])∧(o.toList.head?≠some 61→(qj o).2.2.2=true)∧(o.toList.head?=some 61→∃l,qAz (BR o.toList.tail)=(l,true)∧o=⟨#[61]⟩++qBU l):=by
 have h0:=h
 unfold qE8 at h
 split at h
 ·cases h
 rename_i hp
 have hp:qBH s 200=true:=by simpa using hp
 split at h
 ·rename_i hs
  cases h
  refine ⟨?_,⟨fun _=>hs,fun _=>qk⟩,fun _=>?_,fun e=>by rw [qk] at e;cases e⟩
  ·unfold qE8
   rw [if_neg (by decide+kernel),if_pos qk]
  ·have:=qHj (k:=0) (x:=0) (s:=em) (by decide+kernel)
   have e:q9 0 0 em=⟨#[]⟩:=rfl
   rw [e] at this
   rw [this]
 rename_i hs
 split at h
 ·rename_i hh
  split at h
  ·rename_i hc
   obtain ⟨c1,c2,c3⟩:=hc
   cases h
   generalize hl:(qAz (BR s.toList.tail)).1=l at c2 c3
   have hf:qD1 l=true:=by rw [←hl];exact qQp c1
   have hb:=qHp (l:=l) (by rw [←hl];exact (qJS _).2)
   have hr:=qRY hf hb c2
   have hpl:qBH (qBU l) 200=true:=by
    have h2:(qAz (qBU l)).2=true:=by rw [hr]
    unfold qAz at h2
    split at h2
    ·rename_i h3;exact h3.1
    ·cases h2
   have e61:(⟨#[61]⟩:ByteArray).toList= [61]:=by decide+kernel
   have ht:(⟨#[61]⟩++qBU l:ByteArray).toList=61::(qBU l).toList:=by rw [qEr,e61];rfl
   have hsz:(⟨#[61]⟩++qBU l:ByteArray).size≤200:=by
    rw [ByteArray.size_append]
    show 1+_≤200
    omega
   have ho:qBH (⟨#[61]⟩++qBU l) 200=true:=qOI (by
    rw [ht,List.all_cons]
    unfold qBH at hpl
    simp only [Bool.and_eq_true] at hpl
    rw [hpl.1]
    decide) hsz
   have htl:BR (⟨#[61]⟩++qBU l:ByteArray).toList.tail=qBU l:=by rw [ht];exact qRI _
   refine ⟨?_,⟨fun e=>(by rw [ht] at e;cases e),fun e=>absurd e hs⟩,fun e=>absurd (by rw [ht];rfl) e,fun _=>⟨l,by rw [htl];exact hr,rfl⟩⟩
   unfold qE8
   rw [if_neg (by rw [ho];simp),if_neg (by rw [ht];simp),if_pos (by rw [ht];rfl),htl,hr,if_pos ⟨rfl,c2,c3⟩]
  ·cases h
 rename_i hh
 split at h
 ·rename_i hn
  have hn2:=hn
  unfold qDo at hn2
  simp only [Bool.and_eq_true] at hn2
  obtain ⟨hd,hv⟩:=hn2
  cases h
  generalize qHQ s.toList=x at hv
  have ht:(qEH x).toList=Lib.itoa x:=by rw [Go.Lib.toList_data];rfl
  obtain ⟨g1,g2⟩:=qSA x
  have hz:=qJX (x:=x) (by have:=qSh.1 hv;omega)
  have hrd:=qHj hv
  have e:q9 1 x em=qEH x:=rfl
  rw [e] at hrd
  have hne:Lib.itoa x≠ []:=fun e=>by
   rw [e] at g1
   cases g1
  have h61:(Lib.itoa x).head?≠some 61:=fun e=>by
   unfold Lib.itoa at e
   split at e
   ·cases e
   ·obtain ⟨c,r,hcr,hd⟩:=qHi x.toNat
    rw [hcr] at e
    cases e
    revert hd
    decide
  refine ⟨?_,⟨fun e=>absurd (ht▸e) hne,fun e=>absurd e hs⟩,fun _=>by rw [hrd],fun e=>absurd (ht▸e) h61⟩
  unfold qE8
  rw [if_neg (by rw [qOI (by rw [ht];exact qSB x) (by omega)];simp),ht,if_neg hne,if_neg h61,if_pos (by unfold qDo;rw [g1,g2,hv];rfl),g2]
 rename_i hn
 split at h
 ·rename_i hv
  cases h
  exact ⟨h0,Iff.rfl,fun _=>hv,fun e=>absurd e hh⟩
 rename_i hv
 split at h
 ·cases h
 rename_i h200
 cases h
 have hz:=qGc hp
 have hrd:=qHj (qTR hp)
 have e:q9 2 0 s=⟨#[39]⟩++s:=rfl
 rw [e] at hrd
 have e39:(⟨#[39]⟩:ByteArray).toList= [39]:=by decide+kernel
 have ht:(⟨#[39]⟩++s:ByteArray).toList=39::s.toList:=by rw [qEr,e39];rfl
 have ho:qBH (⟨#[39]⟩++s) 200=true:=qOI (by
  rw [ht,List.all_cons]
  unfold qBH at hp
  simp only [Bool.and_eq_true] at hp
  rw [hp.1]
  decide) (by
   rw [ByteArray.size_append]
   show 1+s.size≤200
   omega)
 refine ⟨?_,⟨fun e=>(by rw [ht] at e;cases e),fun e=>absurd e hs⟩,fun _=>(by rw [hrd]),fun e=>(by rw [ht] at e;cases e)⟩
 unfold qE8
 rw [if_neg (by rw [ho];simp),if_neg (by rw [ht];simp),if_neg (by rw [ht];simp),if_neg (by rw [ht];unfold qDo qLY qFU;simp [qAe]),hrd,if_pos rfl]
theorem qPj {l:List (List PV)} (hl:qHh l) (d:Nat) (hd:d≤2) {p:Int} (hp:0≤p∧p≤l.length):Dwx (Drn l fun t:ByteArray=>t.size≤20000) fun n=>(.opt (qt n (d:Int) l p) fun r107=>(.ask (decide ((⟨#[61]⟩:ByteArray).size+r107.1.size≤9223372036854775807)) (.done (((⟨#[61]⟩:ByteArray)++r107.1),r107.2.1,r107.2.2)) .fail:Tr (ByteArray×List (List PV)×Int))):=by
 obtain ⟨t,p1,h1,h2,h3⟩:=qQS hl d (by omega) hp
 have hb:t.size≤16000:=by
  have:4^d≤4^2:=Nat.pow_le_pow_right (by decide) hd
  have e:4^2=16:=by decide
  omega
 have o1:(⟨#[61]⟩:ByteArray).size≤9:=by decide
 exact qA7 h3 (qBi (fit o1 hb (by omega)) (qCF ⟨rfl,h1,Nat.le_trans (qBv o1 hb) (by omega)⟩))
theorem qSC {l:List (List PV)} (hl:qHh l) {p:Int} (hp:0≤p∧p≤l.length):∃(t:ByteArray) (p':Int),(0≤p'∧p'≤l.length)∧t.size≤20000∧Ev (fun n=>qDP n l p) (t,l,p'):=by
 have key:Dwx (Drn l fun t:ByteArray=>t.size≤20000) fun n=>qET n l p:=by
  obtain ⟨a,p1,h1,ha,h2⟩:=qBT 8 (by decide) hl hp
  refine qA7 (qEL h2) ?_
  have dec:Dwx (Drn l fun t:ByteArray=>t.size≤20000) fun n=>(.opt (qP n (20:Int) l p1) fun r110=>(.opt (qAB n r110.1) fun r111=>(.done (r111,r110.2.1,r110.2.2))):Tr (ByteArray×List (List PV)×Int)):=by
   obtain ⟨b,p2,h3,hb,h4⟩:=qBT 20 (by decide) hl h1
   refine qA7 (qEL h4) (qA7 (qFF b (by omega)) (qCF ⟨rfl,h3,?_⟩))
   have:=qJX (x:=b) (by omega)
   dsimp only
   omega
  have c:a=0∨a=1∨a=2∨a=3∨a=4∨a=5∨a=6∨a=7:=by omega
  rcases c with rfl|rfl|rfl|rfl|rfl|rfl|rfl|rfl
  ·exact qBi rfl (qPj hl 2 (by decide) h1)
  ·exact qA6 rfl (qBi rfl (qPj hl 2 (by decide) h1))
  ·exact qA6 rfl (qA6 rfl (qBi rfl (qPj hl 2 (by decide) h1)))
  ·exact qA6 rfl (qA6 rfl (qA6 rfl (qBi rfl dec)))
  ·exact qA6 rfl (qA6 rfl (qA6 rfl (qA6 rfl (qBi rfl dec))))
  ·refine qA6 rfl (qA6 rfl (qA6 rfl (qA6 rfl (qA6 rfl (qBi rfl ?_)))))
   obtain ⟨b,p2,h3,hb,h4⟩:=qBT 8 (by decide) hl h1
   refine qA7 (qEL h4) ?_
   have c:b=0∨b=1∨b=2∨b=3∨b=4∨b=5∨b=6∨b=7:=by omega
   rcases c with rfl|rfl|rfl|rfl|rfl|rfl|rfl|rfl<;>exact qBi rfl (qEu rfl (qEu rfl (qCF ⟨rfl,h3,by dsimp only;decide⟩)))
  ·exact qA6 rfl (qA6 rfl (qA6 rfl (qA6 rfl (qA6 rfl (qA6 rfl (qBi rfl (qCF ⟨rfl,h1,by dsimp only;decide⟩)))))))
  ·exact qA6 rfl (qA6 rfl (qA6 rfl (qA6 rfl (qA6 rfl (qA6 rfl (qA6 rfl (qPj hl 1 (by decide) h1)))))))
 obtain ⟨⟨t,l',p'⟩,⟨rfl,h1,h2⟩,h3⟩:=qOG (F:=fun n=>qDP n l p) key fun n=>rfl
 exact ⟨t,p',h1,h2,h3⟩
theorem qOJ {l:List (List PV)} (hl:qHh l):∃t:ByteArray,t.size≤100000∧Ev (qEA · l) t:=by
 obtain ⟨t,p1,h1,h2,h3⟩:=qSC hl (p:=0) (by omega)
 obtain ⟨o,p2,h4,h5⟩:=qJV 8 (by decide) hl h1
 refine qOG (R:=fun n=>qD9 n l) (qA7 (qEL (qSE l)) (qA7 h3 (qA7 (qEL h5) ?_))) fun n=>rfl
 cases o with
 |true=>
  obtain ⟨u,p3,g1,g2,g3⟩:=qSM t (by omega) hl h4
  exact qBi rfl (qA7 (qEL g3) (qCF (by dsimp only;omega)))
 |false=>exact qA6 rfl (qCF (by dsimp only;omega))
theorem law (rows:List (List PV)) (w:rows.length*1≤140737488351232∧∀r∈rows,okR [.i .u8] r):Ev (qIW · rows) true:=by
 refine qTZ (qOG (R:=fun n=>qFc n rows) (qA7 (qPn rows) ?_) fun n=>rfl)
 by_cases h:(rows.length:Int)>1048576
 ·exact qBi (decide_eq_true h) (qCF rfl)
 refine qA6 (decide_eq_false h) ?_
 have hl:=qSD w.2 h
 obtain ⟨s,hs,hd⟩:=qOJ hl
 refine qA7 hd (qA7 (qIc s (by omega)) (qA7 (qNI s (by omega)) (qA6 (by simp) (qA6 (by simp) ?_))))
 cases hi:qE8 s with
 |mk o ok=>
  cases ok with
  |false=>exact qBi rfl (qBi (by simp) (qCF rfl))
  |true=>
   obtain ⟨i1,i2,i3,i4⟩:=qQT hi
   have ho:o.size≤200:=by
    have hp:qBH o 200=true:=by
     cases hq:qBH o 200 with
     |true=>rfl
     |false=>unfold qE8 at i1;rw [if_pos hq] at i1;cases i1
    exact qGc hp
   refine qA6 rfl (qA7 (qIc o (by omega)) ?_)
   rw [i1]
   refine qA6 rfl (qA6 (by simp) (qA6 ?_ ?_))
   ·by_cases e:o.toList= []
    ·rw [qMj e,qMj (i2.1 e)];rfl
    ·rw [qFq e,qFq fun e2=>e (i2.2 e2)];rfl
   have val:o.toList.head?≠some 61→Dwx (fun y=>y=true) fun n=>(.opt (qZ n o) fun r634=>(.ask (r634.2.2.2) (.opt (qBt n r634.1 r634.2.1 r634.2.2.1) fun r637=>(.done (r637.toList==o.toList))) (.done false)):Tr Bool):=fun hh=>by
    have hv:=i3 hh
    obtain ⟨v1,v2⟩:=qLa hv
    refine qA7 (qEn o (by omega)) (qBi hv (qA7 (qLE _ _ _ (by have:=qO5 hv;omega)) (qCF ?_)))
    rw [if_pos v1,v2]
    simp
   by_cases e:o.toList= []
   ·exact qBi (qMj e) (val (by rw [e];simp))
   ·refine qA6 (qFq e) (qBi rfl ?_)
    obtain ⟨c,r,hc⟩:∃c r,o.toList=c::r:=by
     cases hq:o.toList with
     |nil=>exact absurd hq e
     |cons c r=>exact ⟨c,r,rfl⟩
    refine qEu (r:=c) (by rw [hc];rfl) ?_
    by_cases c61:c=61
    ·subst c61
     obtain ⟨l,l1,l2⟩:=i4 (by rw [hc];rfl)
     have hz:o.size=r.length+1:=by rw [←qAK,hc];rfl
     have hx:o.extract ((1:Int)).toNat ((o.size:Int)).toNat=BR o.toList.tail:=by
      have e:=qE5 o.toList 1 o.size
      rw [qRI] at e
      rw [show ((1:Int)).toNat=1 from rfl,Int.toNat_natCast,e,←qAK,List.take_length,List.drop_one]
     refine qA6 rfl (qBi (decide_eq_true (by dsimp only;omega)) ?_)
     dsimp only
     rw [hx]
     have hb:(BR o.toList.tail).size≤200:=by rw [←hx,ByteArray.size_extract];omega
     refine qA7 (qFp _ (by omega)) ?_
     have hfs:=qN9 (BR o.toList.tail)
     have hsz:=qIE (qAz (BR o.toList.tail)).1
     rw [l1] at hfs hsz⊢
     refine qBi rfl (qA7 hfs (qBi (fit (a:=9) (by decide) hsz (by omega)) (qCF ?_)))
     dsimp only
     rw [←l2]
     simp
    ·refine qBi (bne_iff_ne.2 fun e2=>c61 (UInt8.toNat_inj.1 (show c.toNat=61 by omega))) (val (by rw [hc];intro e3;cases e3;exact c61 rfl))
theorem nb {a b:Int} (h:¬a=b):(a==b)=false:=beq_eq_false_iff_ne.2 h
end Go.Proofs.YthhngmnbcmkhpaaGreatDoor.KFnInputs

