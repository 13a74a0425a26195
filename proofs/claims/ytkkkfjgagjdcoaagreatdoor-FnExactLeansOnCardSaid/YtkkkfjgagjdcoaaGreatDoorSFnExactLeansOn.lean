import Derived.Test.YtkkkfjgagjdcoaaGreatDoorTFnExactLeansOn
import Derived.Test.YtkkkfjgagjdcoaaGreatDoorE32
import Derived.Lib.Strings
import Derived.Test.YtkkkfjgagjdcoaaGreatDoorSFnExactLeansOnp1
namespace Go.Proofs.YtkkkfjgagjdcoaaGreatDoor.KFnExactLeansOn
open Go.Eng
set_option linter.unusedVariables false
set_option linter.unusedSimpArgs false
theorem qSB {r:List UInt8}:∀(k:Nat) (n:Int) {m:Int},qJI r n k=some m→n≤m∧m<n+k
 |0,n,m,h=>by cases h
 |k+1,n,m,h=>by
  simp only [qJI] at h
  split at h
  ·simp only [Option.some.injEq] at h;omega
  ·have:=qSB k (n+1) h;omega
theorem qEy (c:UInt8) (r:List UInt8):([c].isPrefixOf r=true)↔r.head?=some c:=by
 cases r with
 |nil=>simp [List.isPrefixOf]
 |cons d t=>simp [List.isPrefixOf];exact eq_comm
theorem qMZ {c:UInt8} {q:PS} (hb:q.2.1=false):(sIs [c] q).1=true↔(tb q.1).head?=some c:=by
 unfold sIs
 rw [if_neg (by rw [hb];simp)]
 split
 ·rename_i h;exact ⟨fun _=>(qEy c _).1 h,fun _=>rfl⟩
 ·rename_i h;exact ⟨fun e=>(by cases e),fun e=>absurd ((qEy c _).2 e) h⟩
theorem qSa (r:List UInt8):(wd r).all wch=true:=by
 unfold wd
 induction r with
 |nil=>rfl
 |cons c r ih=>
  by_cases h:wch c=true
  ·simp only [List.takeWhile_cons,h,if_true,List.all_cons,Bool.true_and];exact ih
  ·simp [List.takeWhile_cons,h]
def qT7 (N:Nat):Prop:=∀(p q:PS) (deep:Int) (f g:Nat),Lk p q→(tb p.1).length=N→0≤deep→deep+N≤400→20*N+4≤f→20*N+5≤g→Sim (pP f (.un deep) p) (sP g (.row 5) q)
def qT8 (N:Nat):Prop:=∀(m:Nat),m≤4→∀(p q:PS) (deep least a:Int) (f:Nat) (res:Int×PS),Lk p q→(tb p.1).length=N→1≤least→0≤deep→deep+N≤400→20*N+5≤f→
 (qAq (tb p.1)=0∨lvl (qAq (tb p.1))≤m)→qJU (20*N+5) least m (a,q) res→SimP least (pP f (.loop least deep a) p) res
def qTg (N:Nat):Prop:=∀(p q:PS) (deep:Int) (k f g:Nat),k≤4→Lk p q→(tb p.1).length=N→0≤deep→deep+N≤400→20*N+6≤f→20*N+10≤g→SimP (5-(k:Int)) (pP f (.bin (5-(k:Int)) deep) p) (sP g (.row (5-(k:Int))) q)
def qT9 (N:Nat):Prop:=∀(p q:PS) (deep op:Int) (kids:List Int) (f g:Nat),Lk p q→(tb p.1).length=N→0≤deep→deep+N+1≤400→20*N+8≤f→20*N+12≤g→Sim (pP f (.args op deep kids) p) (sP g (.call op kids) q)
theorem qU7 (N:Nat) (hB:∀M,M<N→qTg M) (hT:∀M,M<N→qT8 M):qT8 N:=by
 intro m
 induction m with
 |zero=>
  intro hm p q deep least a f res hl hN hle hd hdN hf hpk ht
  have h0:qAq (tb p.1)=0:=by
   rcases hpk with h|h
   ·exact h
   ·have:=(qSZ (op:=qAq (tb p.1))).1
    omega
  cases f with
  |zero=>omega
  |succ f=>
   simp only [pP]
   rw [if_neg (by rw [hl.1];simp),if_pos (.inl h0)]
   unfold qJU at ht
   subst ht
   refine .inl ⟨rfl,⟨hl.1,hl.2.1,hl.2.2.1,?_⟩,.inl ?_⟩
   ·simp only;rw [qCW];exact hl.2.2.2
   ·simp only;rw [qCW];exact h0
 |succ m ih=>
  intro hm p q deep least a f res hl hN hle hd hdN hf hpk ht
  unfold qJU at ht
  by_cases hc:(m:Int)+1<least
  ·rw [if_pos hc] at ht
   subst ht
   cases f with
   |zero=>omega
   |succ f=>
    have hst:qAq (tb p.1)=0∨lvl (qAq (tb p.1))<least:=by
     rcases hpk with h|h
     ·exact .inl h
     ·right;push_cast at h;omega
    simp only [pP]
    rw [if_neg (by rw [hl.1];simp),if_pos hst]
    refine .inl ⟨rfl,⟨hl.1,hl.2.1,hl.2.2.1,?_⟩,?_⟩
    ·simp only;rw [qCW];exact hl.2.2.2
    ·unfold qUy;simp only;rw [qCW];exact hst
  ·rw [if_neg hc] at ht
   obtain ⟨g,hg,ht⟩:=ht
   cases g with
   |zero=>omega
   |succ g=>
    have hin:=qT6 (m:=(m:Int)+1) (by omega) (tb q.1)
    have hpq:tb p.1=tb q.1:=hl.2.2.2
    simp only [sP] at ht
    rw [if_neg (by rw [hl.2.1];simp)] at ht
    have ho:sOp ((m:Int)+1) q=(qDv ((m:Int)+1) (tb q.1) qCE,(if qDv ((m:Int)+1) (tb q.1) qCE=0 then tb q.1 else (tb q.1).drop (qAO (qDv ((m:Int)+1) (tb q.1) qCE)).size),q.2):=by
     unfold sOp;rw [if_neg (by rw [hl.2.1];simp)]
    by_cases hop:qAq (tb q.1)≠0∧lvl (qAq (tb q.1))=(m:Int)+1
    ·rw [if_pos hop] at hin
     rw [hin,if_neg hop.1] at ho
     rw [ho] at ht
     simp only at ht
     rw [if_neg hop.1] at ht
     cases f with
     |zero=>omega
     |succ f=>
      simp only [pP]
      rw [if_neg (by rw [hl.1];simp),if_neg (by rw [hpq];exact fun e=>e.elim (fun e=>hop.1 e) (fun e=>by have:=hop.2;omega))]
      rw [hpq]
      rcases qSx (tb q.1) with h0|⟨_,_,hsg⟩
      ·exact absurd h0 hop.1
      have hsz:(sgn (tb q.1)).length=(qAO (qAq (tb q.1))).size:=by rw [hsg,qAQ]
      have hpos:0<(sgn (tb q.1)).length:=by
       cases hh:sgn (tb q.1) with
       |nil=>
        exfalso
        apply hop.1
        unfold qAq
        rw [hh]
        simp
       |cons c t=>simp
      have hdrop:(tb ((tb q.1).drop (sgn (tb q.1)).length)).length<N:=by
       have h1:=q9 ((tb q.1).drop (sgn (tb q.1)).length)
       have h2:(sgn (tb q.1)).length≤(tb q.1).length∨(tb q.1).length<(sgn (tb q.1)).length:=by omega
       rw [List.length_drop] at h1
       have h3:(tb q.1).length=N:=by rw [←hpq];exact hN
       have h4:0<N:=by
        rcases Nat.eq_zero_or_pos N with h|h
        ·exfalso
         rw [h] at h3
         have:tb q.1= []:=List.eq_nil_of_length_eq_zero h3
         apply hop.1
         rw [this];rfl
        ·exact h
       omega
      have hlk:Lk ((tb q.1).drop (sgn (tb q.1)).length,p.2) ((tb q.1).drop (qAO (qAq (tb q.1))).size,q.2):=⟨hl.1,hl.2.1,hl.2.2.1,by simp only;rw [hsz]⟩
      have hb:=hB _ hdrop ((tb q.1).drop (sgn (tb q.1)).length,p.2) ((tb q.1).drop (qAO (qAq (tb q.1))).size,q.2) deep (3-m) f g (by omega) hlk rfl hd (by omega) (by omega) (by omega)
      have e5:(5-((3-m:Nat):Int))=(m:Int)+1+1:=by omega
      rw [e5] at hb
      rw [hop.2]
      have hlenA:=qDo f (.bin ((m:Int)+1+1) deep) ((tb q.1).drop (sgn (tb q.1)).length,p.2)
      generalize pP f (.bin ((m:Int)+1+1) deep) ((tb q.1).drop (sgn (tb q.1)).length,p.2)=A at hb hlenA⊢
      generalize hBB:sP g (.row ((m:Int)+1+1)) ((tb q.1).drop (qAO (qAq (tb q.1))).size,q.2)=B at hb ht
      rcases hb with ⟨b1,b2,b3⟩|⟨b1,b2⟩
      ·rw [b1]
       have hs:=qIq (x:=ndK 5 (qAq (tb q.1)) [a,B.1]) b2
       generalize hC:qDT (ndK 5 (qAq (tb q.1)) [a,B.1]) A.2=C at hs⊢
       generalize qEA (ndK 5 (qAq (tb q.1)) [a,B.1]) B.2=D at hs ht
       rcases hs with ⟨c1,c2⟩|⟨c1,c2⟩
       ·have hrC:C.2.1=A.2.1:=by rw [←hC];exact qAy _ _
        have hN3:(tb C.2.1).length<N:=by
         rw [hrC]
         exact Nat.lt_of_le_of_lt hlenA hdrop
        refine hT _ hN3 (m+1) hm C.2 D.2 deep least C.1 f res c2 rfl hle hd (by omega) (by omega) ?_ ?_
        ·rw [hrC]
         rcases b3 with h|h
         ·exact .inl h
         ·right;push_cast;omega
        ·rw [c1]
         unfold qJU
         rw [if_neg hc]
         exact ⟨g,by omega,qNZ (by omega) m ht⟩
       ·exact .inr ⟨qMY _ (qNY g _ _ c1) ht,qCy f _ _ c2⟩
      ·exact .inr ⟨qMY _ (qNY g _ _ (qMX b1)) ht,qCy f _ _ (qCk b2)⟩
    ·rw [if_neg hop] at hin
     rw [hin,if_pos rfl] at ho
     rw [ho] at ht
     simp only at ht
     rw [if_pos trivial] at ht
     refine ih (by omega) p (tb q.1,q.2) deep least a f res ⟨hl.1,hl.2.1,hl.2.2.1,by simp only;rw [qCW];exact hpq⟩ hN hle hd hdN hf ?_ ht
     rw [hpq]
     rw [hpq] at hpk
     by_cases h0:qAq (tb q.1)=0
     ·exact .inl h0
     ·right
      rcases hpk with h|h
      ·exact absurd h h0
      ·have:lvl (qAq (tb q.1))≠(m:Int)+1:=fun e=>hop ⟨h0,e⟩
       push_cast at h
       omega
theorem qUA (N:Nat) (hA:qT7 N) (hT:∀M,M≤N→qT8 M):qTg N:=by
 intro p q deep k f g hk hl hN hd hdN hf hg
 obtain ⟨g5,hg5,ht⟩:=qSA (G:=20*N+5) hl.2.1 k hk g (by omega)
 cases f with
 |zero=>omega
 |succ f=>
  simp only [pP]
  have ha:=hA p q deep f g5 hl hN hd hdN (by omega) hg5
  have hlen:=qDo f (.un deep) p
  generalize pP f (.un deep) p=A at ha hlen⊢
  generalize sP g5 (.row 5) q=B at ha ht
  rcases ha with ⟨h1,h2⟩|⟨h1,h2⟩
  ·have hM:(tb A.2.1).length≤N:=by omega
   refine hT _ hM 4 (by omega) A.2 B.2 deep (5-(k:Int)) A.1 f _ h2 rfl (by omega) hd (by omega) (by omega) (.inr ?_) ?_
   ·have:=(qSZ (op:=qAq (tb A.2.1))).2;omega
   ·rw [h1];exact qNZ (by omega) 4 ht
  ·exact .inr ⟨qMY 4 h1 ht,qCy f _ _ h2⟩
theorem qUB (H:RdOK) (N:Nat) (hB:qTg N) (hC:∀M,M<N→qT9 M):qT9 N:=by
 intro p q deep op kids f g hl hN hd hdN hf hg
 cases f with
 |zero=>omega
 |succ f=>
 cases g with
 |zero=>omega
 |succ g=>
 cases g with
 |zero=>omega
 |succ g=>
 have hpq:=hl.2.2.2
 have hpb:¬p.2.1=true:=by rw [hl.1];simp
 have hqb:¬q.2.1=true:=by rw [hl.2.1];simp
 have harg:Sim (qET (qBE p) (fun p=>pP f (.bin 1 (deep+1)) p)) (sP (g+1) .arg q)∧(tb (qET (qBE p) (fun p=>pP f (.bin 1 (deep+1)) p)).2.1).length≤N:=by
  refine ⟨?_,?_⟩
  ·have hw:Lk (wr (tb p.1),p.2) (wr (tb q.1),q.2):=⟨hl.1,hl.2.1,hl.2.2.1,by rw [hpq]⟩
   obtain ⟨e1,e2⟩:=qKW (c:=58) (by decide) hw
   simp only [sP]
   unfold qET qBE
   simp only
   rw [hpq] at e1 e2⊢
   by_cases hc:(qA0 (BR (wd (tb q.1)))).2.2.2.2=true∧(qY [58] (wr (tb q.1),p.2)).1=true
   ·rw [if_pos hc,if_pos ⟨hc.1,e1▸hc.2⟩]
    simp only
    rw [e2.2.2.2]
    by_cases h2:(qA0 (BR (wd (tb (sIs [58] (wr (tb q.1),q.2)).2.1)))).2.2.2.2=true
    ·rw [if_pos h2,h2]
     simp only [Bool.not_true,Bool.or_false]
     exact qIq ⟨e2.1,e2.2.1,e2.2.2.1,rfl⟩
    ·rw [if_neg h2]
     refine .inr ⟨rfl,qCk (.inl ?_)⟩
     simp only
     have h2:(qA0 (BR (wd (tb (sIs [58] (wr (tb q.1),q.2)).2.1)))).2.2.2.2=false:=by simpa using h2
     rw [h2];simp
   ·rw [if_neg hc,if_neg (fun e=>hc ⟨e.1,e1.symm▸e.2⟩)]
    simp only
    have:=hB p (tb q.1,q.2) (deep+1) 4 f g (by omega) ⟨hl.1,hl.2.1,hl.2.2.1,by simp only;rw [qCW];exact hpq⟩ hN (by omega) (by omega) (by omega) (by omega)
    exact this.sim
  ·unfold qET
   split
   ·rw [qAy];have:=qIR p;omega
   ·have h1:=qDo f (.bin 1 (deep+1)) (qBE p).2
    have h2:=qIR p
    exact Nat.le_trans h1 (by omega)
 obtain ⟨harg,hal⟩:=harg
 simp only [pP]
 rw [if_neg hpb]
 have hs:sP (g+1+1) (.call op kids) q=(if (sIs [41] (sP (g+1) .arg q).2).1=true then qEA (ndK 6 op (kids++ [(sP (g+1) .arg q).1])) (sIs [41] (sP (g+1) .arg q).2).2
  else sP (g+1) (.call op (kids++ [(sP (g+1) .arg q).1])) (if (sIs [44] (sIs [41] (sP (g+1) .arg q).2).2).1=true then (sIs [44] (sIs [41] (sP (g+1) .arg q).2).2).2 else qLs (sIs [44] (sIs [41] (sP (g+1) .arg q).2).2).2)):=by
  rw [sP]
  rw [if_neg hqb]
 rw [hs]
 generalize qET (qBE p) (fun p=>pP f (.bin 1 (deep+1)) p)=Q at harg hal⊢
 generalize sP (g+1) .arg q=A at harg⊢
 rcases harg with ⟨h1,h2⟩|⟨h1,h2⟩
 ·have hb2:=h2.2.1
  obtain ⟨c1,c2⟩:=qKW (c:=44) (by decide) h2
  have i41:=qMZ (c:=41) hb2
  have i44:=qMZ (c:=44) hb2
  by_cases hc:(qY [44] Q.2).1=true
  ·rw [if_pos hc]
   have hh:=i44.1 (c1▸hc)
   have n41:¬(sIs [41] A.2).1=true:=fun e=>by rw [i41.1 e] at hh;cases hh
   rw [if_neg n41]
   have e41:(sIs [41] A.2).2=(tb A.2.1,A.2.2):=by
    unfold sIs at n41⊢
    rw [if_neg (by rw [hb2];simp)] at n41⊢
    split
    ·rename_i hx;rw [if_pos hx] at n41;exact absurd rfl n41
    ·rfl
   rw [e41]
   have e44:sIs [44] (tb A.2.1,A.2.2)=sIs [44] A.2:=by unfold sIs;simp only [qCW]
   rw [e44,if_pos (c1▸hc),h1]
   have hlt:=qDn (w:= [44]) (by simp) hc
   have htb:=q9 (qY [44] Q.2).2.1
   exact hC _ (by omega) (qY [44] Q.2).2 (sIs [44] A.2).2 deep op _ f (g+1) c2 rfl hd (by omega) (by omega) (by omega)
  ·rw [if_neg hc]
   have et:(qY [44] Q.2).2=(tb Q.2.1,Q.2.2):=by
    unfold qY at hc⊢
    split
    ·rename_i hx;rw [if_pos hx] at hc;exact absurd rfl hc
    ·rfl
   rw [et]
   have hl2:Lk (tb Q.2.1,Q.2.2) A.2:=⟨h2.1,h2.2.1,h2.2.2.1,by simp only;rw [qCW];exact h2.2.2.2⟩
   have hm:=qR9 (c:=41) (by decide) (a:=(A.1,(tb Q.2.1,Q.2.2))) (b:=(A.1,A.2)) (.inl ⟨rfl,hl2⟩)
   by_cases h41:(sIs [41] A.2).1=true
   ·rw [if_pos h41]
    simp only [h41,if_true] at hm
    have:=qR8 (fun _=>ndK 6 op (kids++ [A.1])) hm
    rw [h1]
    exact this
   ·rw [if_neg h41]
    have e41:(sIs [41] A.2).2=(tb A.2.1,A.2.2):=by
     unfold sIs at h41⊢
     rw [if_neg (by rw [hb2];simp)] at h41⊢
     split
     ·rename_i hx;rw [if_pos hx] at h41;exact absurd rfl h41
     ·rfl
    have e44:sIs [44] (tb A.2.1,A.2.2)=sIs [44] A.2:=by unfold sIs;simp only [qCW]
    rw [e41,e44,if_neg (c1▸hc)]
    refine .inr ⟨qNY _ _ _ rfl,qCk ?_⟩
    simp only [if_neg h41] at hm
    rcases hm with ⟨_,_,hb,_⟩|⟨_,hdm⟩
    ·simp [qLs] at hb
    ·exact hdm
 ·have e41:sIs [41] A.2=(false,tb A.2.1,A.2.2):=qIp h1
  have e44:sIs [44] (tb A.2.1,A.2.2)=(false,tb (tb A.2.1),A.2.2):=qIp h1
  rw [e41]
  simp only [Bool.false_eq_true,if_false]
  rw [e44]
  simp only [Bool.false_eq_true,if_false]
  refine .inr ⟨qNY _ _ _ rfl,?_⟩
  split
  ·exact qCy f _ _ (qEU h2)
  ·exact qCk (qIQ (qEU h2))
theorem qSC {c d:UInt8} (h:c≠d) {r:List UInt8} (hr:r.head?=some c):¬r.head?=some d:=by rw [hr];simpa using h
theorem qUC (H:RdOK) (N:Nat) (hA:∀M,M<N→qT7 M) (hB:∀M,M<N→qTg M) (hC:∀M,M<N→qT9 M):qT7 N:=by
 intro p q deep f g hl hN hd hdN hf hg
 cases f with
 |zero=>omega
 |succ f=>
 cases f with
 |zero=>omega
 |succ f=>
 cases g with
 |zero=>omega
 |succ g=>
 cases g with
 |zero=>omega
 |succ g=>
 have hpq:=hl.2.2.2
 have hpb:¬p.2.1=true:=by rw [hl.1];simp
 have hqb:¬q.2.1=true:=by rw [hl.2.1];simp
 have hq0:=hl.2.1
 have hs:sP (g+1+1) (.row 5) q=sP (g+1) .one q:=by
  rw [sP,if_neg hqb,if_pos rfl]
 rw [hs]
 obtain ⟨e1,e2⟩:=qKW (c:=45) (by decide) hl
 rw [pP]
 rw [if_neg (by intro e;rcases e with e|e;omega;exact hpb e)]
 by_cases hc:(qY [45] p).1=true
 ·rw [if_pos hc]
  simp only [sP]
  rw [if_pos (e1▸hc)]
  have hlt:=qDn (w:= [45]) (by simp) hc
  have htb:=q9 (qY [45] p).2.1
  exact qR8 (fun k=>ndK 4 0 [k]) (hA _ (by omega) _ _ (deep+1) (f+1) g e2 rfl (by omega) (by omega) (by omega) (by omega))
 ·rw [if_neg hc]
  have hp':(qY [45] p).2=(tb p.1,p.2):=by
   unfold qY at hc⊢
   split
   ·rename_i hx;rw [if_pos hx] at hc;exact absurd rfl hc
   ·rfl
  have hq':(sIs [45] q).2=(tb q.1,q.2):=by
   have hc:¬(sIs [45] q).1=true:=e1▸hc
   unfold sIs at hc⊢
   rw [if_neg hqb] at hc⊢
   split
   ·rename_i hx;rw [if_pos hx] at hc;exact absurd rfl hc
   ·rfl
  rw [hp']
  simp only [sP]
  rw [if_neg (e1▸hc),hq']
  simp only [pP,qCW]
  have hl2:Lk (tb p.1,p.2) (tb q.1,q.2):=⟨hl.1,hl.2.1,hl.2.2.1,by simp only [qCW];exact hpq⟩
  obtain ⟨f1,f2⟩:=qKW (c:=40) (by decide) hl2
  have i40:=qMZ (c:=40) (q:=(tb q.1,q.2)) hq0
  have i34:=qMZ (c:=34) (q:=(tb q.1,q.2)) hq0
  have i35:=qMZ (c:=35) (q:=(tb q.1,q.2)) hq0
  simp only [qCW] at i40 i34 i35
  rw [hpq] at hN f1 f2⊢
  by_cases h34:(tb q.1).head?=some 34
  ·rw [if_pos h34,if_neg (fun e=>qSC (by decide) h34 (i40.1 e)),if_pos (i34.2 h34)]
   have es:(sIs [34] (tb q.1,q.2)).2.1=(tb q.1).tail:=by
    have:=i34.2 h34
    unfold sIs at this⊢
    rw [if_neg hqb] at this⊢
    simp only [qCW] at this⊢
    split
    ·simp
    ·rename_i hx;rw [if_neg hx] at this;cases this
   rw [es]
   cases hqr:qCB [] (tb q.1).tail with
   |none=>exact .inr ⟨rfl,.inl rfl⟩
   |some st=>
    obtain ⟨s,t⟩:=st
    exact qIq ⟨hl.1,hl.2.1,hl.2.2.1,rfl⟩
  ·rw [if_neg h34]
   by_cases h35:(tb q.1).head?=some 35
   ·rw [if_pos h35,if_neg (fun e=>qSC (by decide) h35 (i40.1 e)),if_neg (fun e=>h34 (i34.1 e)),if_pos (i35.2 h35)]
    have es:(sIs [35] (tb q.1,q.2)).2.1=(tb q.1).tail:=by
     have:=i35.2 h35
     unfold sIs at this⊢
     rw [if_neg hqb] at this⊢
     simp only [qCW] at this⊢
     split
     ·simp
     ·rename_i hx;rw [if_neg hx] at this;cases this
    rw [es,qTf H h35 5 1 (by omega) (by omega)]
    cases he:qJI (tb q.1) 1 5 with
    |some n=>
     simp only
     obtain ⟨t,ht⟩:=H.n n (by have:=qSB 5 1 he;omega)
     have hsz:(qf n).size=t.length+1:=by rw [←qAQ,ht];rfl
     refine qIq ⟨hl.1,hl.2.1,hl.2.2.1,?_⟩
     simp only
     rw [hsz]
     cases hr:tb q.1 with
     |nil=>rw [hr] at h35;cases h35
     |cons c r=>rfl
    |none=>
     simp only
     rw [if_neg (fun e=>e.1 h35)]
     have hw:wd (tb q.1)= []:=by
      cases hr:tb q.1 with
      |nil=>rw [hr] at h35;cases h35
      |cons c r=>
       rw [hr] at h35
       simp only [List.head?_cons,Option.some.injEq] at h35
       subst h35
       rfl
     rw [hw,if_neg (fun e=>H.v0 e.2),if_neg (by rw [H.p0];simp),H.f0]
     exact .inr ⟨rfl,qFc _⟩
   ·rw [if_neg h35]
    simp only
    by_cases h40:(qY [40] (tb q.1,p.2)).1=true
    ·rw [if_pos ⟨h35,h40⟩,if_pos (f1▸h40)]
     have hlt:=qDn (w:= [40]) (by simp) h40
     simp only [qCW] at hlt
     have htb:=q9 (qY [40] (tb q.1,p.2)).2.1
     have hb:=(hB _ (by omega) _ _ (deep+1) 4 f g (by omega) f2 rfl (by omega) (by omega) (by omega) (by omega)).sim
     have e5:(5-((4:Nat):Int))=1:=by omega
     rw [e5] at hb
     exact qR9 (by decide) hb
    ·have n40:¬(sIs [40] (tb q.1,q.2)).1=true:=f1▸h40
     have n34:¬(sIs [34] (tb q.1,q.2)).1=true:=fun e=>h34 (i34.1 e)
     have n35:¬(sIs [35] (tb q.1,q.2)).1=true:=fun e=>h35 (i35.1 e)
     rw [if_neg (fun e=>h40 e.2),if_neg n40,if_neg n34,if_neg n35]
     have hl3:Lk (wr (tb q.1),p.2) (wr (tb q.1),q.2):=⟨hl.1,hl.2.1,hl.2.2.1,rfl⟩
     cases hfn:qGF (wd (tb q.1)) 1 10 with
     |some op=>
      simp only
      obtain ⟨z1,z2⟩:=H.f _ _ hfn
      rw [if_neg (by rw [z1];simp),if_neg (by rw [z2];simp)]
      have hne:1≤(wd (tb q.1)).length:=by
       cases hw:wd (tb q.1) with
       |nil=>rw [hw,H.f0] at hfn;cases hfn
       |cons c t=>simp
      have hlen:(wr (tb q.1)).length+1≤N:=by
       have:=congrArg List.length (wdr (tb q.1))
       simp only [List.length_append] at this
       omega
      obtain ⟨k1,k2⟩:=qKW (c:=40) (by decide) hl3
      cases f with
      |zero=>omega
      |succ f=>
       simp only [pP]
       by_cases ht:(sIs [40] (wr (tb q.1),q.2)).1=true
       ·rw [if_pos ht]
        have em:qCQ [40] (wr (tb q.1),p.2)=(qY [40] (wr (tb q.1),p.2)).2:=by
         unfold qCQ
         rw [if_neg hpb,if_pos (k1▸ht)]
        rw [em]
        have hlt:=qDn (w:= [40]) (by simp) (k1.symm▸ht)
        have h2:=q9 (wr (tb q.1))
        have h3:=q9 (qY [40] (wr (tb q.1),p.2)).2.1
        simp only at hlt
        exact hC _ (by omega) _ _ deep op [] f g k2 rfl hd (by omega) (by omega) (by omega)
       ·rw [if_neg ht]
        have em:qCQ [40] (wr (tb q.1),p.2)=qSY (qY [40] (wr (tb q.1),p.2)).2:=by
         unfold qCQ
         rw [if_neg hpb,if_neg (k1▸ht)]
        rw [em]
        exact .inr ⟨rfl,qCy f _ _ (qFc _)⟩
     |none=>
      simp only
      by_cases hw0:wd (tb q.1)= []
      ·rw [hw0,if_neg (fun e=>H.v0 e.2),if_neg (by rw [H.p0];simp),if_neg (fun e=>e.2 rfl),if_neg (by rw [H.p0];simp)]
       exact .inr ⟨rfl,qFc _⟩
      ·by_cases hv:(qi (BR (wd (tb q.1)))).2.2.2=true
       ·rw [if_pos ⟨hv,H.v _ (qSa _) hw0 hv⟩,if_pos ⟨hv,hw0⟩]
        exact qIq hl3
       ·have nv1:¬((qi (BR (wd (tb q.1)))).2.2.2=true∧((qi (BR (wd (tb q.1)))).1=1∨(qi (BR (wd (tb q.1)))).1=3)):=fun e=>hv e.1
        have nv2:¬((qi (BR (wd (tb q.1)))).2.2.2=true∧wd (tb q.1)≠ []):=fun e=>hv e.1
        rw [if_neg nv1,if_neg nv2]
        by_cases hp:(qA0 (BR (wd (tb q.1)))).2.2.2.2=true
        ·rw [if_pos hp,if_pos hp]
         exact qIq hl3
        ·rw [if_neg hp,if_neg hp]
         exact .inr ⟨rfl,qFc _⟩
theorem qUD (H:RdOK) (N:Nat):qT7 N∧qT8 N∧qTg N∧qT9 N:=by
 induction N using Nat.strongRecOn with
 |ind N ih=>
  have hA:=qUC H N (fun M h=>(ih M h).1) (fun M h=>(ih M h).2.2.1) (fun M h=>(ih M h).2.2.2)
  have hT:=qU7 N (fun M h=>(ih M h).2.2.1) (fun M h=>(ih M h).2.1)
  have hB:=qUA N hA (fun M h=>(Nat.lt_or_eq_of_le h).elim (fun h=>(ih M h).2.1) (fun h=>h▸hT))
  exact ⟨hA,hT,hB,qUB H N hB (fun M h=>(ih M h).2.2.2)⟩
theorem qAP (r:List UInt8):(BR r).toList=r:=qB2 r
theorem qb (r:List UInt8):(BR r).size=r.length:=by rw [←qAQ,qAP]
theorem qIS (s:ByteArray):BR s.toList=s:=qEt (qAP _)
theorem qFG (r:List UInt8) (a b:Nat):(BR r).extract a b=BR ((r.take b).drop a):=by
 refine qEt ?_
 rw [qAP,Go.Lib.toList_data,ByteArray.data_extract,Array.toList_extract]
 simp [BR,List.extract_eq_take_drop,List.drop_take]
theorem qNa (a b:List UInt8):BR a++BR b=BR (a++b):=by
 refine qEt ?_
 rw [qAP,Go.Lib.toList_data]
 simp [BR]
theorem qUT:∀i:Fin 256,((⟨#[32]⟩:ByteArray).data.toList.contains (UInt8.ofNat i.val))=(UInt8.ofNat i.val==32):=by decide+kernel
def wcS:ByteArray:=⟨#[65,66,67,68,69,70,71,72,73,74,75,76,77,78,79,80,81,82,83,84,85,86,87,88,89,90,48,49,50,51,52,53,54,55,56,57,36]⟩
theorem qUU:∀i:Fin 256,(wcS.data.toList.contains (UInt8.ofNat i.val))=wch (UInt8.ofNat i.val):=by decide+kernel
theorem qSb {f g:UInt8→Bool} (h:∀i:Fin 256,f (UInt8.ofNat i.val)=g (UInt8.ofNat i.val)) (c:UInt8):f c=g c:=by
 have h:=h ⟨c.toNat,UInt8.toNat_lt c⟩
 have e:UInt8.ofNat c.toNat=c:=by simp
 simp only [e] at h
 exact h
theorem qTH (r:List UInt8):Ev (qBJ · (BR r) ⟨#[32]⟩) (BR (tb r)):=by
 refine ⟨1,fun n hn=>?_⟩
 obtain ⟨m,rfl,hm⟩:=up1 hn
 show zO (BR r) ⟨#[32]⟩=_
 unfold zO
 rw [if_pos ⟨by decide,by decide+kernel⟩]
 unfold Lib.trimLeftS tb
 have:(fun c=>(⟨#[32]⟩:ByteArray).data.toList.contains c)=(fun c=>c==32):=funext (qSb qUT)
 rw [this]
 rfl
theorem qTI (r:List UInt8):Ev (qBJ · (BR r) ⟨#[65,66,67,68,69,70,71,72,73,74,75,76,77,78,79,80,81,82,83,84,85,86,87,88,89,90,48,49,50,51,52,53,54,55,56,57,36]⟩) (BR (wr r)):=by
 refine ⟨1,fun n hn=>?_⟩
 obtain ⟨m,rfl,hm⟩:=up1 hn
 show zO (BR r) wcS=_
 unfold zO
 rw [if_pos ⟨by decide,by decide+kernel⟩]
 unfold Lib.trimLeftS wr
 have:(fun c=>wcS.data.toList.contains c)=wch:=funext (qSb qUU)
 rw [this]
 rfl
theorem qHY (r:List UInt8) (m:Nat) (b:Bool) (rows:List (List PV)):Ev (qAv · (BR r) m b rows) (BR (tb r),m,b,rows):=by
 obtain ⟨n1,h1⟩:=qTH r
 refine ⟨n1+1,fun n hn=>?_⟩
 obtain ⟨m,rfl,hm⟩:=up1 hn
 have h1:=h1 m (by omega)
 dsimp only at h1
 simp only [qAv,qDf,qC,qE,qH,qJ,qK,qM,Option.bind_some,qF,qG,qN,h1]
theorem qBY (m:Nat) (s w:List UInt8):ql (m+2) (BR s) (BR w)=some (w.isPrefixOf s):=by
 simp only [ql,qB7,qAA,qAs,qC,qE,qH,qJ,qK,qM,Option.bind_some,qF,qG,qN,qb,qFG,qAP]
 by_cases h:w.length≤s.length
 ·have h1:((s.length:Nat):Int)≥((w.length:Nat):Int):=by omega
  simp [h1,h,List.isPrefixOf_iff_prefix,List.prefix_iff_eq_take]
  by_cases e:w=s.take w.length
  ·simp [←e,List.isPrefixOf_iff_prefix.2 (List.prefix_iff_eq_take.2 e)]
  ·have e2:¬s.take w.length=w:=fun h=>e h.symm
   have e3:w.isPrefixOf s=false:=by
    rw [Bool.eq_false_iff]
    intro hp
    exact e (List.prefix_iff_eq_take.1 (List.isPrefixOf_iff_prefix.1 hp))
   simp [e2,e3]
 ·have h1:¬((s.length:Nat):Int)≥((w.length:Nat):Int):=by omega
  have e3:w.isPrefixOf s=false:=by
   rw [Bool.eq_false_iff]
   intro hp
   exact h (List.isPrefixOf_iff_prefix.1 hp).length_le
  simp [h1,e3]
theorem qSc (s w:List UInt8):Ev (ql · (BR s) (BR w)) (w.isPrefixOf s):=by
 refine ⟨2,fun n hn=>?_⟩
 obtain ⟨m,rfl,hm⟩:=up1 hn
 obtain ⟨m,rfl,hm⟩:=up1 hm
 exact qBY m s w
def qSD:List (List PV):=qEP.map fun w=> [PV.s (BR w)]
theorem qQ3 {n:Nat} {r:List UInt8} (m:Nat) (b:Bool) (rows:List (List PV)) (h:∀w∈qEP,ql n (BR r) (BR w)=some (w.isPrefixOf r)):
  ∀(k i M:Nat),i+k=15→k+1≤M→zD (qCS n) M (15,15,(i:Int),qSD,BR r,m,b,rows)=some (match (qEP.drop i).find? (fun w=>w.isPrefixOf r) with|some w=> .inl (BR w,BR r,m,b,rows)|none=> .inr (BR r,m,b,rows))
 |k,i,0,h1,h2=>by omega
 |0,i,M+1,h1,h2=>by
  have hi:i=15:=by omega
  subst hi
  rw [qP (r:= .inr (BR r,m,b,rows)) (by simp [qCS,qC,qE,qH,qJ,qK,qM,Option.bind_some,qF,qG,qN])]
  rfl
 |k+1,i,M+1,h1,h2=>by
  have hi:i<qEP.length:=by simp [qEP];omega
  obtain ⟨w,hw⟩:∃w,qEP[i]?=some w:=⟨_,List.getElem?_eq_getElem hi⟩
  have hR:qSD[i]?=some [PV.s (BR w)]:=by simp [qSD,List.getElem?_map,hw]
  have hl:qSD.length=15:=rfl
  have hc:zZ [PV.s (BR w)] 0=some (BR w):=rfl
  have hp:=h w (List.mem_of_getElem? hw)
  have hd:qEP.drop i=w::qEP.drop (i+1):=qDV hw
  have w5:IntKind.i64.wrap ((i:Int)+1)=((i+1:Nat):Int):=by rw [qU (by omega)];omega
  rw [hd]
  simp only [List.find?_cons]
  cases hq:w.isPrefixOf r with
  |true=>
   rw [qP (r:= .inl (BR w,BR r,m,b,rows)) (by
    refine qD (by simp;omega) (qD (by simp [hl];omega) (qA hR (qA hc (qA (hp.trans (congrArg some hq)) (qD rfl rfl))))))]
  |false=>
   rw [qT (v':=(15,15,((i+1:Nat):Int),qSD,BR r,m,b,rows)) (by
    refine qD (by simp;omega) (qD (by simp [hl];omega) (qA hR (qA hc (qA (hp.trans (congrArg some hq)) (qO rfl ?_)))))
    rw [w5];rfl)]
   exact qQ3 m b rows h k (i+1) M (by omega) (by omega)
theorem qNb (r:List UInt8) (m:Nat) (b:Bool) (rows:List (List PV)):Ev (qBj · (BR r) m b rows) (BR (sgn (tb r)),BR (tb r),m,b,rows):=by
 obtain ⟨n1,h1⟩:=qHY r m b rows
 obtain ⟨n2,h2⟩:=qBc (F:=fun w n=>ql n (BR (tb r)) (BR w)) (f:=fun w=>w.isPrefixOf (tb r)) qEP (fun w _=>qSc (tb r) w)
 refine ⟨n1+n2+30,fun n hn=>?_⟩
 obtain ⟨k,rfl,hm⟩:=up1 hn
 have h1:=h1 k (by omega)
 have lp:=qQ3 m b rows (h2 k (by omega)) 15 0 k rfl (by omega)
 refine qA h1 (qA lp ?_)
 simp only [List.drop_zero]
 unfold sgn
 cases hq:qEP.find? (fun w=>w.isPrefixOf (tb r)) with
 |some w=>rfl
 |none=>rfl
theorem qSy (r:List UInt8):sgn r<+:r:=by
 unfold sgn
 split
 ·rename_i w hw
  have:=List.find?_some hw
  exact List.isPrefixOf_iff_prefix.1 (by simpa using this)
 ·exact List.nil_prefix
theorem qQ4 (w r:List UInt8) (m:Nat) (b:Bool) (rows:List (List PV)):Ev (qo · (BR w) (BR r) m b rows) (decide (sgn (tb r)=w),BR (if sgn (tb r)=w then (tb r).drop w.length else tb r),m,b,rows):=by
 obtain ⟨n1,h1⟩:=qNb r m b rows
 refine ⟨n1+1,fun n hn=>?_⟩
 obtain ⟨k,rfl,hm⟩:=up1 hn
 refine qA (h1 k (by omega)) ?_
 by_cases h:sgn (tb r)=w
 ·have hp:=(qSy (tb r)).length_le
  rw [h] at hp
  refine qO (by simp [qAP,h]) (qD (by simp [qb];omega) ?_)
  rw [qC,qb,qb,qFG]
  simp [h]
 ·refine qD (by simp [qAP,h]) ?_
  rw [qC]
  simp [h]
theorem qTJ (r:List UInt8) (m:Nat) (b:Bool) (rows:List (List PV)) (hr:r.length≤1000):Ev (qBK · (BR r) m b rows) (BR (wd (tb r)),BR (wr (tb r)),m,b,rows):=by
 obtain ⟨n1,h1⟩:=qHY r m b rows
 obtain ⟨n2,h2⟩:=qTI (tb r)
 refine ⟨n1+n2+1,fun n hn=>?_⟩
 obtain ⟨k,rfl,hm⟩:=up1 hn
 have hb:=q9 r
 have hw:=qG8 (tb r)
 have hsum:=congrArg List.length (wdr (tb r))
 simp only [List.length_append] at hsum
 have e:IntKind.i64.wrap (((tb r).length:Int)-((wr (tb r)).length:Int))=((wd (tb r)).length:Int):=by rw [qU (by omega)];omega
 refine qA (h1 k (by omega)) (qA (h2 k (by omega)) ?_)
 simp only [qb,e]
 refine qD (by simp;omega) (qD (by simp;omega) ?_)
 rw [qC]
 have t1:(wd (tb r)++wr (tb r)).take (wd (tb r)).length=wd (tb r):=List.take_left ..
 have t2:(wd (tb r)++wr (tb r)).drop (wd (tb r)).length=wr (tb r):=List.drop_left ..
 rw [wdr] at t1 t2
 simp [qFG,t1,t2]
def qFd (p:PS):ByteArray×Nat×Bool×List (List PV):=(BR p.1,p.2.2.length,p.2.1,p.2.2.map qW)
def qHF (r:Int×PS):Int×ByteArray×Nat×Bool×List (List PV):=(r.1,BR r.2.1,r.2.2.2.length,r.2.2.1,r.2.2.2.map qW)
def qOk (c:Nd):Prop:=(kd c).length≤2000∧c.2.2.2.2.1.size≤2000
structure Gd (p:PS):Prop where
 r:p.1.length≤1000
 n:p.2.2.length≤60
 s:∀x∈p.2.2,qOk x
theorem qNc (x:Nd) (p:PS) (h:p.2.2.length≤60):Ev (qp · x.1 x.2.1 x.2.2.1 x.2.2.2.1 x.2.2.2.2.1 x.2.2.2.2.2.1 x.2.2.2.2.2.2.1 x.2.2.2.2.2.2.2.1 x.2.2.2.2.2.2.2.2.1 x.2.2.2.2.2.2.2.2.2.1 x.2.2.2.2.2.2.2.2.2.2.1 x.2.2.2.2.2.2.2.2.2.2.2.1 x.2.2.2.2.2.2.2.2.2.2.2.2.1 ((kd x).map qAz) (BR p.1) p.2.2.length p.2.1 (p.2.2.map qW)) (qHF (qDT x p)):=by
 obtain ⟨r,b,l⟩:=p
 refine ⟨1,fun n hn=>?_⟩
 obtain ⟨m,rfl,hm⟩:=up1 hn
 replace h:l.length≤60:=h
 show qp (m+1) _ _ _ _ _ _ _ _ _ _ _ _ _ _ (BR r) l.length b (l.map qW)=_
 unfold qDT
 have w1:IntKind.i64.wrap (((l.length:Nat):Int)-1)=(l.length:Int)-1:=qU (by omega)
 have w2:IntKind.i64.wrap ((((l.length+1):Nat):Int)-1)=(l.length:Int):=by rw [qU (by omega)];omega
 cases b with
 |true=>
  rw [if_pos (.inl rfl)]
  refine qD rfl (qO rfl ?_)
  rw [qC,w1]
  rfl
 |false=>
  by_cases h6:60≤l.length
  ·rw [if_pos (.inr h6)]
   have d:decide (((l.length:Nat):Int)≥60)=true:=decide_eq_true (by omega)
   refine qO rfl (qO (by rw [d];rfl) ?_)
   rw [qC,w1,d]
   rfl
  ·have hn:¬(((r,false,l):PS).2.1=true∨60≤((r,false,l):PS).2.2.length):=by
    intro hh
    rcases hh with hh|hh
    ·exact absurd hh (by simp)
    ·exact h6 hh
   rw [if_neg hn]
   have d:decide (((l.length:Nat):Int)≥60)=false:=decide_eq_false (by omega)
   refine qO rfl (qD (by rw [d];rfl) (qD rfl (qD (decide_eq_true ⟨by simp,by decide,by decide,by simp;omega,rfl⟩) ?_)))
   rw [qC,w2,d]
   simp only [qHF,List.map_append,List.length_append]
   rfl
theorem qKL (v:V3) (p:PS) (h:p.2.2.length≤60):Ev (qj · v.1 v.2.1 v.2.2 (BR p.1) p.2.2.length p.2.1 (p.2.2.map qW)) (qHF (qDT (nd1 v) p)):=by
 obtain ⟨n1,h1⟩:=qNc (nd1 v) p h
 refine ⟨n1+1,fun n hn=>?_⟩
 obtain ⟨k,rfl,hm⟩:=up1 hn
 exact qA (h1 k (by omega)) rfl
theorem qG9 {x:Nd} {p:PS} (h:Gd p) (hx:qOk x):Gd (qDT x p).2:=by
 unfold qDT
 split
 ·exact ⟨h.r,h.n,h.s⟩
 ·rename_i hh
  refine ⟨h.r,?_,fun y hy=>?_⟩
  ·have:¬60≤p.2.2.length:=fun e=>hh (.inr e)
   simp;omega
  ·simp at hy
   rcases hy with hy|rfl
   ·exact h.s _ hy
   ·exact hx
theorem qCl {w:List UInt8} {p:PS} (h:Gd p):Gd (qY w p).2:=by
 have:=qIo w p
 have h2:=q9 p.1
 have h3:=h.r
 refine ⟨by omega,?_,?_⟩
 ·unfold qY;split<;>exact h.n
 ·unfold qY;split<;>exact h.s
theorem qGG (w:List UInt8) (p:PS):Ev (qo · (BR w) (BR p.1) p.2.2.length p.2.1 (p.2.2.map qW)) ((qY w p).1,qFd (qY w p).2):=by
 obtain ⟨n1,h1⟩:=qQ4 w p.1 p.2.2.length p.2.1 (p.2.2.map qW)
 refine ⟨n1,fun n hn=>?_⟩
 have h1:=h1 n hn
 unfold qY
 by_cases h:sgn (tb p.1)=w
 ·simp only [h,if_true,decide_true] at h1
  rw [if_pos h];exact h1
 ·simp only [h,if_false,decide_false] at h1
  rw [if_neg h];exact h1
theorem qRc (p:PS) (h:p.1.length≤1000):Ev (qBK · (BR p.1) p.2.2.length p.2.1 (p.2.2.map qW)) (BR (wd (tb p.1)),qFd (wr (tb p.1),p.2)):=qTJ p.1 _ _ _ h
theorem qRd (r:List UInt8):(wd r).length≤r.length:=by
 have:=congrArg List.length (wdr r)
 simp only [List.length_append] at this
 omega
theorem qTh (r:List UInt8) (h:r.length≤1000):Ev (qAg · (BR (wd (tb r)))) (qA0 (BR (wd (tb r)))):=qMS _ (by rw [qb];have:=qRd (tb r);have:=q9 r;omega)
theorem qUz (r:List UInt8) (h:r.length≤1000):Ev (qd · (BR (wd (tb r)))) (qi (BR (wd (tb r)))):=qHV _ (by rw [qb];have:=qRd (tb r);have:=q9 r;omega)
theorem qSE (c:UInt8) (t:List UInt8):Lib.cut (c::t) [34]=if c=34 then ([],t,true) else (c::(Lib.cut t [34]).1,(Lib.cut t [34]).2.1,(Lib.cut t [34]).2.2):=by
 by_cases h:c=34
 ·subst h
  rw [if_pos rfl]
  simp [Lib.cut,Lib.index,List.isPrefixOf]
 ·rw [if_neg h]
  have h':¬34=c:=fun e=>h e.symm
  have g:=Lib.index_ge t [34]
  unfold Lib.cut
  by_cases e:Lib.index t [34]= -1
  ·have:Lib.index (c::t) [34]= -1:=by simp [Lib.index,List.isPrefixOf,h',e]
   simp [this,e]
  ·have:Lib.index (c::t) [34]=Lib.index t [34]+1:=by simp [Lib.index,List.isPrefixOf,h',e]
   have p:0≤Lib.index t [34]:=by omega
   have p1:0≤Lib.index t [34]+1:=by omega
   have q:(Lib.index t [34]+1).toNat=(Lib.index t [34]).toNat+1:=by omega
   simp [this,p,p1,q]
theorem qUV (acc t:List UInt8):qCB acc (34::34::t)=qCB (acc++ [34]) t:=(qCB.eq_def acc _).trans (by simp)
theorem qUW (acc t:List UInt8) (h:t.head?≠some 34):qCB acc (34::t)=some (acc,t):=by
 refine (qCB.eq_def acc _).trans ?_
 cases t with
 |nil=>simp
 |cons d t=>
  have:¬d=34:=fun e=>h (by rw [e];rfl)
  simp [this]
theorem qUX (acc t:List UInt8) {c:UInt8} (h:¬c=34):qCB acc (c::t)=qCB (acc++ [c]) t:=(qCB.eq_def acc _).trans (by simp only [if_neg h])
theorem up3 {n n0:Nat} (h:n0+3≤n):∃m,n=m+3∧n0≤m:=⟨n-3,by omega,by omega⟩
theorem qQ5:∀(r acc:List UInt8),qCB acc r=if (Lib.cut r [34]).2.2=true then (if (Lib.cut r [34]).2.1.head?=some 34 then qCB (acc++(Lib.cut r [34]).1++ [34]) (Lib.cut r [34]).2.1.tail else some (acc++(Lib.cut r [34]).1,(Lib.cut r [34]).2.1)) else none
 | [],acc=>by simp [qCB,Lib.cut,Lib.index]
 |c::t,acc=>by
  rw [qSE]
  by_cases h:c=34
  ·subst h
   rw [if_pos rfl]
   by_cases e:t.head?=some 34
   ·obtain ⟨u,rfl⟩:∃u,t=34::u:=by
     cases t with
     |nil=>cases e
     |cons d u=>simp at e;subst e;exact ⟨u,rfl⟩
    rw [qUV];simp
   ·rw [qUW acc t e];simp [e]
  ·simp only [if_neg h]
   rw [qUX acc t h,qQ5 t (acc++ [c])]
   simp
theorem qSz:∀r:List UInt8,(Lib.cut r [34]).1.length+(Lib.cut r [34]).2.1.length≤r.length∧((Lib.cut r [34]).2.2=true→(Lib.cut r [34]).2.1.length<r.length)
 | []=>by simp [Lib.cut,Lib.index]
 |c::t=>by
  rw [qSE]
  have ih:=qSz t
  split
  ·simp
  ·simp only [List.length_cons]
   exact ⟨by omega,fun h=>by have:=ih.2 h;omega⟩
theorem qHA:∀(k:Nat) (acc r:List UInt8) {s t:List UInt8},r.length≤k→qCB acc r=some (s,t)→s.length≤acc.length+r.length+1
 |k,acc,[],s,t,hk,h=>by simp [qCB] at h
 |0,acc,c::r,s,t,hk,h=>by simp at hk
 |k+1,acc,c::r,s,t,hk,h=>by
  simp only [List.length_cons] at hk
  unfold qCB at h
  split at h
  ·cases r with
   |nil=>
    simp at h
    rw [←h.1];simp;omega
   |cons d r'=>
    simp only at h
    split at h
    ·have:=qHA k _ r' (by simp at hk;omega) h
     simp at this⊢;omega
    ·simp at h
     rw [←h.1];simp;omega
  ·have:=qHA k _ r (by omega) h
   simp at this⊢;omega
theorem qUY (m:Nat) (r:List UInt8) (h:r.length≤1000):qHp (m+1) (BR r) ⟨#[34]⟩=some (BR (Lib.cut r [34]).1,BR (Lib.cut r [34]).2.1,(Lib.cut r [34]).2.2):=by
 show zAP (BR r) ⟨#[34]⟩=_
 unfold zAP
 rw [if_pos (by rw [qb];omega),←Go.Lib.toList_data (BR r),qAP]
 rfl
theorem qNt (n:Nat) (orig:ByteArray) (m:Nat) (b:Bool) (rows:List (List PV)):∀(k:Nat) (r acc:List UInt8) (M:Nat),r.length≤k→acc.length+r.length≤1000→k+1≤M→
  zD (qC6 (n+2)) M (BR acc,BR r,orig,m,b,rows)=some (match qCB acc r with
   |none=> .inl (-1,orig,m,true,rows)
   |some (s,t)=> .inr (BR s,BR t,orig,m,b,rows))
 |k,r,acc,0,h1,h2,h3=>by omega
 |k,r,acc,M+1,h1,h2,h3=>by
  have hc:=qUY (n+1) r (by omega)
  have hl:=qSz r
  have hp:=qBY n (Lib.cut r [34]).2.1 [34]
  rw [qQ5]
  cases hf:(Lib.cut r [34]).2.2 with
  |false=>
   rw [if_neg (by simp)]
   refine (qP (r:= .inl (-1,orig,m,true,rows)) ?_).trans rfl
   refine qA hc (qD (by simp [hf]) rfl)
  |true=>
   rw [if_pos rfl]
   have hlt:=hl.2 hf
   by_cases hh:(Lib.cut r [34]).2.1.head?=some 34
   ·rw [if_pos hh]
    have hb:List.isPrefixOf [34] (Lib.cut r [34]).2.1=true:=(qEy 34 _).2 hh
    obtain ⟨u,hu⟩:∃u,(Lib.cut r [34]).2.1=34::u:=by
     cases e:(Lib.cut r [34]).2.1 with
     |nil=>rw [e] at hh;cases hh
     |cons c u=>rw [e] at hh;simp at hh;subst hh;exact ⟨u,rfl⟩
    rw [hb] at hp
    rw [qT (v':=(BR (acc++(Lib.cut r [34]).1++ [34]),BR (Lib.cut r [34]).2.1.tail,orig,m,b,rows)) (by
     refine qA hc (qO (by simp [hf]) (qD (decide_eq_true (by rw [qb,qb];omega)) (qA hp (qO rfl (qD (decide_eq_true (by rw [qNa,qb,List.length_append];show _+1≤9223372036854775807;omega)) (qD (decide_eq_true ⟨by decide,by simp only [qb];rw [hu];simp;omega,by simp [qb]⟩) ?_))))))
     rw [qC]
     simp only [qNa,qb,qFG]
     rw [hu]
     simp
     exact (qNa (acc++(Lib.cut r [34]).1) [34]).trans (by rw [List.append_assoc]))]
    rw [hu] at hl hlt⊢
    simp only [List.length_cons] at hl hlt
    refine qNt n orig m b rows (k-1) _ _ M (by simp;omega) (by simp;omega) (by omega)
   ·rw [if_neg hh]
    have hb:List.isPrefixOf [34] (Lib.cut r [34]).2.1=false:=by
     rw [Bool.eq_false_iff];intro e;exact hh ((qEy 34 _).1 e)
    rw [hb] at hp
    refine (qP (r:= .inr (BR (acc++(Lib.cut r [34]).1),BR (Lib.cut r [34]).2.1,orig,m,b,rows)) ?_).trans rfl
    refine qA hc (qO (by simp [hf]) (qD (decide_eq_true (by rw [qb,qb];omega)) (qA hp (qD rfl ?_))))
    rw [qC,qNa]
theorem qTK (t:List UInt8) (b:Bool) (l:List Nd) (h:t.length≤999) (hl:l.length≤60):Ev (qDg · (BR (34::t)) l.length b (l.map qW)) (qHF (match qCB [] t with
   |none=>(-1,34::t,true,l)
   |some (s,t')=>qDT (nd1 (2,0,BR s)) (t',b,l))):=by
 have lp:=fun n M (hM:t.length+1≤M)=>qNt n (BR (34::t)) l.length b (l.map qW) t.length t [] M (Nat.le_refl _) (by simp;omega) hM
 cases hq:qCB [] t with
 |none=>
  refine ⟨t.length+1+3,fun n hn=>?_⟩
  obtain ⟨m,rfl,hm⟩:=up3 hn
  have lp:=lp m (m+2) (by omega)
  rw [hq] at lp
  refine qD (decide_eq_true ⟨by decide,by rw [qb];simp;omega,Int.le_refl _⟩) ?_
  have e:(BR (34::t)).extract ((1:Int)).toNat ((((BR (34::t)).size:Nat):Int)).toNat=BR t:=by rw [qFG,qb];simp
  rw [e]
  exact qA lp rfl
 |some st=>
  obtain ⟨s,t'⟩:=st
  obtain ⟨n1,h1⟩:=qKL (2,0,BR s) (t',b,l) hl
  refine ⟨n1+t.length+1+3,fun n hn=>?_⟩
  obtain ⟨m,rfl,hm⟩:=up3 hn
  have lp:=lp m (m+2) (by omega)
  rw [hq] at lp
  refine qD (decide_eq_true ⟨by decide,by rw [qb];simp;omega,Int.le_refl _⟩) ?_
  have e:(BR (34::t)).extract ((1:Int)).toNat ((((BR (34::t)).size:Nat):Int)).toNat=BR t:=by rw [qFG,qb];simp
  rw [e]
  exact qA lp (qA (h1 (m+2) (by omega)) rfl)
theorem qUE (m:Nat) (r:List UInt8) (w:ByteArray):qv (m+1) (BR r) w=some (BR (if w.toList.isPrefixOf r=true then r.drop w.size else r),w.toList.isPrefixOf r):=by
 show zX (BR r) w=_
 unfold zX Lib.trimPrefix Lib.hasPrefix
 rw [←Go.Lib.toList_data (BR r),←Go.Lib.toList_data w,qAP,qAQ]
 rfl
theorem qSF {n:Nat} (deep:Int) (r:List UInt8) (b:Bool) (l:List Nd)
  (h1:∀i,0≤i∧i≤5→qAf n i=some (qf i)) (h2:∀i,1≤i∧i≤5→qBr n i=some (4,i,em))
  (h3:∀w,qv n (BR r) w=some (BR (if w.toList.isPrefixOf r=true then r.drop w.size else r),w.toList.isPrefixOf r))
  (h4:∀i,1≤i∧i≤5→qj n 4 i em (BR (r.drop (qf i).size)) l.length b (l.map qW)=some (qHF (qDT (nd1 (4,i,em)) (r.drop (qf i).size,b,l)))):
  ∀(k:Nat) (i:Int) (M:Nat),1≤i→i+k=6→k+1≤M→zD (qCC n) M (deep,i,BR r,l.length,b,l.map qW)=some (match qJI r i k with
   |some e=> .inl (qHF (qDT (nd1 (4,e,em)) (r.drop (qf e).size,b,l)))
   |none=> .inr (deep,BR r,l.length,b,l.map qW))
 |k,i,0,_,_,h=>by omega
 |0,i,M+1,hi,hk,h=>by
  rw [qP (r:= .inr (deep,BR r,l.length,b,l.map qW)) (by exact qO (decide_eq_false (show ¬i≤5 by omega)) rfl)]
  rfl
 |k+1,i,M+1,hi,hk,h=>by
  have hi5:1≤i∧i≤5:=⟨hi,by omega⟩
  have c:=h3 (qf i)
  cases hq:(qf i).toList.isPrefixOf r with
  |true=>
   rw [hq,if_pos rfl] at c
   unfold qJI
   rw [if_pos hq]
   refine qP (qD (decide_eq_true (show i≤5 by omega)) (qA (h1 i ⟨by omega,by omega⟩) (qA c (qD rfl (qA (h2 i hi5) (qA (h4 i hi5) rfl))))))
  |false=>
   rw [hq,if_neg (by simp)] at c
   unfold qJI
   rw [if_neg (by rw [hq];simp)]
   have w1:IntKind.i64.wrap (i+1)=i+1:=qU (by omega)
   rw [qT (v':=(deep,i+1,BR r,l.length,b,l.map qW)) (by refine qD (decide_eq_true (show i≤5 by omega)) (qA (h1 i ⟨by omega,by omega⟩) (qA c (qO rfl ?_)));rw [qC,w1])]
   exact qSF deep r b l h1 h2 h3 h4 k (i+1) M (by omega) (by omega) (by omega)
theorem qUZ (deep:Int) (r:List UInt8) (b:Bool) (l:List Nd) (hl:l.length≤60):∃n0,∀n,n0≤n→∀M,n0≤M→zD (qCC n) M (deep,1,BR r,l.length,b,l.map qW)=some (match qJI r 1 5 with
   |some e=> .inl (qHF (qDT (nd1 (4,e,em)) (r.drop (qf e).size,b,l)))
   |none=> .inr (deep,BR r,l.length,b,l.map qW)):=by
 obtain ⟨n1,h1⟩:=qGD (F:=qAf) (f:=qf) (lo:=0) (by decide) qEu
 obtain ⟨n2,h2⟩:=qGD (F:=qBr) (f:=fun i=>(4,i,em)) (lo:=1) (by decide) (fun i _=>qK9 i)
 obtain ⟨n4,h4⟩:=qGD (F:=fun n i=>qj n 4 i em (BR (r.drop (qf i).size)) l.length b (l.map qW)) (f:=fun i=>qHF (qDT (nd1 (4,i,em)) (r.drop (qf i).size,b,l))) (lo:=1) (by decide) (fun i _=>qKL (4,i,em) (r.drop (qf i).size,b,l) hl)
 refine ⟨n1+n2+n4+7,fun n hn M hM=>?_⟩
 exact qSF deep r b l (h1 n (by omega)) (h2 n (by omega)) (fun w=>by
  obtain ⟨m,rfl,_⟩:=up1 (show n1+1≤n by omega)
  exact qUE m r w) (h4 n (by omega)) 5 1 M (by omega) (by omega) (by omega)
theorem qS0 {g:G_impl_reader_binary} {n:Nat} (deep:Int) (w:List UInt8) (p:PS) (res:Int→Int×PS) (h1:∀i,1≤i∧i≤10→qCF n i=some (fnS i)):
  ∀(k:Nat) (i:Int) (M:Nat),1≤i→i+k=11→k+1≤M→(∀op,qGF w i k=some op→g.impl_reader_call op deep (BR p.1) p.2.2.length p.2.1 (p.2.2.map qW)=some (qHF (res op)))→
   zD (qAj g n) M (deep,BR w,i,BR p.1,p.2.2.length,p.2.1,p.2.2.map qW)=some (match qGF w i k with
   |some op=> .inl (qHF (res op))
   |none=> .inr (qFd p))
 |k,i,0,_,_,h,_=>by omega
 |0,i,M+1,hi,hk,h,_=>by
  rw [qP (r:= .inr (qFd p)) (by exact qO (decide_eq_false (show ¬i≤10 by omega)) rfl)]
  rfl
 |k+1,i,M+1,hi,hk,h,hc=>by
  unfold qGF at hc⊢
  by_cases hq:(fnS i).toList=w
  ·rw [if_pos hq] at hc⊢
   refine qP (qD (decide_eq_true (show i≤10 by omega)) (qA (h1 i ⟨hi,by omega⟩) (qD (by simp [qAP,hq]) (qA (hc i rfl) rfl))))
  ·rw [if_neg hq] at hc⊢
   have w1:IntKind.i64.wrap (i+1)=i+1:=qU (by omega)
   have hq':¬w=(fnS i).toList:=fun e=>hq e.symm
   rw [qT (v':=(deep,BR w,i+1,BR p.1,p.2.2.length,p.2.1,p.2.2.map qW)) (by refine qD (decide_eq_true (show i≤10 by omega)) (qA (h1 i ⟨hi,by omega⟩) (qO (by simp [qAP,hq']) ?_));rw [qC,w1])]
   exact qS0 deep w p res h1 k (i+1) M (by omega) (by omega) (by omega) hc
theorem qUa:∃n0,∀n,n0≤n→∀i,1≤i∧i≤10→qCF n i=some (fnS i):=by
 obtain ⟨n1,h1⟩:=qBc (F:=fun (i:Nat) n=>qCF n ((i:Int)+1)) (f:=fun i=>fnS ((i:Int)+1)) (List.range 10) (fun i hi=>qKI _ (by have:=List.mem_range.1 hi;omega))
 refine ⟨n1,fun n hn i hi=>?_⟩
 have:=h1 n hn (i-1).toNat (List.mem_range.2 (by omega))
 rwa [show (((i-1).toNat:Nat):Int)+1=i by omega] at this
theorem qUb:∃n0,∀n,n0≤n→∀i,1≤i∧i≤11→qBQ n i=some (qAO i):=by
 obtain ⟨n1,h1⟩:=qBc (F:=fun (i:Nat) n=>qBQ n ((i:Int)+1)) (f:=fun i=>qAO ((i:Int)+1)) (List.range 11) (fun i hi=>qG7 _ (by have:=List.mem_range.1 hi;omega))
 refine ⟨n1,fun n hn i hi=>?_⟩
 have:=h1 n hn (i-1).toNat (List.mem_range.2 (by omega))
 rwa [show (((i-1).toNat:Nat):Int)+1=i by omega] at this
def opF (s:List UInt8):Int→Int→Nat→Int
 |op,_,0=>op
 |op,i,k+1=>opF s (if s=(qAO i).toList then i else op) (i+1) k
theorem qUc (r:List UInt8):opF (sgn r) 0 1 11=qAq r:=by
 unfold qAq
 generalize sgn r=s
 by_cases h1:s= [43]; · subst h1;decide+kernel
 by_cases h2:s= [45]; · subst h2;decide+kernel
 by_cases h3:s= [42]; · subst h3;decide+kernel
 by_cases h4:s= [47]; · subst h4;decide+kernel
 by_cases h5:s= [38]; · subst h5;decide+kernel
 by_cases h6:s= [61]; · subst h6;decide+kernel
 by_cases h7:s= [60,62]; · subst h7;decide+kernel
 by_cases h8:s= [60]; · subst h8;decide+kernel
 by_cases h9:s= [60,61]; · subst h9;decide+kernel
 by_cases h10:s= [62]; · subst h10;decide+kernel
 by_cases h11:s= [62,61]; · subst h11;decide+kernel
 rw [if_neg h1,if_neg h2,if_neg h3,if_neg h4,if_neg h5,if_neg h6,if_neg h7,if_neg h8,if_neg h9,if_neg h10,if_neg h11]
 rw [←sg1] at h1;rw [←sg2] at h2;rw [←sg3] at h3;rw [←sg4] at h4;rw [←sg5] at h5;rw [←sg6] at h6;rw [←sg7] at h7;rw [←sg8] at h8;rw [←sg9] at h9;rw [←qTd] at h10;rw [←qTe] at h11
 simp only [opF,if_neg h1]
 simp only [show (1:Int)+1=2 from rfl,if_neg h2,show (2:Int)+1=3 from rfl,if_neg h3,show (3:Int)+1=4 from rfl,if_neg h4,show (4:Int)+1=5 from rfl,if_neg h5,show (5:Int)+1=6 from rfl,if_neg h6,show (6:Int)+1=7 from rfl,if_neg h7,show (7:Int)+1=8 from rfl,if_neg h8,show (8:Int)+1=9 from rfl,if_neg h9,show (9:Int)+1=10 from rfl,if_neg h10,show (10:Int)+1=11 from rfl,if_neg h11]
theorem qSG {n:Nat} (least deep a op i:Int) (r R:List UInt8) (m:Nat) (b:Bool) (rows:List (List PV)) (hi:1≤i∧i≤11)
  (h1:qBj n (BR r) m b rows=some (BR (sgn R),BR R,m,b,rows)) (h2:qBQ n i=some (qAO i)):
  (qBC n (least,deep,a,op,i,BR r,m,b,rows)).run=some (.inl (least,deep,a,if sgn R=(qAO i).toList then i else op,i+1,BR R,m,b,rows)):=by
 have w1:IntKind.i64.wrap (i+1)=i+1:=qU (by omega)
 refine qD (decide_eq_true (show i≤11 by omega)) (qA h1 (qA h2 ?_))
 by_cases hq:sgn R=(qAO i).toList
 ·rw [if_pos hq]
  exact qD (by simp [qAP,hq]) (by rw [qC,w1])
 ·rw [if_neg hq]
  exact qO (by simp [qAP,hq]) (by rw [qC,w1])
theorem qSH {n:Nat} (least deep a:Int) (R:List UInt8) (m:Nat) (b:Bool) (rows:List (List PV))
  (h1:qBj n (BR R) m b rows=some (BR (sgn R),BR R,m,b,rows)) (h2:∀i,1≤i∧i≤11→qBQ n i=some (qAO i)):
  ∀(k:Nat) (op i:Int) (M:Nat),1≤i→i+k=12→k+1≤M→zD (qBC n) M (least,deep,a,op,i,BR R,m,b,rows)=some (least,deep,a,opF (sgn R) op i k,BR R,m,b,rows)
 |k,op,i,0,_,_,h=>by omega
 |0,op,i,M+1,hi,hk,h=>by
  rw [qP (r:=(least,deep,a,op,BR R,m,b,rows)) (by exact qO (decide_eq_false (show ¬i≤11 by omega)) rfl)]
  rfl
 |k+1,op,i,M+1,hi,hk,h=>by
  rw [qT (qSG least deep a op i R R m b rows ⟨hi,by omega⟩ h1 (h2 i ⟨hi,by omega⟩))]
  exact qSH least deep a R m b rows h1 h2 k _ (i+1) M (by omega) (by omega) (by omega)
theorem qUF (least deep a:Int) (r:List UInt8) (m:Nat) (b:Bool) (rows:List (List PV)):∃n0,∀n,n0≤n→∀M,n0≤M→zD (qBC n) M (least,deep,a,0,1,BR r,m,b,rows)=some (least,deep,a,qAq (tb r),BR (tb r),m,b,rows):=by
 obtain ⟨n1,h1⟩:=qNb r m b rows
 obtain ⟨n2,h2⟩:=qNb (tb r) m b rows
 obtain ⟨n3,h3⟩:=qUb
 refine ⟨n1+n2+n3+20,fun n hn M hM=>?_⟩
 obtain ⟨M,rfl,hM⟩:=up1 hM
 have h2:=h2 n (by omega)
 rw [qCW] at h2
 rw [qT (qSG least deep a 0 1 r (tb r) m b rows (by omega) (h1 n (by omega)) (h3 n (by omega) 1 (by omega)))]
 rw [show (1:Int)+1=2 from rfl,qSH least deep a (tb r) m b rows h2 (h3 n (by omega)) 10 _ 2 M (by omega) (by omega) (by omega),←qUc]
 rfl
theorem qS1 {p:PS} (h:Gd p):Gd (qBE p).2∧(qBE p).2.1.length≤p.1.length∧∀x,(qBE p).1=some x→qOk x:=by
 have h1:=q9 p.1
 have h2:=qG8 (tb p.1)
 have h0:=h.r
 unfold qBE
 simp only
 split
 ·have h3:=qIo [58] (wr (tb p.1),p.2)
  have h4:=q9 (qY [58] (wr (tb p.1),p.2)).2.1
  have h5:=qG8 (tb (qY [58] (wr (tb p.1),p.2)).2.1)
  have h6:=q9 (wr (tb p.1))
  have e:(qY [58] (wr (tb p.1),p.2)).2.2.2=p.2.2:=by unfold qY;split<;>rfl
  simp only at h3
  refine ⟨⟨by simp only;omega,by rw [e];exact h.n,by rw [e];exact h.s⟩,by simp only;omega,fun x hx=>?_⟩
  cases hx
  exact ⟨by simp [kd,ndA],by simp [ndA,em];decide⟩
 ·exact ⟨h,Nat.le_refl _,fun x hx=>by cases hx⟩
theorem qUG (p:PS) (h:p.1.length≤1000):∃x:Nd,(∀y,(qBE p).1=some y→x=y)∧Ev (qDH · (BR p.1) p.2.2.length p.2.1 (p.2.2.map qW)) (x.1,x.2.1,x.2.2.1,x.2.2.2.1,x.2.2.2.2.1,x.2.2.2.2.2.1,x.2.2.2.2.2.2.1,x.2.2.2.2.2.2.2.1,x.2.2.2.2.2.2.2.2.1,x.2.2.2.2.2.2.2.2.2.1,x.2.2.2.2.2.2.2.2.2.2.1,x.2.2.2.2.2.2.2.2.2.2.2.1,x.2.2.2.2.2.2.2.2.2.2.2.2.1,(kd x).map qAz,(qBE p).1.isSome,qFd (qBE p).2):=by
 have l1:=q9 p.1
 have l2:=qG8 (tb p.1)
 have l3:=qIo [58] (wr (tb p.1),p.2)
 have l6:=q9 (wr (tb p.1))
 simp only at l3
 obtain ⟨n1,h1⟩:=qRc p h
 obtain ⟨n2,h2⟩:=qTh p.1 h
 obtain ⟨n3,h3⟩:=qGG [58] (wr (tb p.1),p.2)
 have hle:(qY [58] (wr (tb p.1),p.2)).2.1.length≤1000:=by omega
 obtain ⟨n4,h4⟩:=qRc (qY [58] (wr (tb p.1),p.2)).2 hle
 obtain ⟨n5,h5⟩:=qTh (qY [58] (wr (tb p.1),p.2)).2.1 hle
 have e:(qY [58] (wr (tb p.1),p.2)).2.2=p.2:=by unfold qY;split<;>rfl
 unfold qBE
 simp only
 by_cases hc:(qA0 (BR (wd (tb p.1)))).2.2.2.2=true∧(qY [58] (wr (tb p.1),p.2)).1=true
 ·rw [if_pos hc]
  refine ⟨_,fun y hy=>by cases hy;rfl,n1+n2+n3+n4+n5+1,fun n hn=>?_⟩
  obtain ⟨k,rfl,hm⟩:=up1 hn
  refine qA (h1 k (by omega)) (qA (h2 k (by omega)) (qD hc.1 (qA (h3 k (by omega)) (qO (by simp only;rw [hc.2];rfl) (qA (h4 k (by omega)) (qA (h5 k (by omega)) ?_))))))
  cases hb:(qY [58] (wr (tb p.1),p.2)).2.2.1 with
  |true=>
   refine qD hb ?_
   rw [qC];rfl
  |false=>
   refine qO hb ?_
   rw [qC];rfl
 ·rw [if_neg hc]
  refine ⟨(0,0,0,0,⟨#[]⟩,0,0,false,false,0,0,false,false,[]),fun y hy=>(by cases hy),n1+n2+n3+1,fun n hn=>?_⟩
  obtain ⟨k,rfl,hm⟩:=up1 hn
  cases hr:(qA0 (BR (wd (tb p.1)))).2.2.2.2 with
  |false=>exact qA (h1 k (by omega)) (qA (h2 k (by omega)) (qO hr rfl))
  |true=>
   have ht:(qY [58] (wr (tb p.1),p.2)).1=false:=by
    rw [Bool.eq_false_iff];exact fun e=>hc ⟨hr,e⟩
   refine qA (h1 k (by omega)) (qA (h2 k (by omega)) (qD hr (qA (h3 k (by omega)) (qD (by simp only;rw [ht];rfl) ?_))))
   rw [qC]
   simp only [qFd,e]
   rfl
theorem qKM {s:ByteArray} (h:(qi s).2.2.2=true) (hk:(qi s).1=1∨(qi s).1=3):(qi s).2.2.1.size≤2000:=by
 unfold qi at h hk⊢
 split at h
 ·rename_i hc
  rw [if_pos hc] at hk⊢
  have h1:=hc.1
  unfold okV at h1
  have h2:¬(qBH s).1=2:=by
   simp only at hk
   omega
  rw [if_neg h2] at h1
  simp only [Bool.and_eq_true,beq_iff_eq] at h1
  have:=congrArg List.length h1.1
  rw [qAQ] at this
  have h0:(qBH s).2.2.size=0:=this
  show (qBH s).2.2.size≤2000
  omega
 ·cases h
def Kj:PJ→PS→Prop
 | .args _ _ kids,p=>kids.length+p.1.length≤1500
 |_,_=>True
theorem qKX {w:List UInt8} {p:PS} (h:Gd p):Gd (qCQ w p)∧(qCQ w p).1.length≤p.1.length:=by
 have h1:=qIo w p
 have h2:=q9 p.1
 unfold qCQ
 split
 ·exact ⟨h,Nat.le_refl _⟩
 ·split
  ·exact ⟨qCl h,by omega⟩
  ·exact ⟨⟨(qCl h).r,(qCl h).n,(qCl h).s⟩,by show (qY w p).2.1.length≤_;omega⟩
theorem qMa {p:PS} {r:List UInt8} (h:Gd p) (hr:r.length≤p.1.length):Gd (r,p.2):=⟨by have:=h.r;simp only;omega,h.n,h.s⟩
theorem qE4:∀(f:Nat) (j:PJ) (p:PS),Gd p→Kj j p→Gd (pP f j p).2∧(pP f j p).2.1.length≤p.1.length
 |0,j,p,h,_=>⟨h,Nat.le_refl _⟩
 |f+1,.bin least deep,p,h,_=>by
  unfold pP
  have a:=qE4 f (.un deep) p h trivial
  have b:=qE4 f (.loop least deep (pP f (.un deep) p).1) (pP f (.un deep) p).2 a.1 trivial
  exact ⟨b.1,Nat.le_trans b.2 a.2⟩
 |f+1,.loop least deep a,p,h,_=>by
  have h1:=q9 p.1
  unfold pP
  split
  ·exact ⟨h,Nat.le_refl _⟩
  ·split
   ·exact ⟨qMa h h1,h1⟩
   ·have l1:((tb p.1).drop (sgn (tb p.1)).length).length≤p.1.length:=by simp;omega
    have b:=qE4 f (.bin (lvl (qAq (tb p.1))+1) deep) ((tb p.1).drop (sgn (tb p.1)).length,p.2) (qMa h l1) trivial
    simp only
    have c:=qG9 (x:=ndK 5 (qAq (tb p.1)) [a,(pP f (.bin (lvl (qAq (tb p.1))+1) deep) ((tb p.1).drop (sgn (tb p.1)).length,p.2)).1]) b.1 ⟨by simp [kd,ndK],by simp [ndK,em];decide⟩
    have d:=qE4 f (.loop least deep (qDT (ndK 5 (qAq (tb p.1)) [a,(pP f (.bin (lvl (qAq (tb p.1))+1) deep) ((tb p.1).drop (sgn (tb p.1)).length,p.2)).1]) (pP f (.bin (lvl (qAq (tb p.1))+1) deep) ((tb p.1).drop (sgn (tb p.1)).length,p.2)).2).1) _ c trivial
    refine ⟨d.1,Nat.le_trans d.2 ?_⟩
    rw [qAy]
    exact Nat.le_trans b.2 l1
 |f+1,.un deep,p,h,_=>by
  have h1:=q9 p.1
  have h2:=qIo [45] p
  unfold pP
  split
  ·exact ⟨⟨h.r,h.n,h.s⟩,Nat.le_refl _⟩
  ·split
   ·simp only
    have b:=qE4 f (.un (deep+1)) (qY [45] p).2 (qCl h) trivial
    refine ⟨qG9 b.1 ⟨by simp [kd,ndK],by simp [ndK,em];decide⟩,?_⟩
    rw [qAy]
    exact Nat.le_trans b.2 (by omega)
   ·have b:=qE4 f (.at deep) (qY [45] p).2 (qCl h) trivial
    exact ⟨b.1,Nat.le_trans b.2 (by omega)⟩
 |f+1,.at deep,p,h,_=>by
  have h1:=q9 p.1
  have h2:=qIo [40] p
  have h3:=qG8 (tb p.1)
  have h4:=h.r
  have g2:Gd (wr (tb p.1),p.2):=qMa h (by omega)
  unfold pP
  simp only
  split
  ·split
   ·exact ⟨⟨by simp only;omega,h.n,h.s⟩,h1⟩
   ·rename_i hh _ s t hq
    have a:=qKV _ _ hq
    have b:=qHA _ _ _ (Nat.le_refl _) hq
    simp only [List.length_tail,List.length_nil] at a b
    refine ⟨qG9 (qMa h (by omega)) ⟨by simp [kd,nd1],by simp only [nd1,qb];omega⟩,?_⟩
    rw [qAy];simp only;omega
  ·split
   ·refine ⟨qG9 (qMa h (by simp;omega)) ⟨by simp [kd,nd1],by simp [nd1,em];decide⟩,?_⟩
    rw [qAy];simp;omega
   ·split
    ·have b:=qE4 f (.bin 1 (deep+1)) (qY [40] p).2 (qCl h) trivial
     have c:=qKX (w:= [41]) b.1
     exact ⟨c.1,Nat.le_trans c.2 (Nat.le_trans b.2 (by omega))⟩
    ·split
     ·rename_i hv
      refine ⟨qG9 g2 ⟨by simp [kd,nd1],qKM hv.1 hv.2⟩,?_⟩
      rw [qAy];simp only;omega
     ·split
      ·refine ⟨qG9 g2 ⟨by simp [kd,ndC],by simp [ndC,em];decide⟩,?_⟩
       rw [qAy];simp only;omega
      ·split
       ·rename_i op _
        have b:=qE4 f (.call op deep) (wr (tb p.1),p.2) g2 trivial
        exact ⟨b.1,Nat.le_trans b.2 (by simp only;omega)⟩
       ·exact ⟨⟨g2.r,g2.n,g2.s⟩,by show (wr (tb p.1)).length≤_;omega⟩
 |f+1,.call op deep,p,h,_=>by
  unfold pP
  have a:=qKX (w:= [40]) h
  have b:=qE4 f (.args op deep []) (qCQ [40] p) a.1 (by have:=a.1.r;show 0+_≤_;omega)
  exact ⟨b.1,Nat.le_trans b.2 a.2⟩
 |f+1,.args op deep kids,p,h,hk=>by
  replace hk:kids.length+p.1.length≤1500:=hk
  unfold pP
  split
  ·refine ⟨qG9 h ⟨by simp [kd,ndK];omega,by simp [ndK,em];decide⟩,?_⟩
   rw [qAy];exact Nat.le_refl _
  ·simp only
   have a:=qS1 h
   have qg:Gd (qET (qBE p) (fun p=>pP f (.bin 1 (deep+1)) p)).2∧(qET (qBE p) (fun p=>pP f (.bin 1 (deep+1)) p)).2.1.length≤p.1.length:=by
    unfold qET
    split
    ·rename_i x hx
     refine ⟨qG9 a.1 (a.2.2 x hx),?_⟩
     rw [qAy];exact a.2.1
    ·have b:=qE4 f (.bin 1 (deep+1)) (qBE p).2 a.1 trivial
     exact ⟨b.1,Nat.le_trans b.2 a.2.1⟩
   generalize qET (qBE p) (fun p=>pP f (.bin 1 (deep+1)) p)=q at qg⊢
   have t0:=qg.2
   have t1:=q9 q.2.1
   have t2:=qIo [44] q.2
   split
   ·rename_i ht
    have t3:=qDn (by simp) ht
    have b:=qE4 f (.args op deep (kids++ [q.1])) (qY [44] q.2).2 (qCl qg.1) (by show (kids++ [q.1]).length+_≤_;simp;omega)
    exact ⟨b.1,Nat.le_trans b.2 (by omega)⟩
   ·have c:=qKX (w:= [41]) (qCl (w:= [44]) qg.1)
    refine ⟨qG9 c.1 ⟨by simp [kd,ndK];omega,by simp [ndK,em];decide⟩,?_⟩
    rw [qAy]
    exact Nat.le_trans c.2 (by omega)
def Ad (f:Nat):PJ→PS→Prop
 | .bin _ _,p=>20*(tb p.1).length+6≤f
 | .loop _ _ _,p=>20*(tb p.1).length+5≤f
 | .un _,p=>20*(tb p.1).length+4≤f
 | .at _,p=>20*(tb p.1).length+3≤f∧p.2.1=false
 | .call _ _,p=>20*(tb p.1).length+9≤f
 | .args _ _ _,p=>20*(tb p.1).length+8≤f
def Jd:PJ→Prop
 | .bin _ d=>0≤d∧d≤401
 | .loop _ d _=>0≤d∧d≤401
 | .un d=>0≤d∧d≤401
 | .at d=>0≤d∧d≤400
 | .call _ d=>0≤d∧d≤400
 | .args _ d _=>0≤d∧d≤400
def Wk:PJ→PS→Int×PS→Prop
 | .bin least deep,p,r=>Ev (qCh · least deep (BR p.1) p.2.2.length p.2.1 (p.2.2.map qW)) (qHF r)
 | .loop least deep a,p,r=>∃n0,∀n,n0≤n→∀M,n0≤M→zD (qC7 (qR n) n) M (least,deep,a,qFd p)=some (qHF r)
 | .un deep,p,r=>Ev (qF3 · deep (BR p.1) p.2.2.length p.2.1 (p.2.2.map qW)) (qHF r)
 | .at deep,p,r=>Ev (qGr · deep (BR p.1) p.2.2.length p.2.1 (p.2.2.map qW)) (qHF r)
 | .call op deep,p,r=>Ev (qCN · op deep (BR p.1) p.2.2.length p.2.1 (p.2.2.map qW)) (qHF r)
 | .args op deep kids,p,r=>∃(ks:List Int) (p':PS),r=qDT (ndK 6 op ks) p'∧Gd p'∧ks.length≤1501∧∃n0,∀n,n0≤n→∀M,n0≤M→
   zD (qCT (qR n) n) M (op,deep,kids.length,kids.map qAz,qFd p)=some (op,ks.length,ks.map qAz,qFd p')
theorem qMb (w:List UInt8) {p:PS} (h:p.2.1=false):(BR (qY w p).2.1,(qY w p).2.2.2.length,!(qY w p).1,(qY w p).2.2.2.map qW)=qFd (qCQ w p):=by
 have e:(qY w p).2.2=p.2:=by unfold qY;split<;>rfl
 unfold qCQ
 rw [if_neg (by rw [h];simp)]
 cases hc:(qY w p).1 with
 |true=>rw [if_pos rfl];simp only [qFd,e,h];rfl
 |false=>rw [if_neg (by simp)];rfl
theorem qRe {r w:List UInt8} (hw:w≠ []) (h:w<+:r):(tb (r.drop w.length)).length<r.length:=by
 have h1:=q9 (r.drop w.length)
 have h2:=h.length_le
 have h3:0<w.length:=List.length_pos_iff.2 hw
 simp only [List.length_drop] at h1
 omega
theorem qU0 {r:List UInt8} (h:qAq r≠0):1≤qAq r∧qAq r≤11∧sgn r=(qAO (qAq r)).toList∧sgn r≠ []:=by
 rcases qSx r with e|⟨a,b,c⟩
 ·exact absurd e h
 ·refine ⟨a,b,c,fun e=>h ?_⟩
  unfold qAq;rw [e];decide
def qTi (f:Nat) (deep:Int) (w:List UInt8) (p2:PS):Int×PS:=
 if (qi (BR w)).2.2.2=true∧((qi (BR w)).1=1∨(qi (BR w)).1=3) then qDT (nd1 ((qi (BR w)).1,(qi (BR w)).2.1,(qi (BR w)).2.2.1)) p2
 else if (qA0 (BR w)).2.2.2.2=true then qDT (ndC (qA0 (BR w))) p2
 else match qGF w 1 10 with
 |some op=>pP f (.call op deep) p2
 |none=>(-1,qSY p2)
def qSd (g:G_impl_reader_binary) (n:Nat) (deep:Int) (w:ByteArray) (c:ByteArray×Nat×Bool×List (List PV)):Tr (Int×ByteArray×Nat×Bool×List (List PV)):=
 (.opt (qAg n w) fun r=>(.ask r.2.2.2.2
  (.opt (qp n 2 0 0 0 ⟨#[]⟩ r.1 r.2.1 r.2.2.1 r.2.2.2.1 0 0 false false [] c.1 c.2.1 c.2.2.1 c.2.2.2) fun s=> .done (s.1,s.2.1,s.2.2.1,s.2.2.2.1,s.2.2.2.2))
  (.opt (zD (qAj g n) n (deep,w,1,c.1,c.2.1,c.2.2.1,c.2.2.2)) fun s=>(.alt s (fun t=> .done (t.1,t.2.1,t.2.2.1,t.2.2.2.1,t.2.2.2.2)) (fun t=> .done (-1,t.1,t.2.1,true,t.2.2.2))))))
def qUO (g:G_impl_reader_binary) (n:Nat) (deep:Int) (w:ByteArray) (c:ByteArray×Nat×Bool×List (List PV)):Tr (Int×ByteArray×Nat×Bool×List (List PV)):=
 (.opt (qd n w) fun r=>(.ask r.2.2.2
  (.ask (r.1==1) (.opt (qj n r.1 r.2.1 r.2.2.1 c.1 c.2.1 c.2.2.1 c.2.2.2) fun s=> .done (s.1,s.2.1,s.2.2.1,s.2.2.2.1,s.2.2.2.2))
   (.ask (r.1==3) (.opt (qj n r.1 r.2.1 r.2.2.1 c.1 c.2.1 c.2.2.1 c.2.2.2) fun s=> .done (s.1,s.2.1,s.2.2.1,s.2.2.2.1,s.2.2.2.2))
    (qSd g n deep w c)))
  (qSd g n deep w c)))
theorem qTL (f:Nat) (deep:Int) (r:List UInt8) (p2:PS) (hr:r.length≤1000) (hp:p2.2.2.length≤60) (hc:∀op,qGF (wd (tb r)) 1 10=some op→Ev (qCN · op deep (BR p2.1) p2.2.2.length p2.2.1 (p2.2.2.map qW)) (qHF (pP f (.call op deep) p2))):
  ∃n0,∀n,n0≤n→(qSd (qR n) n deep (BR (wd (tb r))) (qFd p2)).run=some (qHF (if (qA0 (BR (wd (tb r)))).2.2.2.2=true then qDT (ndC (qA0 (BR (wd (tb r))))) p2 else match qGF (wd (tb r)) 1 10 with
   |some op=>pP f (.call op deep) p2
   |none=>(-1,qSY p2))):=by
 obtain ⟨n1,h1⟩:=qTh r hr
 obtain ⟨n2,h2⟩:=qNc (ndC (qA0 (BR (wd (tb r))))) p2 hp
 obtain ⟨n3,h3⟩:=qUa
 obtain ⟨n4,h4⟩:∃n4,∀n,n4≤n→∀op,qGF (wd (tb r)) 1 10=some op→qCN n op deep (BR p2.1) p2.2.2.length p2.2.1 (p2.2.2.map qW)=some (qHF (pP f (.call op deep) p2)):=by
  cases hf:qGF (wd (tb r)) 1 10 with
  |none=>exact ⟨0,fun n _ op h=>by cases h⟩
  |some op=>obtain ⟨n4,h4⟩:=hc op hf;exact ⟨n4,fun n hn op' h=>by cases h;exact h4 n hn⟩
 refine ⟨n1+n2+n3+n4+12,fun n hn=>?_⟩
 have lp:=qS0 (g:=qR n) deep (wd (tb r)) p2 (fun op=>pP f (.call op deep) p2) (h3 n (by omega)) 10 1 n (by omega) (by omega) (by omega) (h4 n (by omega))
 cases hb:(qA0 (BR (wd (tb r)))).2.2.2.2 with
 |true=>
  rw [if_pos rfl]
  exact qA (h1 n (by omega)) (qD hb (qA (h2 n (by omega)) rfl))
 |false=>
  rw [if_neg (by simp)]
  refine qA (h1 n (by omega)) (qO hb (qA lp ?_))
  cases qGF (wd (tb r)) 1 10<;>rfl
theorem qTj (f:Nat) (deep:Int) (r:List UInt8) (p2:PS) (hr:r.length≤1000) (hp:p2.2.2.length≤60) (hc:∀op,qGF (wd (tb r)) 1 10=some op→Ev (qCN · op deep (BR p2.1) p2.2.2.length p2.2.1 (p2.2.2.map qW)) (qHF (pP f (.call op deep) p2))):
  ∃n0,∀n,n0≤n→(qUO (qR n) n deep (BR (wd (tb r))) (qFd p2)).run=some (qHF (qTi f deep (wd (tb r)) p2)):=by
 obtain ⟨n1,h1⟩:=qUz r hr
 obtain ⟨n2,h2⟩:=qKL ((qi (BR (wd (tb r)))).1,(qi (BR (wd (tb r)))).2.1,(qi (BR (wd (tb r)))).2.2.1) p2 hp
 obtain ⟨n3,h3⟩:=qTL f deep r p2 hr hp hc
 refine ⟨n1+n2+n3,fun n hn=>?_⟩
 have h2:=h2 n (by omega)
 have h3:=h3 n (by omega)
 unfold qTi
 refine qA (h1 n (by omega)) ?_
 by_cases ho:(qi (BR (wd (tb r)))).2.2.2=true
 ·refine qD ho ?_
  by_cases k1:(qi (BR (wd (tb r)))).1=1
  ·rw [if_pos ⟨ho,.inl k1⟩]
   exact qD (by rw [k1];rfl) (qA h2 rfl)
  ·refine qO (beq_eq_false_iff_ne.2 k1) ?_
   by_cases k3:(qi (BR (wd (tb r)))).1=3
   ·rw [if_pos ⟨ho,.inr k3⟩]
    exact qD (by rw [k3];rfl) (qA h2 rfl)
   ·rw [if_neg (fun h=>h.2.elim k1 k3)]
    exact qO (beq_eq_false_iff_ne.2 k3) h3
 ·rw [if_neg (fun h=>ho h.1)]
  exact qO (by rw [Bool.eq_false_iff];exact ho) h3
theorem qU1 (w:List UInt8) (p:PS):qY w (tb p.1,p.2)=qY w p:=by unfold qY;simp only [qCW]
theorem qKY {c:UInt8} {r:List UInt8} (h:r.head?=some c):∃t,r=c::t:=by
 cases r with
 |nil=>cases h
 |cons d t=>simp at h;subst h;exact ⟨t,rfl⟩
theorem qFH:∀(f:Nat) (j:PJ) (p:PS),Ad f j p→Jd j→Gd p→Kj j p→Wk j p (pP f j p)
 |0,j,p,ha,_,_,_=>by cases j<;>simp [Ad] at ha
 |f+1,.bin least deep,p,ha,hj,hg,_=>by
  replace ha:20*(tb p.1).length+6≤f+1:=ha
  obtain ⟨n1,h1⟩:=qFH f (.un deep) p (by show 20*_+4≤f;omega) hj hg trivial
  have hl:=qDo f (.un deep) p
  obtain ⟨n2,h2⟩:=qFH f (.loop least deep (pP f (.un deep) p).1) (pP f (.un deep) p).2 (by show 20*_+5≤f;omega) hj (qE4 f (.un deep) p hg trivial).1 trivial
  refine ⟨n1+n2+1,fun n hn=>?_⟩
  obtain ⟨k,rfl,hm⟩:=up1 hn
  exact qA (h1 k (by omega)) (qA (h2 k (by omega) k (by omega)) rfl)
 |f+1,.loop least deep a,(r,b,l),ha,hj,hg,_=>by
  replace ha:20*(tb r).length+5≤f+1:=ha
  have hn60:l.length≤60:=hg.n
  have hr1:r.length≤1000:=hg.r
  have ht:=q9 r
  unfold pP
  cases b with
  |true=>
   rw [if_pos rfl]
   refine ⟨1,fun n hn M hM=>?_⟩
   obtain ⟨M,rfl,hM⟩:=up1 hM
   exact qP (qO rfl rfl)
  |false=>
   rw [if_neg (by simp)]
   simp only
   obtain ⟨n1,h1⟩:=qUF least deep a r l.length false (l.map qW)
   by_cases h0:qAq (tb r)=0
   ·rw [if_pos (.inl h0)]
    refine ⟨n1+1,fun n hn M hM=>?_⟩
    obtain ⟨M,rfl,hM⟩:=up1 hM
    exact qP (qD rfl (qA (h1 n (by omega) n (by omega)) (qD (by simp only;rw [h0];rfl) rfl)))
   ·obtain ⟨o1,o2,o3,o4⟩:=qU0 h0
    obtain ⟨n2,h2⟩:=qLE (qAq (tb r)) ⟨o1,o2⟩
    by_cases hl:lvl (qAq (tb r))<least
    ·rw [if_pos (.inr hl)]
     refine ⟨n1+n2+1,fun n hn M hM=>?_⟩
     obtain ⟨M,rfl,hM⟩:=up1 hM
     exact qP (qD rfl (qA (h1 n (by omega) n (by omega)) (qO (beq_eq_false_iff_ne.2 h0) (qA (h2 n (by omega)) (qD (decide_eq_true hl) rfl)))))
    ·rw [if_neg (fun h=>h.elim h0 hl)]
     have lv:=qSZ (op:=qAq (tb r))
     have hlt:=qRe o4 (qSy (tb r))
     have hp1:Gd ((tb r).drop (sgn (tb r)).length,false,l):=⟨by simp;omega,hn60,hg.s⟩
     obtain ⟨n3,h3⟩:=qG7 (qAq (tb r)) ⟨o1,o2⟩
     obtain ⟨n4,h4⟩:=qQ4 (qAO (qAq (tb r))).toList (tb r) l.length false (l.map qW)
     obtain ⟨n5,h5⟩:=qFH f (.bin (lvl (qAq (tb r))+1) deep) ((tb r).drop (sgn (tb r)).length,false,l) (by show 20*_+6≤f;simp only;omega) hj hp1 trivial
     have g5:=qE4 f (.bin (lvl (qAq (tb r))+1) deep) ((tb r).drop (sgn (tb r)).length,false,l) hp1 trivial
     have l5:=qDo f (.bin (lvl (qAq (tb r))+1) deep) ((tb r).drop (sgn (tb r)).length,false,l)
     simp only at l5
     generalize pP f (.bin (lvl (qAq (tb r))+1) deep) ((tb r).drop (sgn (tb r)).length,false,l)=q at h5 g5 l5⊢
     obtain ⟨n6,h6⟩:=qNc (ndK 5 (qAq (tb r)) [a,q.1]) q.2 g5.1.n
     have g6:=qG9 (x:=ndK 5 (qAq (tb r)) [a,q.1]) g5.1 ⟨by simp [kd,ndK],by simp [ndK,em];decide⟩
     have e6:=qAy (ndK 5 (qAq (tb r)) [a,q.1]) q.2
     generalize qDT (ndK 5 (qAq (tb r)) [a,q.1]) q.2=c at h6 g6 e6⊢
     obtain ⟨n7,h7⟩:=qFH f (.loop least deep c.1) c.2 (by show 20*(tb c.2.1).length+5≤f;rw [e6];omega) hj g6 trivial
     refine ⟨n1+n2+n3+n4+n5+n6+n7+1,fun n hn M hM=>?_⟩
     obtain ⟨M,rfl,hM⟩:=up1 hM
     have w1:IntKind.i64.wrap (lvl (qAq (tb r))+1)=lvl (qAq (tb r))+1:=qU (by omega)
     have h3:=h3 n (by omega)
     have h4:=h4 n (by omega)
     have h5:=h5 n (by omega)
     rw [qIS,qCW,←o3,if_pos rfl] at h4
     rw [←w1] at h5
     rw [qT (v':=(least,deep,c.1,qFd c.2)) (by
      exact qD rfl (qA (h1 n (by omega) n (by omega)) (qO (beq_eq_false_iff_ne.2 h0) (qA (h2 n (by omega)) (qO (decide_eq_false hl) (qA h3 (qA h4 (qA (h2 n (by omega)) (qA h5 (qD rfl (qA (h6 n (by omega)) rfl)))))))))))]
     exact h7 n (by omega) M (by omega)
 |f+1,.un deep,p,ha,hj,hg,_=>by
  replace ha:20*(tb p.1).length+4≤f+1:=ha
  replace hj:0≤deep∧deep≤401:=hj
  unfold pP
  by_cases hd:deep>400
  ·rw [if_pos (.inl hd)]
   refine ⟨1,fun n hn=>?_⟩
   obtain ⟨k,rfl,hm⟩:=up1 hn
   exact qD (decide_eq_true hd) (qD rfl rfl)
  ·cases hb:p.2.1 with
   |true=>
    rw [if_pos (.inr rfl)]
    refine ⟨1,fun n hn=>?_⟩
    obtain ⟨k,rfl,hm⟩:=up1 hn
    refine qO (decide_eq_false hd) (qD hb ?_)
    rw [qC,hb];rfl
   |false=>
    rw [if_neg (fun h=>h.elim hd (by simp))]
    obtain ⟨n1,h1⟩:=qGG [45] p
    have t1:=qDw [45] p
    cases hc:(qY [45] p).1 with
    |true=>
     rw [if_pos rfl]
     simp only
     have t2:=qDn (by simp) hc
     have t3:=q9 (qY [45] p).2.1
     obtain ⟨n2,h2⟩:=qFH f (.un (deep+1)) (qY [45] p).2 (by show 20*_+4≤f;omega) (by show 0≤deep+1∧deep+1≤401;omega) (qCl hg) trivial
     have g2:=qE4 f (.un (deep+1)) (qY [45] p).2 (qCl hg) trivial
     generalize pP f (.un (deep+1)) (qY [45] p).2=q at h2 g2⊢
     obtain ⟨n3,h3⟩:=qNc (ndK 4 0 [q.1]) q.2 g2.1.n
     refine ⟨n1+n2+n3+1,fun n hn=>?_⟩
     obtain ⟨k,rfl,hm⟩:=up1 hn
     have w1:IntKind.i64.wrap (deep+1)=deep+1:=qU (by omega)
     have h2:=h2 k (by omega)
     rw [←w1] at h2
     exact qO (decide_eq_false hd) (qO hb (qA (h1 k (by omega)) (qD hc (qA h2 (qD rfl (qA (h3 k (by omega)) rfl))))))
    |false=>
     rw [if_neg (by simp)]
     have e:(qY [45] p).2.2=p.2:=by unfold qY;split<;>rfl
     obtain ⟨n2,h2⟩:=qFH f (.at deep) (qY [45] p).2 ⟨by omega,by rw [e];exact hb⟩ (by show 0≤deep∧deep≤400;omega) (qCl hg) trivial
     refine ⟨n1+n2+1,fun n hn=>?_⟩
     obtain ⟨k,rfl,hm⟩:=up1 hn
     exact qO (decide_eq_false hd) (qO hb (qA (h1 k (by omega)) (qO hc (qA (h2 k (by omega)) rfl))))
 |f+1,.at deep,(r0,b,l),ha,hj,hg,_=>by
  obtain ⟨ha,hb⟩:=ha
  replace ha:20*(tb r0).length+3≤f+1:=ha
  replace hb:b=false:=hb
  subst hb
  replace hj:0≤deep∧deep≤400:=hj
  have hn60:l.length≤60:=hg.n
  have hr1:r0.length≤1000:=hg.r
  have ht:=q9 r0
  have ett:=qCW r0
  have eit:=qU1 [40] (r0,false,l)
  obtain ⟨n1,h1⟩:=qHY r0 l.length false (l.map qW)
  have wdec:∀op,qGF (wd (tb r0)) 1 10=some op→(wr (tb r0)).length<(tb r0).length:=fun op h=>by
   have e:=congrArg List.length (wdr (tb r0))
   simp only [List.length_append] at e
   have:wd (tb r0)≠ []:=fun e=>by
    rw [e,show qGF [] 1 10=none by decide+kernel] at h
    cases h
   have:=List.length_pos_iff.2 this
   omega
  unfold pP
  simp only at eit⊢
  rw [←eit]
  generalize tb r0=r at*
  have hw:=qG8 r
  have wordEv:∃n0,∀n,n0≤n→(qUO (qR n) n deep (BR (wd r)) (qFd (wr r,false,l))).run=some (qHF (qTi f deep (wd r) (wr r,false,l))):=by
   have:=qTj f deep r (wr r,false,l) (by omega) hn60 (by
    rw [ett]
    intro op h
    exact qFH f (.call op deep) (wr r,false,l) (by have:=wdec op h;have:=q9 (wr r);show 20*(tb (wr r)).length+9≤f;omega) hj ⟨by simp only;omega,hn60,hg.s⟩ trivial)
   rwa [ett] at this
  obtain ⟨n9,h9⟩:=wordEv
  obtain ⟨n8,h8⟩:=qRc (r,false,l) (by simp only;omega)
  simp only [ett] at h8
  by_cases hq:r.head?=some 34
  ·rw [if_pos hq]
   obtain ⟨t,rfl⟩:=qKY hq
   simp only [List.length_cons] at ht
   obtain ⟨n2,h2⟩:=qTK t false l (by omega) hn60
   refine ⟨n1+n2+3,fun n hn=>?_⟩
   obtain ⟨k,rfl,hm⟩:=up3 hn
   refine qA (h1 (k+2) (by omega)) (qA (qBY k (34::t) [34]) (qD rfl (qA (h2 (k+2) (by omega)) ?_)))
   rw [qC]
   simp only [List.tail_cons]
   all_goals (cases qCB [] t<;>rfl)
  ·rw [if_neg hq]
   have p34:List.isPrefixOf [34] r=false:=by rw [Bool.eq_false_iff];exact fun e=>hq ((qEy 34 r).1 e)
   by_cases hh:r.head?=some 35
   ·have p35:List.isPrefixOf [35] r=true:=(qEy 35 r).2 hh
    simp only [if_pos hh]
    obtain ⟨n2,h2⟩:=qUZ deep r false l hn60
    cases he:qJI r 1 5 with
    |some e=>
     simp only
     refine ⟨n1+n2+3,fun n hn=>?_⟩
     obtain ⟨k,rfl,hm⟩:=up3 hn
     have h2:=h2 (k+2) (by omega) (k+2) (by omega)
     rw [he] at h2
     exact qA (h1 (k+2) (by omega)) (qA (qBY k r [34]) (qO p34 (qA (qBY k r [35]) (qD p35 (qA h2 rfl)))))
    |none=>
     simp only
     rw [if_neg (fun h=>h.1 hh)]
     refine ⟨n1+n2+n8+n9+3,fun n hn=>?_⟩
     obtain ⟨k,rfl,hm⟩:=up3 hn
     have h2:=h2 (k+2) (by omega) (k+2) (by omega)
     rw [he] at h2
     exact qA (h1 (k+2) (by omega)) (qA (qBY k r [34]) (qO p34 (qA (qBY k r [35]) (qD p35 (qA h2 (qA (h8 (k+2) (by omega)) (h9 (k+2) (by omega))))))))
   ·have p35:List.isPrefixOf [35] r=false:=by rw [Bool.eq_false_iff];exact fun e=>hh ((qEy 35 r).1 e)
    simp only [if_neg hh]
    obtain ⟨n2,h2⟩:=qGG [40] (r,false,l)
    cases hc:(qY [40] (r,false,l)).1 with
    |true=>
     rw [if_pos ⟨hh,rfl⟩]
     have t2:=qDn (by simp) hc
     have t3:=q9 (qY [40] (r,false,l)).2.1
     simp only [ett] at t2
     have g1:Gd (r,false,l):=⟨by simp only;omega,hn60,hg.s⟩
     obtain ⟨n3,h3⟩:=qFH f (.bin 1 (deep+1)) (qY [40] (r,false,l)).2 (by show 20*_+6≤f;omega) (by show 0≤deep+1∧deep+1≤401;omega) (qCl g1) trivial
     generalize pP f (.bin 1 (deep+1)) (qY [40] (r,false,l)).2=q at h3⊢
     obtain ⟨n4,h4⟩:=qGG [41] q.2
     refine ⟨n1+n2+n3+n4+3,fun n hn=>?_⟩
     obtain ⟨k,rfl,hm⟩:=up3 hn
     have w1:IntKind.i64.wrap (deep+1)=deep+1:=qU (by omega)
     have h3:=h3 (k+2) (by omega)
     rw [←w1] at h3
     cases hbb:q.2.2.1 with
     |true=>
      refine qA (h1 (k+2) (by omega)) (qA (qBY k r [34]) (qO p34 (qA (qBY k r [35]) (qO p35 (qA (h2 (k+2) (by omega)) (qD hc (qA h3 (qD hbb ?_))))))))
      rw [qC]
      unfold qCQ
      rw [if_pos hbb]
      simp only [qHF,hbb]
     |false=>
      refine qA (h1 (k+2) (by omega)) (qA (qBY k r [34]) (qO p34 (qA (qBY k r [35]) (qO p35 (qA (h2 (k+2) (by omega)) (qD hc (qA h3 (qO hbb (qA (h4 (k+2) (by omega)) ?_)))))))))
      rw [qC]
      exact congrArg (fun x=>some (q.1,x)) (qMb [41] hbb)
    |false=>
     rw [if_neg (fun h=>by simp at h)]
     have e:(qY [40] (r,false,l)).2=(r,false,l):=by
      unfold qY at hc⊢
      split at hc
      ·cases hc
      ·rename_i hne
       rw [if_neg hne];simp only [ett]
     rw [hc,e] at h2
     refine ⟨n1+n2+n8+n9+3,fun n hn=>?_⟩
     obtain ⟨k,rfl,hm⟩:=up3 hn
     exact qA (h1 (k+2) (by omega)) (qA (qBY k r [34]) (qO p34 (qA (qBY k r [35]) (qO p35 (qA (h2 (k+2) (by omega)) (qO rfl (qA (h8 (k+2) (by omega)) (h9 (k+2) (by omega)))))))))
 |f+1,.call op deep,p,ha,hj,hg,_=>by
  replace ha:20*(tb p.1).length+9≤f+1:=ha
  unfold pP
  have gm:=qKX (w:= [40]) hg
  have rm:=qKU [40] p
  obtain ⟨ks,p',e1,e2,e3,n2,h2⟩:=qFH f (.args op deep []) (qCQ [40] p) (by show 20*_+8≤f;omega) hj gm.1 (by have:=gm.1.r;show 0+_≤_;omega)
  obtain ⟨n1,h1⟩:=qGG [40] p
  obtain ⟨n3,h3⟩:=qNc (ndK 6 op ks) p' e2.n
  rw [e1]
  refine ⟨n1+n2+n3+1,fun n hn=>?_⟩
  obtain ⟨k,rfl,hm⟩:=up1 hn
  have h2:=h2 k (by omega) k (by omega)
  by_cases hb:p.2.1=true
  ·have em:qFd (qCQ [40] p)=(BR p.1,p.2.2.length,true,p.2.2.map qW):=by
    unfold qCQ;rw [if_pos hb];simp only [qFd,hb]
   rw [em] at h2
   exact qD hb (qA h2 (qD (decide_eq_true (by simp)) (qA (h3 k (by omega)) rfl)))
  ·have hb:p.2.1=false:=by rw [Bool.eq_false_iff];exact hb
   have em:=qMb [40] hb
   rw [←em] at h2
   exact qO hb (qA (h1 k (by omega)) (qA h2 (qD (decide_eq_true (by simp)) (qA (h3 k (by omega)) rfl))))
 |f+1,.args op deep kids,p,ha,hj,hg,hk=>by
  replace ha:20*(tb p.1).length+8≤f+1:=ha
  replace hk:kids.length+p.1.length≤1500:=hk
  replace hj:0≤deep∧deep≤400:=hj
  unfold pP
  cases hb:p.2.1 with
  |true=>
   rw [if_pos rfl]
   refine ⟨kids,p,rfl,hg,by omega,1,fun n hn M hM=>?_⟩
   obtain ⟨M,rfl,hM⟩:=up1 hM
   exact qP (qO (by show (!p.2.1)=false;rw [hb];rfl) rfl)
  |false=>
   rw [if_neg (by simp)]
   simp only
   obtain ⟨x,hx,n1,h1⟩:=qUG p hg.r
   have ga:=qS1 hg
   have ra:=qIR p
   have tl0:=q9 p.1
   have nb:∀k:Nat,(!(qFd p).2.2.1)=true:=fun _=>by show (!p.2.1)=true;rw [hb];rfl
   cases hi:(qBE p).1 with
   |some y=>
    have hxy:=hx y hi
    subst hxy
    obtain ⟨n3,h3⟩:=qNc x (qBE p).2 ga.1.n
    have eo:qET (qBE p) (fun p=>pP f (.bin 1 (deep+1)) p)=qDT x (qBE p).2:=by unfold qET;rw [hi]
    rw [eo]
    have gq:Gd (qDT x (qBE p).2).2∧(qDT x (qBE p).2).2.1.length≤p.1.length∧(tb (qDT x (qBE p).2).2.1).length≤(tb p.1).length:=⟨qG9 ga.1 (ga.2.2 x hi),by rw [qAy];exact ga.2.1,by rw [qAy];exact ra⟩
    have n2:=0
    generalize qDT x (qBE p).2=Q at h3 gq⊢
    obtain ⟨n4,h4⟩:=qGG [44] Q.2
    cases hc:(qY [44] Q.2).1 with
    |true=>
     obtain ⟨ks,p',e1,e2,e3,n6,h6⟩:=qFH f (.args op deep (kids++ [Q.1])) (qY [44] Q.2).2 (by have:=qDn (by simp) hc;show 20*(tb (qY [44] Q.2).2.1).length+8≤f;have:=q9 (qY [44] Q.2).2.1;omega) ⟨hj.1,hj.2⟩ (qCl gq.1) (by have:=qDn (by simp) hc;have:=q9 Q.2.1;show (kids++ [Q.1]).length+_≤_;simp;omega)
     refine ⟨ks,p',by rw [if_pos rfl];exact e1,e2,e3,n1+n2+n3+n4+n6+1,fun k hn M hM=>?_⟩
     obtain ⟨M,rfl,hM⟩:=up1 hM
     rw [qT (v':=(op,deep,(kids++ [Q.1]).length,(kids++ [Q.1]).map qAz,qFd (qY [44] Q.2).2)) (by
      have h1:=h1 k (by omega)
      rw [hi] at h1
      refine qD (nb 0) (qA h1 (qD rfl (qA (h3 k (by omega)) (qD rfl (qD (decide_eq_true ⟨by simp,by decide,by decide,by simp;omega,rfl⟩) (qA (h4 k (by omega)) ?_))))))
      refine qO (by simp only;rw [hc];rfl) ?_
      rw [qC]
      simp only [List.length_append,List.map_append]
      rfl)]
     exact h6 k (by omega) M (by omega)
    |false=>
     obtain ⟨n5,h5⟩:=qGG [41] (qY [44] Q.2).2
     refine ⟨kids++ [Q.1],qCQ [41] (qY [44] Q.2).2,by rw [if_neg (by simp)],(qKX (qCl gq.1)).1,by simp;omega,n1+n2+n3+n4+n5+1,fun k hn M hM=>?_⟩
     obtain ⟨M,rfl,hM⟩:=up1 hM
     cases hbb:(qY [44] Q.2).2.2.1 with
     |true=>
      rw [qP (r:=(op,(kids++ [Q.1]).length,(kids++ [Q.1]).map qAz,qFd (qCQ [41] (qY [44] Q.2).2))) (by
       have h1:=h1 k (by omega)
       rw [hi] at h1
       refine qD (nb 0) (qA h1 (qD rfl (qA (h3 k (by omega)) (qD rfl (qD (decide_eq_true ⟨by simp,by decide,by decide,by simp;omega,rfl⟩) (qA (h4 k (by omega)) ?_))))))
       refine qD (by simp only;rw [hc];rfl) (qD hbb ?_)
       rw [qC]
       unfold qCQ
       rw [if_pos hbb]
       simp only [List.length_append,List.map_append,qFd,hbb]
       rfl)]
     |false=>
      rw [qP (r:=(op,(kids++ [Q.1]).length,(kids++ [Q.1]).map qAz,qFd (qCQ [41] (qY [44] Q.2).2))) (by
       have h1:=h1 k (by omega)
       rw [hi] at h1
       refine qD (nb 0) (qA h1 (qD rfl (qA (h3 k (by omega)) (qD rfl (qD (decide_eq_true ⟨by simp,by decide,by decide,by simp;omega,rfl⟩) (qA (h4 k (by omega)) ?_))))))
       refine qD (by simp only;rw [hc];rfl) (qO hbb (qA (h5 k (by omega)) ?_))
       rw [qC]
       simp only [List.length_append,List.map_append]
       exact congrArg (fun x=>some (Sum.inr (op,kids.length+1,kids.map qAz++ [[PV.i IntKind.i64 Q.1]],x))) (qMb [41] hbb))]
   |none=>
    have eo:qET (qBE p) (fun p=>pP f (.bin 1 (deep+1)) p)=pP f (.bin 1 (deep+1)) (qBE p).2:=by unfold qET;rw [hi]
    rw [eo]
    obtain ⟨n3,h3⟩:=qFH f (.bin 1 (deep+1)) (qBE p).2 (by show 20*_+6≤f;omega) (by show 0≤deep+1∧deep+1≤401;omega) ga.1 trivial
    have g3:=qE4 f (.bin 1 (deep+1)) (qBE p).2 ga.1 trivial
    have l3:=qDo f (.bin 1 (deep+1)) (qBE p).2
    have w1:IntKind.i64.wrap (deep+1)=deep+1:=qU (by omega)
    have gq:Gd (pP f (.bin 1 (deep+1)) (qBE p).2).2∧(pP f (.bin 1 (deep+1)) (qBE p).2).2.1.length≤p.1.length∧(tb (pP f (.bin 1 (deep+1)) (qBE p).2).2.1).length≤(tb p.1).length:=⟨g3.1,Nat.le_trans g3.2 ga.2.1,Nat.le_trans l3 ra⟩
    rw [←w1] at h3
    have n2:=0
    rw [w1] at h3
    generalize pP f (.bin 1 (deep+1)) (qBE p).2=Q at h3 gq⊢
    obtain ⟨n4,h4⟩:=qGG [44] Q.2
    cases hc:(qY [44] Q.2).1 with
    |true=>
     obtain ⟨ks,p',e1,e2,e3,n6,h6⟩:=qFH f (.args op deep (kids++ [Q.1])) (qY [44] Q.2).2 (by have:=qDn (by simp) hc;show 20*(tb (qY [44] Q.2).2.1).length+8≤f;have:=q9 (qY [44] Q.2).2.1;omega) ⟨hj.1,hj.2⟩ (qCl gq.1) (by have:=qDn (by simp) hc;have:=q9 Q.2.1;show (kids++ [Q.1]).length+_≤_;simp;omega)
     refine ⟨ks,p',by rw [if_pos rfl];exact e1,e2,e3,n1+n2+n3+n4+n6+1,fun k hn M hM=>?_⟩
     obtain ⟨M,rfl,hM⟩:=up1 hM
     rw [qT (v':=(op,deep,(kids++ [Q.1]).length,(kids++ [Q.1]).map qAz,qFd (qY [44] Q.2).2)) (by
      have h1:=h1 k (by omega)
      rw [hi] at h1
      have h3:=h3 k (by omega)
      rw [←w1] at h3
      refine qD (nb 0) (qA h1 (qO rfl (qA h3 (qD rfl (qD (decide_eq_true ⟨by simp,by decide,by decide,by simp;omega,rfl⟩) (qA (h4 k (by omega)) ?_))))))
      refine qO (by simp only;rw [hc];rfl) ?_
      rw [qC]
      simp only [List.length_append,List.map_append]
      rfl)]
     exact h6 k (by omega) M (by omega)
    |false=>
     obtain ⟨n5,h5⟩:=qGG [41] (qY [44] Q.2).2
     refine ⟨kids++ [Q.1],qCQ [41] (qY [44] Q.2).2,by rw [if_neg (by simp)],(qKX (qCl gq.1)).1,by simp;omega,n1+n2+n3+n4+n5+1,fun k hn M hM=>?_⟩
     obtain ⟨M,rfl,hM⟩:=up1 hM
     cases hbb:(qY [44] Q.2).2.2.1 with
     |true=>
      rw [qP (r:=(op,(kids++ [Q.1]).length,(kids++ [Q.1]).map qAz,qFd (qCQ [41] (qY [44] Q.2).2))) (by
       have h1:=h1 k (by omega)
       rw [hi] at h1
       have h3:=h3 k (by omega)
       rw [←w1] at h3
       refine qD (nb 0) (qA h1 (qO rfl (qA h3 (qD rfl (qD (decide_eq_true ⟨by simp,by decide,by decide,by simp;omega,rfl⟩) (qA (h4 k (by omega)) ?_))))))
       refine qD (by simp only;rw [hc];rfl) (qD hbb ?_)
       rw [qC]
       unfold qCQ
       rw [if_pos hbb]
       simp only [List.length_append,List.map_append,qFd,hbb]
       rfl)]
     |false=>
      rw [qP (r:=(op,(kids++ [Q.1]).length,(kids++ [Q.1]).map qAz,qFd (qCQ [41] (qY [44] Q.2).2))) (by
       have h1:=h1 k (by omega)
       rw [hi] at h1
       have h3:=h3 k (by omega)
       rw [←w1] at h3
       refine qD (nb 0) (qA h1 (qO rfl (qA h3 (qD rfl (qD (decide_eq_true ⟨by simp,by decide,by decide,by simp;omega,rfl⟩) (qA (h4 k (by omega)) ?_))))))
       refine qD (by simp only;rw [hc];rfl) (qO hbb (qA (h5 k (by omega)) ?_))
       rw [qC]
       simp only [List.length_append,List.map_append]
       exact congrArg (fun x=>some (Sum.inr (op,kids.length+1,kids.map qAz++ [[PV.i IntKind.i64 Q.1]],x))) (qMb [41] hbb))]
def pos (s r:List UInt8):Int:=((s.length-r.length:Nat):Int)
def qCt (s:List UInt8) (q:PS):ByteArray×Int×Bool×Nat×List (List PV):=(BR s,pos s q.1,q.2.1,q.2.2.length,q.2.2.map qW)
def qCX (s:List UInt8) (r:Int×PS):Int×ByteArray×Int×Bool×Nat×List (List PV):=(r.1,qCt s r.2)
theorem qSI {s r:List UInt8} (h:r<:+s):s.drop (s.length-r.length)=r:=by
 obtain ⟨t,rfl⟩:=h
 simp
theorem qS2 (s r:List UInt8):(pos s r).toNat=s.length-r.length:=by unfold pos;simp
theorem qLG (s r:List UInt8):0≤pos s r:=by unfold pos;omega
theorem qDN {s r:List UInt8} (h:r<:+s):r.length≤s.length:=h.length_le
theorem qKZ {s r t:List UInt8} {k:Nat} (h:r<:+s) (e:t=r.drop k) (hk:k≤r.length):pos s r+(k:Int)=pos s t:=by
 subst e
 have:=qDN h
 unfold pos
 simp only [List.length_drop]
 omega
theorem qMc {s r:List UInt8} (h:r<:+s):(BR s).toList[(pos s r).toNat]?=r.head?:=by
 rw [qAP,qS2,←List.head?_drop,qSI h]
theorem qSe {s r:List UInt8} (h:r<:+s):tb r<:+s:=(List.dropWhile_suffix _).trans h
theorem qP3 {s t:List UInt8} {c:UInt8} (h:(c::t)<:+s):t<:+s:=(List.suffix_cons c t).trans h
theorem qOy {s r:List UInt8} {k:Nat} (h:r<:+s):(BR s).extract (pos s r).toNat (pos s r+(k:Int)).toNat=BR (r.take k):=by
 rw [qFG,qS2,show (pos s r+(k:Int)).toNat=(s.length-r.length)+k by unfold pos;omega,←List.take_drop,qSI h]
theorem qAt {b:Bool} (h:b=true):(!b)=false:=by rw [h];rfl
theorem qCm {b:Bool} (h:b=false):(!b)=true:=by rw [h];rfl
theorem qQ6 {s:List UInt8} (hs:s.length≤1000) (n:Nat) (b:Bool) (m:Nat) (rows:List (List PV)):∀(r:List UInt8) (M:Nat),r<:+s→r.length+1≤M→zD (qDd n) M (BR s,pos s r,b,m,rows)=some (BR s,pos s (tb r),b,m,rows)
 |r,0,_,h=>by omega
 | [],M+1,h,_=>by
  exact qP (qO (decide_eq_false (show ¬pos s []<((BR s).size:Int) by rw [qb];unfold pos;simp)) rfl)
 |c::t,M+1,h,hM=>by
  have hl:=qDN h
  simp only [List.length_cons] at hl hM
  have g:=qMc h
  have p1:pos s (c::t)<((BR s).size:Int):=by rw [qb];unfold pos;simp only [List.length_cons];omega
  by_cases hc:c=32
  ·subst hc
   have w1:IntKind.i64.wrap (pos s (32::t)+1)=pos s t:=by
    have:=qKZ (k:=1) h (t:=t) rfl (by simp)
    rw [qU (by unfold pos;omega)];exact this
   rw [qT (v':=(BR s,pos s t,b,m,rows)) (by
    refine qD (decide_eq_true p1) (qD (decide_eq_true (qLG _ _)) (qA g (qD rfl ?_)))
    rw [qC,w1])]
   have e:tb (32::t)=tb t:=by simp [tb]
   rw [e]
   exact qQ6 hs n b m rows t M (qP3 h) (by omega)
  ·have e:tb (c::t)=c::t:=by simp [tb,hc]
   rw [e]
   refine qP (qD (decide_eq_true p1) (qD (decide_eq_true (qLG _ _)) (qA g (qO ?_ rfl))))
   rw [beq_eq_false_iff_ne]
   intro e
   exact hc (UInt8.toNat_inj.1 (show c.toNat=32 by omega))
theorem qRf {s:List UInt8} (hs:s.length≤1000) (q:PS) (h:q.1<:+s):Ev (qBd · (BR s) (pos s q.1) q.2.1 q.2.2.length (q.2.2.map qW)) (qCt s (tb q.1,q.2)):=by
 have hl:=qDN h
 refine ⟨q.1.length+2,fun n hn=>?_⟩
 obtain ⟨k,rfl,hm⟩:=up1 hn
 exact qA (qQ6 hs k q.2.1 q.2.2.length (q.2.2.map qW) q.1 k h (by omega)) rfl
theorem qHB {s:List UInt8} (hs:s.length≤1000) (w:List UInt8) (hw:w.length≤1000) (q:PS) (h:q.1<:+s):Ev (qAE · (BR w) (BR s) (pos s q.1) q.2.1 q.2.2.length (q.2.2.map qW)) ((sIs w q).1,qCt s (sIs w q).2):=by
 obtain ⟨n1,h1⟩:=qRf hs q h
 have ht:=qSe h
 have hl:=qDN ht
 refine ⟨n1+1,fun n hn=>?_⟩
 obtain ⟨k,rfl,hm⟩:=up1 hn
 have w1:IntKind.i64.wrap (pos s (tb q.1)+((BR w).size:Int))=pos s (tb q.1)+(w.length:Int):=by rw [qb];exact qU (by unfold pos;omega)
 unfold sIs
 cases hb:q.2.1 with
 |true=>
  rw [if_pos rfl]
  have h1:=h1 k (by omega)
  rw [hb] at h1
  refine qA h1 (qD hb ?_)
  rw [qC]
 |false=>
  have h1:=h1 k (by omega)
  rw [hb] at h1
  rw [if_neg (by simp)]
  by_cases hf:pos s (tb q.1)+(w.length:Int)>(s.length:Int)
  ·have hn:¬w.isPrefixOf (tb q.1)=true:=by
    intro e
    have:=(List.isPrefixOf_iff_prefix.1 e).length_le
    unfold pos at hf
    omega
   rw [if_neg hn]
   refine qA h1 (qO hb (qD (decide_eq_true (show IntKind.i64.wrap (pos s (tb q.1)+((BR w).size:Int))>((BR s).size:Int) by rw [w1,qb];exact hf)) ?_))
   rw [qC]
  ·have hx:=qOy (k:=w.length) ht
   have hwl:w.length≤(tb q.1).length:=by unfold pos at hf;omega
   have cmp:((BR s).extract (pos s (tb q.1)).toNat (IntKind.i64.wrap (pos s (tb q.1)+((BR w).size:Int))).toNat).toList==(BR w).toList↔w.isPrefixOf (tb q.1)=true:=by
    rw [w1,hx,qAP,qAP,beq_iff_eq,List.isPrefixOf_iff_prefix,List.prefix_iff_eq_take]
    exact ⟨fun e=>e.symm,fun e=>e.symm⟩
   refine qA h1 (qO hb (qO (decide_eq_false (show ¬IntKind.i64.wrap (pos s (tb q.1)+((BR w).size:Int))>((BR s).size:Int) by rw [w1,qb];exact hf)) (qD (decide_eq_true (show 0≤pos s (tb q.1)∧pos s (tb q.1)≤IntKind.i64.wrap (pos s (tb q.1)+((BR w).size:Int))∧IntKind.i64.wrap (pos s (tb q.1)+((BR w).size:Int))≤((BR s).size:Int) by rw [w1,qb];exact ⟨qLG _ _,by omega,by omega⟩)) ?_)))
   by_cases hp:w.isPrefixOf (tb q.1)=true
   ·rw [if_pos hp]
    refine qO (qAt (cmp.2 hp)) ?_
    rw [qC]
    show some (true,BR s,IntKind.i64.wrap (pos s (tb q.1)+((BR w).size:Int)),q.2.1,q.2.2.length,q.2.2.map qW)=_
    rw [w1,qKZ ht rfl hwl]
    rfl
   ·rw [if_neg hp]
    refine qD (qCm (by rw [Bool.eq_false_iff];exact fun e=>hp (cmp.1 e))) ?_
    rw [qC]
theorem qKN {s:List UInt8} (x:Nd) (q:PS) (h:q.2.2.length≤5000) (hx:qOk x):Ev (qr · x.1 x.2.1 x.2.2.1 x.2.2.2.1 x.2.2.2.2.1 x.2.2.2.2.2.1 x.2.2.2.2.2.2.1 x.2.2.2.2.2.2.2.1 x.2.2.2.2.2.2.2.2.1 x.2.2.2.2.2.2.2.2.2.1 x.2.2.2.2.2.2.2.2.2.2.1 x.2.2.2.2.2.2.2.2.2.2.2.1 x.2.2.2.2.2.2.2.2.2.2.2.2.1 ((kd x).map qAz) (BR s) (pos s q.1) q.2.1 q.2.2.length (q.2.2.map qW)) (qCX s (qEA x q)):=by
 obtain ⟨n1,h1⟩:=qIO x (by have:=hx.2;omega)
 refine ⟨n1+1,fun n hn=>?_⟩
 obtain ⟨k,rfl,hm⟩:=up1 hn
 have w2:IntKind.i64.wrap ((((q.2.2.length+1):Nat):Int)-1)=(q.2.2.length:Int):=by rw [qU (by omega)];omega
 refine qD rfl (qD (decide_eq_true ⟨by simp,by decide,by decide,by simp;omega,rfl⟩) ?_)
 unfold qEA
 by_cases h6:60<q.2.2.length+1
 ·rw [if_pos (.inl h6)]
  refine qD (decide_eq_true (by omega)) ?_
  rw [qC,w2]
  simp only [qCX,qCt,List.map_append,List.length_append]
  rfl
 ·refine qO (decide_eq_false (by omega)) (qA (h1 k (by omega)) ?_)
  cases ho:qE3 x with
  |true=>
   rw [if_neg (fun e=>e.elim h6 (by simp))]
   refine qO rfl ?_
   rw [qC,w2]
   simp only [qCX,qCt,List.map_append,List.length_append]
   rfl
  |false=>
   rw [if_pos (.inr rfl)]
   refine qD rfl ?_
   rw [qC,w2]
   simp only [qCX,qCt,List.map_append,List.length_append]
   rfl
theorem qNu {s:List UInt8} (hs:s.length≤1000) (n:Nat) (at0:Int) (b:Bool) (m:Nat) (rows:List (List PV)):∀(r:List UInt8) (M:Nat),r<:+s→r.length+1≤M→zD (qB5 n) M (at0,BR s,pos s r,b,m,rows)=some (at0,BR s,pos s (wr r),b,m,rows)
 |r,0,_,h=>by omega
 | [],M+1,h,_=>by
  exact qP (qO (decide_eq_false (show ¬pos s []<((BR s).size:Int) by rw [qb];unfold pos;simp)) rfl)
 |c::t,M+1,h,hM=>by
  have hl:=qDN h
  simp only [List.length_cons] at hl hM
  have g:=qMc h
  have p1:pos s (c::t)<((BR s).size:Int):=by rw [qb];unfold pos;simp only [List.length_cons];omega
  have p0:decide (0≤pos s (c::t))=true:=decide_eq_true (qLG _ _)
  have w1:IntKind.i64.wrap (pos s (c::t)+1)=pos s t:=by
   have:=qKZ (k:=1) h (t:=t) rfl (by simp)
   rw [qU (by unfold pos;omega)];exact this
  have yes:(wch c=true)→(qB5 n (at0,BR s,pos s (c::t),b,m,rows)).run=some (.inl (at0,BR s,pos s t,b,m,rows)):=fun hc=>by
   have fin:some (Sum.inl (at0,BR s,IntKind.i64.wrap (pos s (c::t)+1),b,m,rows))=(some (Sum.inl (at0,BR s,pos s t,b,m,rows)):Option (_⊕(Int×ByteArray×Int×Bool×Nat×List (List PV)))):=by rw [w1]
   refine qD (decide_eq_true p1) (qD p0 (qA g ?_))
   by_cases a1:(c.toNat:Int)≥65
   ·refine qD (decide_eq_true a1) (qD p0 (qA g ?_))
    by_cases a2:(c.toNat:Int)≤90
    ·exact qD (decide_eq_true a2) fin
    ·refine qO (decide_eq_false a2) (qD p0 (qA g ?_))
     by_cases a3:(c.toNat:Int)≥48
     ·refine qD (decide_eq_true a3) (qD p0 (qA g ?_))
      by_cases a4:(c.toNat:Int)≤57
      ·exact qD (decide_eq_true a4) fin
      ·refine qO (decide_eq_false a4) (qD p0 (qA g ?_))
       have a5:c=36:=by
        unfold wch at hc
        simp only [Bool.or_eq_true,Bool.and_eq_true,decide_eq_true_eq,beq_iff_eq] at hc
        rcases hc with hc|hc|hc
        ·omega
        ·omega
        ·exact hc
       exact qD (by rw [a5];rfl) fin
     ·omega
   ·refine qO (decide_eq_false a1) (qD p0 (qA g ?_))
    by_cases a3:(c.toNat:Int)≥48
    ·refine qD (decide_eq_true a3) (qD p0 (qA g ?_))
     by_cases a4:(c.toNat:Int)≤57
     ·exact qD (decide_eq_true a4) fin
     ·refine qO (decide_eq_false a4) (qD p0 (qA g ?_))
      have a5:c=36:=by
       unfold wch at hc
       simp only [Bool.or_eq_true,Bool.and_eq_true,decide_eq_true_eq,beq_iff_eq] at hc
       rcases hc with hc|hc|hc
       ·omega
       ·omega
       ·exact hc
      exact qD (by rw [a5];rfl) fin
    ·refine qO (decide_eq_false a3) (qD p0 (qA g ?_))
     have a5:c=36:=by
      unfold wch at hc
      simp only [Bool.or_eq_true,Bool.and_eq_true,decide_eq_true_eq,beq_iff_eq] at hc
      rcases hc with hc|hc|hc
      ·omega
      ·omega
      ·exact hc
     exact qD (by rw [a5];rfl) fin
  have no:(wch c=false)→(qB5 n (at0,BR s,pos s (c::t),b,m,rows)).run=some (.inr (at0,BR s,pos s (c::t),b,m,rows)):=fun hc=>by
   have hc':¬((65≤c.toNat∧c.toNat≤90)∨(48≤c.toNat∧c.toNat≤57)∨c=36):=fun e=>by
    have:wch c=true:=by
     unfold wch
     simp only [Bool.or_eq_true,Bool.and_eq_true,decide_eq_true_eq,beq_iff_eq]
     exact e
    rw [hc] at this;cases this
   have a5:((c.toNat:Int)==36)=false:=by
    rw [beq_eq_false_iff_ne];intro e
    exact hc' (.inr (.inr (UInt8.toNat_inj.1 (show c.toNat=36 by omega))))
   refine qD (decide_eq_true p1) (qD p0 (qA g ?_))
   by_cases a1:(c.toNat:Int)≥65
   ·have a2:¬(c.toNat:Int)≤90:=fun e=>hc' (.inl ⟨by omega,by omega⟩)
    refine qD (decide_eq_true a1) (qD p0 (qA g (qO (decide_eq_false a2) ?_)))
    refine qD p0 (qA g (qD (decide_eq_true (show (c.toNat:Int)≥48 by omega)) ?_))
    exact qD p0 (qA g (qO (decide_eq_false (show ¬(c.toNat:Int)≤57 by omega)) (qD p0 (qA g (qO a5 rfl)))))
   ·refine qO (decide_eq_false a1) (qD p0 (qA g ?_))
    by_cases a3:(c.toNat:Int)≥48
    ·have a4:¬(c.toNat:Int)≤57:=fun e=>hc' (.inr (.inl ⟨by omega,by omega⟩))
     exact qD (decide_eq_true a3) (qD p0 (qA g (qO (decide_eq_false a4) (qD p0 (qA g (qO a5 rfl))))))
    ·exact qO (decide_eq_false a3) (qD p0 (qA g (qO a5 rfl)))
  cases hc:wch c with
  |true=>
   rw [qT (yes hc),show wr (c::t)=wr t by simp [wr,hc]]
   exact qNu hs n at0 b m rows t M (qP3 h) (by omega)
  |false=>
   rw [qP (no hc),show wr (c::t)=c::t by simp [wr,hc]]
theorem qP4 {s:List UInt8} (hs:s.length≤1000) (q:PS) (h:q.1<:+s):Ev (qC1 · (BR s) (pos s q.1) q.2.1 q.2.2.length (q.2.2.map qW)) (BR (wd q.1),qCt s (wr q.1,q.2)):=by
 have hl:=qDN h
 have hw:=qG8 q.1
 have hd:=congrArg List.length (wdr q.1)
 simp only [List.length_append] at hd
 refine ⟨q.1.length+2,fun n hn=>?_⟩
 obtain ⟨k,rfl,hm⟩:=up1 hn
 refine qA (qNu hs k (pos s q.1) q.2.1 q.2.2.length (q.2.2.map qW) q.1 k h (by omega)) (qD (decide_eq_true ⟨qLG _ _,by unfold pos;simp only;omega,by rw [qb];unfold pos;simp only;omega⟩) ?_)
 rw [qC]
 have e:(pos s (wr q.1))=pos s q.1+((wd q.1).length:Int):=by unfold pos;omega
 have x:=qOy (k:=(wd q.1).length) h
 rw [←e] at x
 have t:q.1.take (wd q.1).length=wd q.1:=by
  have:=List.take_left (l₁:=wd q.1) (l₂:=wr q.1)
  rwa [wdr] at this
 rw [t] at x
 show some ((BR s).extract (pos s q.1).toNat (pos s (wr q.1)).toNat,_)=_
 rw [x]
 rfl
theorem qHZ {s:List UInt8} (hs:s.length≤1000) {n:Nat} (b:Bool) (l:List Nd) (res:Int×PS):∀(k:Nat) (r acc:List UInt8) (M:Nat),r.length≤k→r<:+s→acc.length+r.length≤1001→r.length+1≤M→
  (∀w t,qCB acc r=some (w,t)→qr n 1 0 2 0 (BR w) 0 0 false false 0 0 false false [] (BR s) (pos s t) b l.length (l.map qW)=some (qCX s res))→
  zD (qDy n) M (BR acc,BR s,pos s r,b,l.length,l.map qW)=some (match qCB acc r with
   |none=> .inr (BR s,pos s [],b,l.length,l.map qW)
   |some _=> .inl (qCX s res))
 |k,r,acc,0,_,_,_,h,_=>by omega
 |k,[],acc,M+1,_,h,_,_,_=>by
  exact qP (qO (decide_eq_false (show ¬pos s []<((BR s).size:Int) by rw [qb];unfold pos;simp)) rfl)
 |0,c::t,acc,M+1,hk,_,_,_,_=>by simp at hk
 |k+1,c::t,acc,M+1,hk,h,ha,hM,hr=>by
  have hl:=qDN h
  simp only [List.length_cons] at hl hM hk ha
  have g:=qMc h
  have p1:pos s (c::t)<((BR s).size:Int):=by rw [qb];unfold pos;simp only [List.length_cons];omega
  have p0:decide (0≤pos s (c::t))=true:=decide_eq_true (qLG _ _)
  have pa:=qKZ (k:=1) h (t:=t) rfl (by simp)
  have w1:IntKind.i64.wrap (pos s (c::t)+1)=pos s t:=by rw [qU (by unfold pos;omega)];exact pa
  by_cases hc:c=34
  ·subst hc
   have ht:=qP3 h
   by_cases hq:t.head?=some 34
   ·obtain ⟨u,rfl⟩:=qKY hq
    simp only [List.length_cons] at hl hM hk ha
    rw [qUV] at hr⊢
    have g2:=qMc ht
    have pb:=qKZ (k:=1) ht (t:=u) rfl (by simp)
    have w2:IntKind.i64.wrap (pos s (34::u)+1)=pos s u:=by rw [qU (by unfold pos;omega)];exact pb
    rw [qT (v':=(BR (acc++ [34]),BR s,pos s u,b,l.length,l.map qW)) (by
     refine qD (decide_eq_true p1) (qD p0 (qA g (qO rfl (qO (decide_eq_false (show ¬IntKind.i64.wrap (pos s (34::34::u)+1)≥((BR s).size:Int) by rw [w1,qb];unfold pos;simp only [List.length_cons];omega)) (qD (decide_eq_true (show 0≤IntKind.i64.wrap (pos s (34::34::u)+1) by rw [w1];exact qLG _ _)) (qA (x:=34) (by show (BR s).toList[(IntKind.i64.wrap (pos s (34::34::u)+1)).toNat]?=_;rw [w1];exact g2) (qO rfl (qD (decide_eq_true (show (BR acc).size+1≤9223372036854775807 by rw [qb];omega)) ?_))))))))
     rw [qC]
     show some (Sum.inl (BR acc++BR [34],BR s,IntKind.i64.wrap (IntKind.i64.wrap (pos s (34::34::u)+1)+1),b,l.length,l.map qW))=_
     rw [w1,w2,qNa])]
    exact qHZ hs b l res k u _ M (by omega) (qP3 ht) (by simp;omega) (by omega) hr
   ·rw [qUW acc t hq] at hr⊢
    have hr:=hr acc t rfl
    refine qP (qD (decide_eq_true p1) (qD p0 (qA g (qO rfl ?_))))
    cases t with
    |nil=>
     refine qD (decide_eq_true (show IntKind.i64.wrap (pos s [34]+1)≥((BR s).size:Int) by rw [w1,qb];unfold pos;simp)) ?_
     rw [←w1] at hr
     exact qA hr rfl
    |cons d u=>
     have g2:=qMc ht
     have hd:¬d=34:=fun e=>hq (by rw [e];rfl)
     refine qO (decide_eq_false (show ¬IntKind.i64.wrap (pos s (34::d::u)+1)≥((BR s).size:Int) by rw [w1,qb];unfold pos;simp only [List.length_cons] at hl⊢;omega)) (qD (decide_eq_true (show 0≤IntKind.i64.wrap (pos s (34::d::u)+1) by rw [w1];exact qLG _ _)) (qA (x:=d) (by show (BR s).toList[(IntKind.i64.wrap (pos s (34::d::u)+1)).toNat]?=_;rw [w1];exact g2) (qD ?_ ?_)))
     ·rw [bne_iff_ne]
      intro e
      exact hd (UInt8.toNat_inj.1 (show d.toNat=34 by omega))
     ·rw [←w1] at hr
      exact qA hr rfl
  ·rw [qUX acc t hc] at hr⊢
   have hx:=qOy (k:=1) h
   rw [show ((1:Nat):Int)=1 from rfl] at hx pa
   have hx:(BR s).extract (pos s (c::t)).toNat (IntKind.i64.wrap (pos s (c::t)+1)).toNat=BR [c]:=by
    rw [w1,←pa];exact hx
   rw [qT (v':=(BR (acc++ [c]),BR s,pos s t,b,l.length,l.map qW)) (by
    refine qD (decide_eq_true p1) (qD p0 (qA g (qD ?_ (qD (decide_eq_true (show 0≤pos s (c::t)∧pos s (c::t)≤IntKind.i64.wrap (pos s (c::t)+1)∧IntKind.i64.wrap (pos s (c::t)+1)≤((BR s).size:Int) by rw [w1,qb];exact ⟨qLG _ _,by unfold pos;simp only [List.length_cons];omega,by unfold pos;omega⟩)) (qD (decide_eq_true (show (BR acc).size+((BR s).extract (pos s (c::t)).toNat (IntKind.i64.wrap (pos s (c::t)+1)).toNat).size≤9223372036854775807 by rw [hx,qb,qb];simp;omega)) ?_)))))
    ·rw [bne_iff_ne]
     intro e
     exact hc (UInt8.toNat_inj.1 (show c.toNat=34 by omega))
    ·rw [qC]
     show some (Sum.inl (BR acc++(BR s).extract (pos s (c::t)).toNat (IntKind.i64.wrap (pos s (c::t)+1)).toNat,BR s,IntKind.i64.wrap (pos s (c::t)+1),b,l.length,l.map qW))=_
     rw [hx,qNa,w1])]
   exact qHZ hs b l res k t _ M (by omega) (qP3 h) (by simp;omega) (by omega) hr
theorem qTk {s:List UInt8} (hs:s.length≤1000) (q:PS) (h:q.1<:+s) (hn:q.2.2.length≤5000):Ev (qE6 · (BR s) (pos s q.1) q.2.1 q.2.2.length (q.2.2.map qW)) (qCX s (match qCB [] q.1 with
  |none=>(0,[],true,q.2.2)
  |some (w,t)=>qEA (nd1 (2,0,BR w)) (t,q.2))):=by
 have hl:=qDN h
 cases hq:qCB [] q.1 with
 |none=>
  refine ⟨q.1.length+2,fun n hn=>?_⟩
  obtain ⟨k,rfl,hm⟩:=up1 hn
  have lp:=qHZ hs (n:=k) q.2.1 q.2.2 (0,q) q.1.length q.1 [] k (Nat.le_refl _) h (by simp;omega) (by omega) (fun w t e=>by rw [hq] at e;cases e)
  rw [hq] at lp
  exact qA lp rfl
 |some wt=>
  obtain ⟨w,t⟩:=wt
  have hw:=qHA _ _ _ (Nat.le_refl _) hq
  simp only [List.length_nil] at hw
  obtain ⟨n1,h1⟩:=qKN (s:=s) (nd1 (2,0,BR w)) (t,q.2) hn ⟨by simp [kd,nd1],by simp only [nd1,qb];omega⟩
  refine ⟨n1+q.1.length+2,fun n hn=>?_⟩
  obtain ⟨k,rfl,hm⟩:=up1 hn
  have lp:=qHZ hs (n:=k) q.2.1 q.2.2 (qEA (nd1 (2,0,BR w)) (t,q.2)) q.1.length q.1 [] k (Nat.le_refl _) h (by simp;omega) (by omega) (fun w' t' e=>by rw [hq] at e;cases e;exact h1 k (by omega))
  rw [hq] at lp
  exact qA lp rfl
theorem qRg:∀o∈qCE,(qAO o).toList≠ []∧(qAO o).size≤2:=by decide+kernel
theorem qTl:∀o∈qCE,1≤o∧o≤11:=by decide
def opR:List (List PV):=qCE.map qAz
def rsL (level:Int) (r:List UInt8):List Int→List UInt8
 | []=>r
 |o::l=>if lvl o=level then rsL level (tb r) l else rsL level r l
theorem qNd {s:List UInt8} (hs:s.length≤1000) {n:Nat} (level:Int) (R:List UInt8) (hR:tb R=R) (m:Nat) (rows:List (List PV))
  (h1:∀o∈qCE,qCL n o=some (lvl o)) (h2:∀o∈qCE,qCn n o=some (qAO o)):
  ∀(k i:Nat) (r:List UInt8) (M:Nat),i+k=11→k+1≤M→tb r=R→
  (∀r',tb r'=R→(r'=r∨r'=R)→∀o∈qCE,qAE n (qAO o) (BR s) (pos s r') false m rows=some (if (qAO o).toList.isPrefixOf R=true then (true,BR s,pos s (R.drop (qAO o).size),false,m,rows) else (false,BR s,pos s R,false,m,rows)))→
  zD (qEb n) M (level,11,(i:Int),opR,BR s,pos s r,false,m,rows)=some (if qDv level R (qCE.drop i)=0 then .inr (BR s,pos s (rsL level r (qCE.drop i)),false,m,rows) else .inl (qDv level R (qCE.drop i),BR s,pos s (R.drop (qAO (qDv level R (qCE.drop i))).size),false,m,rows))
 |k,i,r,0,_,h,_,_=>by omega
 |0,i,r,M+1,hk,_,_,_=>by
  have hi:i=11:=by omega
  subst hi
  exact qP (qO rfl rfl)
 |k+1,i,r,M+1,hk,hM,hr,h3=>by
  have hi:i<qCE.length:=by simp [qCE];omega
  obtain ⟨o,ho⟩:∃o,qCE[i]?=some o:=⟨_,List.getElem?_eq_getElem hi⟩
  have hin:=List.mem_of_getElem? ho
  have hR2:opR[i]?=some [PV.i .i64 o]:=by simp [opR,List.getElem?_map,ho,qAz]
  have hc:zC .i64 [PV.i .i64 o] 0=some o:=rfl
  have hd:qCE.drop i=o::qCE.drop (i+1):=qDV ho
  have w5:IntKind.i64.wrap ((i:Int)+1)=((i+1:Nat):Int):=by rw [qU (by omega)];omega
  have g1:decide ((i:Int)<((11:Nat):Int))=true:=decide_eq_true (by omega)
  have g2:decide (11=opR.length∧0≤(i:Int)∧(i:Int)<((11:Nat):Int))=true:=decide_eq_true ⟨rfl,by omega,by omega⟩
  have h0:o≠0:=by have:=qTl o hin;omega
  rw [hd]
  by_cases hl:lvl o=level
  ·have is:=h3 r hr (.inl rfl) o hin
   by_cases hp:(qAO o).toList.isPrefixOf R=true
   ·have e:qDv level R (o::qCE.drop (i+1))=o:=by unfold qDv;rw [if_pos ⟨hl,hp⟩]
    rw [e,if_neg h0]
    rw [if_pos hp] at is
    exact qP (qD g1 (qD g2 (qA hR2 (qA hc (qA (h1 o hin) (qD (beq_iff_eq.2 hl) (qD g2 (qA hR2 (qA hc (qA (h2 o hin) (qA is (qD rfl (qD g2 (qA hR2 (qA hc rfl)))))))))))))))
   ·have e:qDv level R (o::qCE.drop (i+1))=qDv level R (qCE.drop (i+1)):=by
     conv=>lhs;unfold qDv
     rw [if_neg (fun h=>hp h.2)]
    have e2:rsL level r (o::qCE.drop (i+1))=rsL level R (qCE.drop (i+1)):=by
     conv=>lhs;unfold rsL
     rw [if_pos hl,hr]
    rw [e,e2]
    rw [if_neg hp] at is
    rw [qT (v':=(level,11,((i+1:Nat):Int),opR,BR s,pos s R,false,m,rows)) (by
     refine qD g1 (qD g2 (qA hR2 (qA hc (qA (h1 o hin) (qD (beq_iff_eq.2 hl) (qD g2 (qA hR2 (qA hc (qA (h2 o hin) (qA is (qO rfl ?_)))))))))))
     rw [qC,w5])]
    exact qNd hs level R hR m rows h1 h2 k (i+1) R M (by omega) (by omega) hR (fun r' a b=>h3 r' a (.inr (b.elim id id)))
  ·have e:qDv level R (o::qCE.drop (i+1))=qDv level R (qCE.drop (i+1)):=by
    conv=>lhs;unfold qDv
    rw [if_neg (fun h=>hl h.1)]
   have e2:rsL level r (o::qCE.drop (i+1))=rsL level r (qCE.drop (i+1)):=by
    conv=>lhs;unfold rsL
    rw [if_neg hl]
   rw [e,e2]
   rw [qT (v':=(level,11,((i+1:Nat):Int),opR,BR s,pos s r,false,m,rows)) (by
    refine qD g1 (qD g2 (qA hR2 (qA hc (qA (h1 o hin) (qO (beq_eq_false_iff_ne.2 hl) ?_)))))
    rw [qC,w5])]
   exact qNd hs level R hR m rows h1 h2 k (i+1) r M (by omega) (by omega) hr h3
theorem qUd {level:Int} (h:1≤level∧level≤4) (r:List UInt8):rsL level r qCE=tb r:=by
 have c:level=1∨level=2∨level=3∨level=4:=by omega
 rcases c with rfl|rfl|rfl|rfl<;>simp [rsL,qCE,lvl,qCW]
theorem qUe {s:List UInt8} (hs:s.length≤1000) {level:Int} (hl:1≤level∧level≤4) (q:PS) (hb:q.2.1=false) (h:q.1<:+s):Ev (qEc · level (BR s) (pos s q.1) q.2.1 q.2.2.length (q.2.2.map qW)) (qCX s (sOp level q)):=by
 obtain ⟨n1,h1⟩:=qBc (F:=fun o n=>qCL n o) (f:=lvl) qCE (fun o _=>qJH o)
 obtain ⟨n2,h2⟩:=qBc (F:=fun o n=>qCn n o) (f:=qAO) qCE (fun o ho=>qKH o (qTl o ho))
 obtain ⟨n3,h3⟩:=qBc (F:=fun o n=>qAE n (qAO o) (BR s) (pos s q.1) q.2.1 q.2.2.length (q.2.2.map qW)) (f:=fun o=>((sIs (qAO o).toList q).1,qCt s (sIs (qAO o).toList q).2)) qCE (fun o ho=>by
  have:=qHB hs (qAO o).toList (by rw [qAQ];have:=(qRg o ho).2;omega) q h
  rwa [qIS] at this)
 obtain ⟨n4,h4⟩:=qBc (F:=fun o n=>qAE n (qAO o) (BR s) (pos s (tb q.1)) q.2.1 q.2.2.length (q.2.2.map qW)) (f:=fun o=>((sIs (qAO o).toList (tb q.1,q.2)).1,qCt s (sIs (qAO o).toList (tb q.1,q.2)).2)) qCE (fun o ho=>by
  have:=qHB hs (qAO o).toList (by rw [qAQ];have:=(qRg o ho).2;omega) (tb q.1,q.2) (qSe h)
  rwa [qIS] at this)
 refine ⟨n1+n2+n3+n4+13,fun n hn=>?_⟩
 obtain ⟨k,rfl,hm⟩:=up1 hn
 have lp:=qNd hs (n:=k) level (tb q.1) (qCW q.1) q.2.2.length (q.2.2.map qW) (h1 k (by omega)) (h2 k (by omega)) 11 0 q.1 k (by omega) (by omega) rfl (fun r' _ hr' o ho=>by
  rcases hr' with rfl|rfl
  ·have:=h3 k (by omega) o ho
   rw [hb] at this
   refine this.trans ?_
   unfold sIs
   rw [if_neg (by rw [hb];simp)]
   by_cases hp:(qAO o).toList.isPrefixOf (tb q.1)=true
   ·rw [if_pos hp,if_pos hp,qAQ];simp only [qCt,hb]
   ·rw [if_neg hp,if_neg hp];simp only [qCt,hb]
  ·have:=h4 k (by omega) o ho
   rw [hb] at this
   refine this.trans ?_
   unfold sIs
   rw [if_neg (by rw [hb];simp)]
   simp only [qCW]
   by_cases hp:(qAO o).toList.isPrefixOf (tb q.1)=true
   ·rw [if_pos hp,if_pos hp,qAQ];simp only [qCt,hb]
   ·rw [if_neg hp,if_neg hp];simp only [qCt,hb])
 rw [List.drop_zero,qUd hl] at lp
 unfold sOp
 rw [if_neg (by rw [hb];simp)]
 show qEc (k+1) level (BR s) (pos s q.1) q.2.1 q.2.2.length (q.2.2.map qW)=_
 rw [hb]
 by_cases h0:qDv level (tb q.1) qCE=0
 ·rw [if_pos h0] at lp
  rw [if_pos h0]
  refine qA lp ?_
  simp only [qCX,qCt,hb,h0]
  rfl
 ·rw [if_neg h0] at lp
  rw [if_neg h0]
  refine qA lp ?_
  simp only [qCX,qCt,hb]
  rfl
theorem qP5 {s:List UInt8} (hs:s.length≤1000) {n:Nat} (r:List UInt8) (hr:r<:+s) (b:Bool) (l:List Nd)
  (h1:∀i,1≤i∧i≤5→qBP n i=some (qf i)) (h2:∀i,1≤i∧i≤5→qC0 n i=some (4,i,em))
  (h4:∀i,1≤i∧i≤5→qr n 1 0 4 i em 0 0 false false 0 0 false false [] (BR s) (pos s (r.drop ((qf i).size-1))) b l.length (l.map qW)=some (qCX s (qEA (nd1 (4,i,em)) (r.drop ((qf i).size-1),b,l)))):
  ∀(k:Nat) (i:Int) (M:Nat),1≤i→i+k=6→k+1≤M→zD (qCd n) M (i,BR s,pos s r,b,l.length,l.map qW)=some (match qR7 r i k with
   |some e=> .inl (qCX s (qEA (nd1 (4,e,em)) (r.drop ((qf e).size-1),b,l)))
   |none=> .inr (BR s,pos s r,b,l.length,l.map qW))
 |k,i,0,_,_,h=>by omega
 |0,i,M+1,hi,hk,h=>by
  exact qP (qO (decide_eq_false (show ¬i≤5 by omega)) rfl)
 |k+1,i,M+1,hi,hk,h=>by
  have hi5:1≤i∧i≤5:=⟨hi,by omega⟩
  have hsz:1≤(qf i).size∧(qf i).size≤7:=by
   have c:i=1∨i=2∨i=3∨i=4∨i=5:=by omega
   rcases c with rfl|rfl|rfl|rfl|rfl<;>decide+kernel
  have hx:(qf i).extract ((1:Int)).toNat (((qf i).size:Nat):Int).toNat=BR (qf i).toList.tail:=by
   conv=>lhs;rw [←qIS (qf i)]
   rw [qFG,qb,qAQ]
   congr 1
   rw [Int.toNat_natCast,List.take_of_length_le (by rw [qAQ];omega)]
   exact List.drop_one
  have hxs:((qf i).extract ((1:Int)).toNat (((qf i).size:Nat):Int).toNat).size=(qf i).size-1:=by
   rw [hx,qb,List.length_tail,qAQ]
  have hl:=qDN hr
  have w1:IntKind.i64.wrap (pos s r+(((qf i).extract ((1:Int)).toNat (((qf i).size:Nat):Int).toNat).size:Int))=pos s r+(((qf i).size-1:Nat):Int):=by
   rw [hxs];exact qU (by unfold pos;omega)
  have w2:IntKind.i64.wrap (i+1)=i+1:=qU (by omega)
  have ih:=qP5 hs r hr b l h1 h2 h4 k (i+1) M (by omega) (by omega) (by omega)
  unfold qR7
  by_cases hf:pos s r+(((qf i).size-1:Nat):Int)≤(s.length:Int)
  ·have hk2:(qf i).size-1≤r.length:=by unfold pos at hf;omega
   have cmp:(((BR s).extract (pos s r).toNat (IntKind.i64.wrap (pos s r+(((qf i).extract ((1:Int)).toNat (((qf i).size:Nat):Int).toNat).size:Int))).toNat).toList==((qf i).extract ((1:Int)).toNat (((qf i).size:Nat):Int).toNat).toList)=true↔(qf i).toList.tail.isPrefixOf r=true:=by
    rw [w1,qOy hr,hx,qAP,qAP,beq_iff_eq,List.isPrefixOf_iff_prefix,List.prefix_iff_eq_take,List.length_tail,qAQ]
    exact ⟨fun e=>e.symm,fun e=>e.symm⟩
   have g1:decide (IntKind.i64.wrap (pos s r+(((qf i).extract ((1:Int)).toNat (((qf i).size:Nat):Int).toNat).size:Int))≤((BR s).size:Int))=true:=decide_eq_true (by rw [w1,qb];exact hf)
   have g2:decide (0≤pos s r∧pos s r≤IntKind.i64.wrap (pos s r+(((qf i).extract ((1:Int)).toNat (((qf i).size:Nat):Int).toNat).size:Int))∧IntKind.i64.wrap (pos s r+(((qf i).extract ((1:Int)).toNat (((qf i).size:Nat):Int).toNat).size:Int))≤((BR s).size:Int))=true:=decide_eq_true (by rw [w1,qb];exact ⟨qLG _ _,by omega,hf⟩)
   by_cases hp:(qf i).toList.tail.isPrefixOf r=true
   ·rw [if_pos hp]
    have h4:=h4 i hi5
    rw [←qKZ hr rfl hk2,←w1] at h4
    exact qP (qD (decide_eq_true (show i≤5 by omega)) (qA (h1 i hi5) (qD (decide_eq_true ⟨by decide,by omega,Int.le_refl _⟩) (qD g1 (qD g2 (qD (cmp.2 hp) (qA (h2 i hi5) (qA h4 rfl))))))))
   ·rw [if_neg hp]
    rw [qT (v':=(i+1,BR s,pos s r,b,l.length,l.map qW)) (by
     refine qD (decide_eq_true (show i≤5 by omega)) (qA (h1 i hi5) (qD (decide_eq_true ⟨by decide,by omega,Int.le_refl _⟩) (qD g1 (qD g2 (qO (by rw [Bool.eq_false_iff];exact fun e=>hp (cmp.1 e)) ?_)))))
     rw [qC,w2])]
    exact ih
  ·have hp:¬(qf i).toList.tail.isPrefixOf r=true:=by
    intro e
    have:=(List.isPrefixOf_iff_prefix.1 e).length_le
    rw [List.length_tail,qAQ] at this
    unfold pos at hf
    omega
   rw [if_neg hp]
   rw [qT (v':=(i+1,BR s,pos s r,b,l.length,l.map qW)) (by
    refine qD (decide_eq_true (show i≤5 by omega)) (qA (h1 i hi5) (qD (decide_eq_true ⟨by decide,by omega,Int.le_refl _⟩) (qO (decide_eq_false (by rw [w1,qb];exact hf)) ?_)))
    rw [qC,w2])]
   exact ih
theorem qUH {s:List UInt8} (hs:s.length≤1000) (r:List UInt8) (hr:r<:+s) (b:Bool) (l:List Nd) (hl:l.length≤5000):∃n0,∀n,n0≤n→∀M,n0≤M→zD (qCd n) M (1,BR s,pos s r,b,l.length,l.map qW)=some (match qR7 r 1 5 with
   |some e=> .inl (qCX s (qEA (nd1 (4,e,em)) (r.drop ((qf e).size-1),b,l)))
   |none=> .inr (BR s,pos s r,b,l.length,l.map qW)):=by
 obtain ⟨n1,h1⟩:=qGD (F:=qBP) (f:=qf) (lo:=1) (by decide) (fun i hi=>qG4 i ⟨by omega,hi.2⟩)
 obtain ⟨n2,h2⟩:=qGD (F:=qC0) (f:=fun i=>(4,i,em)) (lo:=1) (by decide) (fun i _=>qOg i)
 obtain ⟨n4,h4⟩:=qGD (F:=fun n i=>qr n 1 0 4 i em 0 0 false false 0 0 false false [] (BR s) (pos s (r.drop ((qf i).size-1))) b l.length (l.map qW)) (f:=fun i=>qCX s (qEA (nd1 (4,i,em)) (r.drop ((qf i).size-1),b,l))) (lo:=1) (by decide) (fun i _=>qKN (s:=s) (nd1 (4,i,em)) (r.drop ((qf i).size-1),b,l) hl ⟨by simp [kd,nd1],by simp [nd1,em];decide⟩)
 exact ⟨n1+n2+n4+7,fun n hn M hM=>qP5 hs r hr b l (h1 n (by omega)) (h2 n (by omega)) (h4 n (by omega)) 5 1 M (by omega) (by omega) (by omega)⟩
theorem qUI:∃n0,∀n,n0≤n→∀i,1≤i∧i≤10→qCb n i=some (fnS i):=by
 obtain ⟨n1,h1⟩:=qBc (F:=fun (i:Nat) n=>qCb n ((i:Int)+1)) (f:=fun i=>fnS ((i:Int)+1)) (List.range 10) (fun i hi=>qMU _ (by have:=List.mem_range.1 hi;omega))
 refine ⟨n1,fun n hn i hi=>?_⟩
 have:=h1 n hn (i-1).toNat (List.mem_range.2 (by omega))
 rwa [show (((i-1).toNat:Nat):Int)+1=i by omega] at this
theorem qUf {i j:Int} (hi:1≤i∧i≤10) (hj:1≤j∧j≤10) (h:(fnS i).toList=(fnS j).toList):i=j:=by
 have t:∀a:Fin 10,∀b:Fin 10,(fnS (((a.val:Nat):Int)+1)).toList=(fnS (((b.val:Nat):Int)+1)).toList→a=b:=by decide+kernel
 have:=t ⟨(i-1).toNat,by omega⟩ ⟨(j-1).toNat,by omega⟩ (by
  simp only
  rw [show (((i-1).toNat:Nat):Int)+1=i by omega,show (((j-1).toNat:Nat):Int)+1=j by omega]
  exact h)
 have:=congrArg Fin.val this
 simp only at this
 omega
theorem qQ7 {g:G_spec_l3Rd_row} {n:Nat} {s:List UInt8} (w:List UInt8) (q:PS) (h1:∀i,1≤i∧i≤10→qCb n i=some (fnS i)):
  ∀(k:Nat) (i:Int) (M:Nat),1≤i→i+k=11→k+1≤M→(∀j,i≤j∧j≤10→(fnS j).toList≠w)→zD (qDE g n) M (BR w,i,qCt s q)=some (.inr (BR w,qCt s q))
 |k,i,0,_,_,h,_=>by omega
 |0,i,M+1,hi,hk,h,_=>qP (qO (decide_eq_false (show ¬i≤10 by omega)) rfl)
 |k+1,i,M+1,hi,hk,h,hn=>by
  have w1:IntKind.i64.wrap (i+1)=i+1:=qU (by omega)
  rw [qT (v':=(BR w,i+1,qCt s q)) (by
   refine qD (decide_eq_true (show i≤10 by omega)) (qA (h1 i ⟨hi,by omega⟩) (qO (by rw [beq_eq_false_iff_ne];show (fnS i).toList≠(BR w).toList;rw [qAP];exact hn i ⟨Int.le_refl _,by omega⟩) ?_))
   rw [qC,w1])]
  exact qQ7 w q h1 k (i+1) M (by omega) (by omega) (by omega) (fun j hj=>hn j ⟨by omega,hj.2⟩)
theorem qKa {g:G_spec_l3Rd_row} {n:Nat} {s:List UInt8} (w:List UInt8) (q:PS) (res:Int→Int×PS) (h1:∀i,1≤i∧i≤10→qCb n i=some (fnS i))
  (h2:qAE n ⟨#[40]⟩ (BR s) (pos s q.1) q.2.1 q.2.2.length (q.2.2.map qW)=some ((sIs [40] q).1,qCt s (sIs [40] q).2)):
  ∀(k:Nat) (i:Int) (M:Nat),1≤i→i+k=11→k+1≤M→(∀op,qGF w i k=some op→(sIs [40] q).1=true→g.spec_l3Rd_call op (BR s) (pos s (sIs [40] q).2.1) (sIs [40] q).2.2.1 (sIs [40] q).2.2.2.length ((sIs [40] q).2.2.2.map qW)=some (qCX s (res op)))→
   zD (qDE g n) M (BR w,i,qCt s q)=some (match qGF w i k with
   |some op=>if (sIs [40] q).1=true then .inl (qCX s (res op)) else .inr (BR w,qCt s (sIs [40] q).2)
   |none=> .inr (BR w,qCt s q))
 |k,i,0,_,_,h,_=>by omega
 |0,i,M+1,hi,hk,h,_=>qP (qO (decide_eq_false (show ¬i≤10 by omega)) rfl)
 |k+1,i,M+1,hi,hk,h,hc=>by
  have w1:IntKind.i64.wrap (i+1)=i+1:=qU (by omega)
  unfold qGF at hc⊢
  by_cases hq:(fnS i).toList=w
  ·rw [if_pos hq] at hc⊢
   have hqb:((fnS i).toList==(BR w).toList)=true:=by rw [beq_iff_eq,qAP];exact hq
   simp only
   cases hi2:(sIs [40] q).1 with
   |true=>
    rw [if_pos rfl]
    exact qP (qD (decide_eq_true (show i≤10 by omega)) (qA (h1 i ⟨hi,by omega⟩) (qD hqb (qA h2 (qD hi2 (qA (hc i rfl hi2) rfl))))))
   |false=>
    rw [if_neg (by simp)]
    rw [qT (v':=(BR w,i+1,qCt s (sIs [40] q).2)) (by
     refine qD (decide_eq_true (show i≤10 by omega)) (qA (h1 i ⟨hi,by omega⟩) (qD hqb (qA h2 (qO hi2 ?_))))
     rw [qC,w1])]
    exact qQ7 w _ h1 k (i+1) M (by omega) (by omega) (by omega) (fun j hj e=>by
     have:=qUf (i:=i) (j:=j) ⟨hi,by omega⟩ ⟨by omega,hj.2⟩ (hq.trans e.symm)
     omega)
  ·rw [if_neg hq] at hc⊢
   rw [qT (v':=(BR w,i+1,qCt s q)) (by
    refine qD (decide_eq_true (show i≤10 by omega)) (qA (h1 i ⟨hi,by omega⟩) (qO (by rw [beq_eq_false_iff_ne];show (fnS i).toList≠(BR w).toList;rw [qAP];exact hq) ?_))
    rw [qC,w1])]
   exact qKa w q res h1 h2 k (i+1) M (by omega) (by omega) (by omega) hc
structure Go (k:Nat) (q q':PS):Prop where
 suf:q'.1<:+q.1
 sum:q'.2.2.length+q'.1.length+k≤q.2.2.length+q.1.length
 sm:(∀x∈q.2.2,qOk x)→∀x∈q'.2.2,qOk x
theorem Go.refl (q:PS):Go 0 q q:=⟨List.suffix_rfl,Nat.le_refl _,id⟩
theorem Go.trans {a b:Nat} {p q r:PS} (h:Go a p q) (h':Go b q r):Go (a+b) p r:=⟨h'.suf.trans h.suf,by have:=h.sum;have:=h'.sum;omega,fun e=>h'.sm (h.sm e)⟩
theorem Go.tr0 {p q r:PS} (h:Go 0 p q) (h':Go 0 q r):Go 0 p r:=h.trans h'
theorem Go.add {p q:PS} {x:Nd} (h:Go 1 p q) (hx:qOk x):Go 0 p (qEA x q).2:=by
 refine ⟨h.suf,?_,fun e y hy=>?_⟩
 ·have:=h.sum
  simp only [qEA,List.length_append,List.length_singleton]
  omega
 ·simp only [qEA,List.mem_append,List.mem_singleton] at hy
  rcases hy with hy|rfl
  ·exact h.sm e y hy
  ·exact hx
theorem Go.weak {k:Nat} {p q:PS} (h:Go k p q):Go 0 p q:=⟨h.suf,by have:=h.sum;omega,h.sm⟩
theorem Go.of (q:PS) {r:List UInt8} (b:Bool) {k:Nat} (h:r<:+q.1) (hk:r.length+k≤q.1.length):Go k q (r,b,q.2.2):=⟨h,by simp only;omega,id⟩
theorem qMd (q:PS):Go 0 q (tb q.1,q.2):=⟨List.dropWhile_suffix _,by have:=q9 q.1;simp only;omega,id⟩
theorem qQ8 (q:PS):Go 0 q (wr (tb q.1),q.2):=⟨(List.dropWhile_suffix _).trans (List.dropWhile_suffix _),by have:=q9 q.1;have:=qG8 (tb q.1);simp only;omega,id⟩
theorem qTm (q:PS) (h:wd (tb q.1)≠ []):Go 1 q (wr (tb q.1),q.2):=⟨(List.dropWhile_suffix _).trans (List.dropWhile_suffix _),by
 have:=q9 q.1
 have e:=congrArg List.length (wdr (tb q.1))
 have:=List.length_pos_iff.2 h
 simp only [List.length_append] at e
 simp only;omega,id⟩
theorem qLH {w:List UInt8} {q:PS} (h:(sIs w q).1=true):w<+:tb q.1∧(sIs w q).2=((tb q.1).drop w.length,q.2)∧q.2.1=false:=by
 unfold sIs at h⊢
 split at h
 ·cases h
 ·rename_i hb
  rw [if_neg hb]
  split at h
  ·rename_i hp
   rw [if_pos hp]
   exact ⟨List.isPrefixOf_iff_prefix.1 hp,rfl,by rw [Bool.eq_false_iff];exact hb⟩
  ·cases h
theorem qQ9 {w:List UInt8} {q:PS} (h:(sIs w q).1=false):(sIs w q).2=(tb q.1,q.2):=by
 unfold sIs at h⊢
 split at h
 ·rename_i hb;rw [if_pos hb]
 ·rename_i hb
  rw [if_neg hb]
  split at h
  ·cases h
  ·rename_i hp;rw [if_neg hp]
theorem qKO (w:List UInt8) (q:PS):Go 0 q (sIs w q).2:=by
 cases h:(sIs w q).1 with
 |true=>
  obtain ⟨_,h2,_⟩:=qLH h
  rw [h2]
  exact Go.tr0 (qMd q) ⟨List.drop_suffix _ _,by simp,id⟩
 |false=>rw [qQ9 h];exact qMd q
theorem qEz {w:List UInt8} (hw:w≠ []) {q:PS} (h:(sIs w q).1=true):Go 1 q (sIs w q).2:=by
 obtain ⟨h1,h2,_⟩:=qLH h
 rw [h2]
 have l1:=h1.length_le
 have l2:=List.length_pos_iff.2 hw
 have:=q9 q.1
 exact ⟨(List.drop_suffix _ _).trans (List.dropWhile_suffix _),by simp;omega,id⟩
theorem qP6 {k:Nat} {p q:PS} (h:Go k p q):Go k p (qLs q):=⟨h.suf,h.sum,h.sm⟩
theorem qTn:∀(t r:List UInt8),(tb r).length≤(tb (t++r)).length
 | [],r=>Nat.le_refl _
 |c::t,r=>by
  have ih:=qTn t r
  have:=q9 (t++r)
  by_cases hc:c=32
  ·rw [show tb (c::t++r)=tb (t++r) by simp [tb,hc]];exact ih
  ·rw [show tb (c::t++r)=c::(t++r) by simp [tb,hc]]
   simp only [List.length_cons];omega
theorem Go.tb {k:Nat} {p q:PS} (h:Go k p q):(tb q.1).length≤(tb p.1).length:=by
 obtain ⟨t,ht⟩:=h.suf
 rw [←ht];exact qTn t q.1
theorem qS3 {w:List UInt8} (hw:w≠ []) {q:PS} (h:(sIs w q).1=true):(tb (sIs w q).2.1).length<(tb q.1).length:=by
 obtain ⟨h1,h2,_⟩:=qLH h
 rw [h2]
 exact qRe hw h1
theorem qS4 (level:Int) (r:List UInt8):∀l:List Int,qDv level r l≠0→qDv level r l∈l∧(qAO (qDv level r l)).toList<+:r
 | [],h=>absurd rfl h
 |o::l,h=>by
  unfold qDv at h⊢
  split at h
  ·rename_i hc
   rw [if_pos hc]
   exact ⟨List.mem_cons_self ..,List.isPrefixOf_iff_prefix.1 hc.2⟩
  ·rename_i hc
   rw [if_neg hc]
   have:=qS4 level r l h
   exact ⟨List.mem_cons_of_mem _ this.1,this.2⟩
theorem qUP (level:Int) (q:PS):Go 0 q (sOp level q).2∧((sOp level q).1≠0→Go 1 q (sOp level q).2∧(tb (sOp level q).2.1).length<(tb q.1).length):=by
 unfold sOp
 split
 ·exact ⟨qMd q,fun h=>absurd rfl h⟩
 ·simp only
  by_cases h:qDv level (tb q.1) qCE=0
  ·rw [if_pos h]
   exact ⟨qMd q,fun e=>absurd h e⟩
  ·rw [if_neg h]
   obtain ⟨h1,h2⟩:=qS4 level (tb q.1) qCE h
   have ne:=(qRg _ h1).1
   have l1:=h2.length_le
   have l2:=List.length_pos_iff.2 ne
   rw [qAQ] at l1 l2
   have l3:=q9 q.1
   have g:Go 1 q ((tb q.1).drop (qAO (qDv level (tb q.1) qCE)).size,q.2):=⟨(List.drop_suffix _ _).trans (List.dropWhile_suffix _),by simp;omega,id⟩
   have t:=qRe ne h2
   rw [qAQ] at t
   exact ⟨g.weak,fun _=>⟨g,t⟩⟩
theorem qNe:∀(k:Nat) (acc r:List UInt8) {w t:List UInt8},r.length≤k→qCB acc r=some (w,t)→t<:+r
 |k,acc,[],w,t,hk,h=>by simp [qCB] at h
 |0,acc,c::r,w,t,hk,h=>by simp at hk
 |k+1,acc,c::r,w,t,hk,h=>by
  simp only [List.length_cons] at hk
  by_cases hc:c=34
  ·subst hc
   by_cases hq:r.head?=some 34
   ·obtain ⟨u,rfl⟩:=qKY hq
    rw [qUV] at h
    simp only [List.length_cons] at hk
    have:=qNe k _ u (by omega) h
    exact this.trans ((List.suffix_cons 34 u).trans (List.suffix_cons 34 _))
   ·rw [qUW acc r hq] at h
    cases h
    exact List.suffix_cons 34 _
  ·rw [qUX acc r hc] at h
   exact (qNe k _ r (by omega) h).trans (List.suffix_cons c _)
def Ks:SJ→PS→Prop
 | .call _ kids,q=>q.2.1=true∨kids.length+q.1.length≤1500
 |_,_=>True
theorem qIr {k op:Int} {kids:List Int} (h:kids.length≤2000):qOk (ndK k op kids):=⟨h,by simp [ndK,em];decide⟩
theorem qBu {k:Nat} {p q:PS} (h:Go k p q):q.1.length≤p.1.length:=h.suf.length_le
theorem qE5 (H:RdOK):∀(f:Nat) (j:SJ) (q:PS),q.1.length≤1000→Ks j q→Go 0 q (sP f j q).2
 |0,j,q,_,_=>Go.refl q
 |f+1,.row level,q,hr,_=>by
  unfold sP
  split
  ·exact Go.refl q
  ·split
   ·exact qE5 H f .one q hr trivial
   ·have a:=qE5 H f (.row (level+1)) q hr trivial
    exact a.tr0 (qE5 H f (.rl level _) _ (Nat.le_trans (qBu a) hr) trivial)
 |f+1,.rl level a,q,hr,_=>by
  unfold sP
  split
  ·exact Go.refl q
  ·simp only
   have o:=qUP level q
   split
   ·exact o.1
   ·rename_i h0
    have o1:=(o.2 h0).1
    have b:=qE5 H f (.row (level+1)) (sOp level q).2 (Nat.le_trans (qBu o1) hr) trivial
    have c:=Go.add (x:=ndK 5 (sOp level q).1 [a,(sP f (.row (level+1)) (sOp level q).2).1]) (o1.trans b) (qIr (by simp))
    exact c.tr0 (qE5 H f (.rl level _) _ (Nat.le_trans (qBu c) hr) trivial)
 |f+1,.one,q,hr,_=>by
  unfold sP
  split
  ·rename_i h
   have a:=qEz (by simp) h
   have b:=qE5 H f (.row 5) (sIs [45] q).2 (Nat.le_trans (qBu a) hr) trivial
   exact Go.add (a.trans b) (qIr (by simp))
  ·have a:=qKO [45] q
   split
   ·rename_i h
    have c:=a.tr0 (qEz (by simp) h).weak
    have b:=qE5 H f (.row 1) (sIs [40] (sIs [45] q).2).2 (Nat.le_trans (qBu c) hr) trivial
    have d:=(c.tr0 b).tr0 (qKO [41] _)
    simp only
    split
    ·exact d
    ·exact qP6 d
   ·simp only
    have t:=qMd q
    split
    ·rename_i h
     have c:=qEz (by simp) h
     obtain ⟨_,e,_⟩:=qLH h
     split
     ·exact ⟨List.nil_suffix,by simp,id⟩
     ·rename_i w u hq
      have d:=qNe _ _ _ (Nat.le_refl _) hq
      have d2:=d.length_le
      have dz:=qHA _ _ _ (Nat.le_refl _) hq
      have g:=t.trans c
      have l:=qBu g
      have sg:=g.sum
      have eq:(sIs [34] (tb q.1,q.2)).2.2=q.2:=by rw [e]
      rw [eq] at sg
      simp only [List.length_nil] at dz
      exact Go.add (q:=(u,q.2)) ⟨d.trans g.suf,by simp only;omega,id⟩ ⟨by simp [kd,nd1],by simp only [nd1,qb];omega⟩
    ·split
     ·rename_i h
      have c:=qEz (by simp) h
      obtain ⟨_,e,_⟩:=qLH h
      have g:=t.trans c
      have l:=qBu g
      have sg:=g.sum
      have eq:(sIs [35] (tb q.1,q.2)).2.2=q.2:=by rw [e]
      rw [eq] at sg
      split
      ·exact Go.add (q:=(_,q.2)) ⟨(List.drop_suffix _ _).trans g.suf,by simp;omega,id⟩ ⟨by simp [kd,nd1],by simp [nd1,em];decide⟩
      ·exact ⟨g.suf,by simp only;omega,id⟩
     ·have w:=qQ8 q
      split
      ·split
       ·have c:=w.tr0 (qKO [40] _)
        exact c.tr0 (qE5 H f (.call _ []) _ (Nat.le_trans (qBu c) hr) (.inr (by have:=qBu c;simp only [List.length_nil];omega)))
       ·exact qP6 (w.tr0 (qKO [40] _))
      ·split
       ·rename_i hv
        exact Go.add (qTm q hv.2) ⟨by simp [kd,nd1],qKM hv.1 (H.v _ (qSa _) hv.2 hv.1)⟩
       ·split
        ·rename_i hp
         exact Go.add (qTm q (fun e=>by rw [e,H.p0] at hp;cases hp)) ⟨by simp [kd,ndC],by simp [ndC,em];decide⟩
        ·exact qP6 w
 |f+1,.call op kids,q,hr,hk=>by
  unfold sP
  split
  ·exact Go.refl q
  ·rename_i hb
   have hk:kids.length+q.1.length≤1500:=hk.elim (fun h=>absurd h hb) id
   have a:=qE5 H f .arg q hr trivial
   simp only
   split
   ·rename_i h
    exact Go.add (a.trans (qEz (by simp) h)) (qIr (by simp;omega))
   ·have c:=a.tr0 (qKO [41] _)
    split
    ·rename_i h
     have d:=c.trans (qEz (by simp) h)
     obtain ⟨e1,e2,_⟩:=qLH h
     have l:=e1.length_le
     have l2:=qBu c
     have l3:=q9 (sIs [41] (sP f .arg q).2).2.1
     simp only [List.length_cons,List.length_nil] at l
     exact d.weak.tr0 (qE5 H f (.call op _) _ (Nat.le_trans (qBu d) hr) (.inr (by rw [e2];simp;omega)))
    ·have d:=qP6 (c.tr0 (qKO [44] _))
     exact d.tr0 (qE5 H f (.call op _) _ (Nat.le_trans (qBu d) hr) (.inl rfl))
 |f+1,.arg,q,hr,_=>by
  unfold sP
  simp only
  have w:=qQ8 q
  split
  ·rename_i h
   have c:=w.trans (qEz (by simp) h.2)
   have d:=c.trans (qQ8 _)
   split
   ·exact Go.add d ⟨by simp [kd,ndA],by simp [ndA,em];decide⟩
   ·exact ⟨d.suf,by have:=d.sum;simp only at this⊢;omega,d.sm⟩
  ·have t:=qMd q
   exact t.tr0 (qE5 H f (.row 1) _ (Nat.le_trans (qBu t) hr) trivial)
def As (f:Nat):SJ→PS→Prop
 | .row level,q=>((20*(tb q.1).length+10:Nat):Int)-level≤f∧1≤level∧level≤5
 | .rl level _,q=>20*(tb q.1).length+5≤f∧1≤level∧level≤4
 | .one,q=>20*(tb q.1).length+4≤f∧q.2.1=false
 | .call _ _,q=>(q.2.1=true∧1≤f)∨20*(tb q.1).length+12≤f
 | .arg,q=>20*(tb q.1).length+10≤f
def Iv (s:List UInt8) (q:PS):Prop:=q.1<:+s∧q.2.2.length+q.1.length≤2000
theorem Iv.go {s:List UInt8} {k:Nat} {q q':PS} (h:Iv s q) (g:Go k q q'):Iv s q':=⟨g.suf.trans h.1,by have:=g.sum;have:=h.2;omega⟩
def Ws (s:List UInt8):SJ→PS→Int×PS→Prop
 | .row level,q,r=>Ev (qED · level (BR s) (pos s q.1) q.2.1 q.2.2.length (q.2.2.map qW)) (qCX s r)
 | .rl level a,q,r=>∃x,(x= .inl (qCX s r)∨x= .inr (qCX s r))∧∃n0,∀n,n0≤n→∀M,n0≤M→zD (qEH (qc n) n) M (level,a,qCt s q)=some x
 | .one,q,r=>Ev (qI2 · (BR s) (pos s q.1) q.2.1 q.2.2.length (q.2.2.map qW)) (qCX s r)
 | .call op kids,q,r=>∃x,(x= .inl (qCX s r)∨(x= .inr (qCt s r.2)∧r.1=0))∧∃n0,∀n,n0≤n→∀M,n0≤M→zD (qDz (qc n) n) M (op,kids.length,kids.map qAz,qCt s q)=some x
 | .arg,q,r=>Ev (qI3 · (BR s) (pos s q.1) q.2.1 q.2.2.length (q.2.2.map qW)) (qCX s r)
theorem srp (r:List UInt8) (h:r.length≤1000):Ev (qAm · (BR (wd r))) (qA0 (BR (wd r))):=qMR _ (by rw [qb];have:=qRd r;omega)
theorem srv (r:List UInt8) (h:r.length≤1000):Ev (qAI · (BR (wd r))) (qi (BR (wd r))):=qHW _ (by rw [qb];have:=qRd r;omega)
theorem qU2 {r:List UInt8} (h:wd r≠ []):(tb (wr r)).length<r.length:=by
 have e:=congrArg List.length (wdr r)
 have:=List.length_pos_iff.2 h
 have:=q9 (wr r)
 simp only [List.length_append] at e
 omega
def qRh (n:Nat) (w:ByteArray) (c:ByteArray×Int×Bool×Nat×List (List PV)):Tr (Int×ByteArray×Int×Bool×Nat×List (List PV)):=
 (.opt (qAm n w) fun r=>(.ask (!r.2.2.2.2) (.done (0,c.1,c.2.1,true,c.2.2.2.1,c.2.2.2.2))
  (.opt (qr n 2 0 0 0 ⟨#[]⟩ r.1 r.2.1 r.2.2.1 r.2.2.2.1 0 0 false false [] c.1 c.2.1 c.2.2.1 c.2.2.2.1 c.2.2.2.2) fun t=> .done (t.1,t.2.1,t.2.2.1,t.2.2.2.1,t.2.2.2.2.1,t.2.2.2.2.2))))
def qUg (n:Nat) (w:ByteArray) (c:ByteArray×Int×Bool×Nat×List (List PV)):Tr (Int×ByteArray×Int×Bool×Nat×List (List PV)):=
 (.opt (qAI n w) fun r=>(.ask r.2.2.2
  (.ask (!(w.toList==(⟨#[]⟩:ByteArray).toList))
   (.opt (qr n 1 0 r.1 r.2.1 r.2.2.1 0 0 false false 0 0 false false [] c.1 c.2.1 c.2.2.1 c.2.2.2.1 c.2.2.2.2) fun t=> .done (t.1,t.2.1,t.2.2.1,t.2.2.2.1,t.2.2.2.2.1,t.2.2.2.2.2))
   (qRh n w c))
  (qRh n w c)))
def qP7 (w:List UInt8) (q3:PS):Int×PS:=
 if (qi (BR w)).2.2.2=true∧w≠ [] then qEA (nd1 ((qi (BR w)).1,(qi (BR w)).2.1,(qi (BR w)).2.2.1)) q3
 else if (qA0 (BR w)).2.2.2.2=true then qEA (ndC (qA0 (BR w))) q3
 else (0,qLs q3)
theorem qRA (H:RdOK) {s:List UInt8} (r:List UInt8) (q:PS) (hr:r.length≤1000) (hn:q.2.2.length≤5000):∃n0,∀n,n0≤n→(qUg n (BR (wd r)) (qCt s q)).run=some (qCX s (qP7 (wd r) q)):=by
 obtain ⟨n1,h1⟩:=srv r hr
 obtain ⟨n2,h2⟩:=srp r hr
 obtain ⟨n4,h4⟩:=qKN (s:=s) (ndC (qA0 (BR (wd r)))) q hn ⟨by simp [kd,ndC],by simp [ndC,em];decide⟩
 have place:∃n0,∀n,n0≤n→(qRh n (BR (wd r)) (qCt s q)).run=some (qCX s (if (qA0 (BR (wd r))).2.2.2.2=true then qEA (ndC (qA0 (BR (wd r)))) q else (0,qLs q))):=by
  refine ⟨n2+n4,fun n hn=>?_⟩
  cases hp:(qA0 (BR (wd r))).2.2.2.2 with
  |true=>rw [if_pos rfl];exact qA (h2 n (by omega)) (qO (qAt hp) (qA (h4 n (by omega)) rfl))
  |false=>rw [if_neg (by simp)];exact qA (h2 n (by omega)) (qD (qCm hp) rfl)
 obtain ⟨n5,h5⟩:=place
 by_cases hv:(qi (BR (wd r))).2.2.2=true∧wd r≠ []
 ·obtain ⟨n3,h3⟩:=qKN (s:=s) (nd1 ((qi (BR (wd r))).1,(qi (BR (wd r))).2.1,(qi (BR (wd r))).2.2.1)) q hn ⟨by simp [kd,nd1],qKM hv.1 (H.v _ (qSa _) hv.2 hv.1)⟩
  refine ⟨n1+n3,fun n hn=>?_⟩
  unfold qP7
  rw [if_pos hv]
  exact qA (h1 n (by omega)) (qD hv.1 (qD (qCm (by rw [beq_eq_false_iff_ne,qAP,qAH];exact hv.2)) (qA (h3 n (by omega)) rfl)))
 ·refine ⟨n1+n5,fun n hn=>?_⟩
  unfold qP7
  rw [if_neg hv]
  refine qA (h1 n (by omega)) ?_
  by_cases ho:(qi (BR (wd r))).2.2.2=true
  ·have e:wd r= []:=Classical.byContradiction fun e=>hv ⟨ho,e⟩
   exact qD ho (qO (qAt (by rw [beq_iff_eq,qAP,qAH];exact e)) (h5 n (by omega)))
  ·exact qO (by rw [Bool.eq_false_iff];exact ho) (h5 n (by omega))
theorem qFI (H:RdOK) {s:List UInt8} (hs:s.length≤1000):∀(f:Nat) (j:SJ) (q:PS),As f j q→Iv s q→Ks j q→Ws s j q (sP f j q)
 |0,j,q,ha,_,_=>by cases j<;>simp [As] at ha<;>omega
 |f+1,.row level,q,ha,hi,_=>by
  obtain ⟨ha,hl1,hl5⟩:=ha
  have hr:q.1.length≤1000:=Nat.le_trans (qDN hi.1) hs
  unfold sP
  by_cases hb:q.2.1=true
  ·rw [if_pos hb]
   refine ⟨1,fun n hn=>?_⟩
   obtain ⟨k,rfl,hm⟩:=up1 hn
   exact qD hb rfl
  ·have hb:q.2.1=false:=by rw [Bool.eq_false_iff];exact hb
   rw [if_neg (by rw [hb];simp)]
   by_cases h5:level=5
   ·rw [if_pos h5]
    obtain ⟨n1,h1⟩:=qFI H hs f .one q ⟨by omega,hb⟩ hi trivial
    refine ⟨n1+1,fun n hn=>?_⟩
    obtain ⟨k,rfl,hm⟩:=up1 hn
    exact qO hb (qD (beq_iff_eq.2 h5) (qA (h1 k (by omega)) rfl))
   ·rw [if_neg h5]
    have g:=qE5 H f (.row (level+1)) q hr trivial
    have gl:=g.tb
    obtain ⟨n1,h1⟩:=qFI H hs f (.row (level+1)) q ⟨by omega,by omega,by omega⟩ hi trivial
    generalize sP f (.row (level+1)) q=Q at g gl h1⊢
    obtain ⟨x,hx,n2,h2⟩:=qFI H hs f (.rl level Q.1) Q.2 ⟨by omega,by omega,by omega⟩ (hi.go g) trivial
    refine ⟨n1+n2+1,fun n hn=>?_⟩
    obtain ⟨k,rfl,hm⟩:=up1 hn
    have w1:IntKind.i64.wrap (level+1)=level+1:=qU (by omega)
    have h1:=h1 k (by omega)
    rw [←w1] at h1
    have h2:=h2 k (by omega) k (by omega)
    rcases hx with rfl|rfl
    ·exact qO hb (qO (beq_eq_false_iff_ne.2 h5) (qA h1 (qA h2 rfl)))
    ·exact qO hb (qO (beq_eq_false_iff_ne.2 h5) (qA h1 (qA h2 rfl)))
 |f+1,.rl level a,q,ha,hi,_=>by
  obtain ⟨ha,hl1,hl4⟩:=ha
  have hr:q.1.length≤1000:=Nat.le_trans (qDN hi.1) hs
  unfold sP
  by_cases hb:q.2.1=true
  ·rw [if_pos hb]
   refine ⟨.inr (qCX s (a,q)),.inr rfl,1,fun n hn M hM=>?_⟩
   obtain ⟨M,rfl,hM⟩:=up1 hM
   exact qP (qO (qAt hb) rfl)
  ·have hb:q.2.1=false:=by rw [Bool.eq_false_iff];exact hb
   rw [if_neg (by rw [hb];simp)]
   simp only
   obtain ⟨n1,h1⟩:=qUe hs (level:=level) ⟨hl1,hl4⟩ q hb hi.1
   have o:=qUP level q
   generalize sOp level q=O at h1 o⊢
   by_cases h0:O.1=0
   ·rw [if_pos h0]
    refine ⟨.inl (qCX s (a,O.2)),.inl rfl,n1+1,fun n hn M hM=>?_⟩
    obtain ⟨M,rfl,hM⟩:=up1 hM
    exact qP (qD (qCm hb) (qA (h1 n (by omega)) (qD (beq_iff_eq.2 h0) rfl)))
   ·rw [if_neg h0]
    obtain ⟨o1,o2⟩:=o.2 h0
    have b:=qE5 H f (.row (level+1)) O.2 (Nat.le_trans (qBu o1) hr) trivial
    obtain ⟨n2,h2⟩:=qFI H hs f (.row (level+1)) O.2 ⟨by omega,by omega,by omega⟩ (hi.go o1) trivial
    have ib:=(hi.go o1).go b
    have tbb:=b.tb
    have c:=Go.add (x:=ndK 5 O.1 [a,(sP f (.row (level+1)) O.2).1]) (o1.trans b) (qIr (by simp))
    generalize sP f (.row (level+1)) O.2=Q at h2 b ib tbb c⊢
    obtain ⟨n3,h3⟩:=qKN (s:=s) (ndK 5 O.1 [a,Q.1]) Q.2 (by have:=ib.2;omega) (qIr (by simp))
    have rest:(qEA (ndK 5 O.1 [a,Q.1]) Q.2).2.1=Q.2.1:=rfl
    generalize qEA (ndK 5 O.1 [a,Q.1]) Q.2=C at h3 c rest⊢
    obtain ⟨x,hx,n4,h4⟩:=qFI H hs f (.rl level C.1) C.2 ⟨by rw [rest];omega,hl1,hl4⟩ (hi.go c) trivial
    refine ⟨x,hx,n1+n2+n3+n4+1,fun n hn M hM=>?_⟩
    obtain ⟨M,rfl,hM⟩:=up1 hM
    have w1:IntKind.i64.wrap (level+1)=level+1:=qU (by omega)
    have h2:=h2 n (by omega)
    rw [←w1] at h2
    rw [qT (v':=(level,C.1,qCt s C.2)) (by
     exact qD (qCm hb) (qA (h1 n (by omega)) (qO (beq_eq_false_iff_ne.2 h0) (qA h2 (qD rfl (qA (h3 n (by omega)) rfl))))))]
    exact h4 n (by omega) M (by omega)
 |f+1,.one,q,ha,hi,_=>by
  obtain ⟨ha,hb⟩:=ha
  have hr:q.1.length≤1000:=Nat.le_trans (qDN hi.1) hs
  unfold sP
  obtain ⟨n1,h1⟩:=qHB hs [45] (by simp) q hi.1
  cases c1:(sIs [45] q).1 with
  |true=>
   rw [if_pos rfl]
   have a:=qEz (by simp) c1
   have al:=qS3 (by simp) c1
   have b:=qE5 H f (.row 5) (sIs [45] q).2 (Nat.le_trans (qBu a) hr) trivial
   obtain ⟨n2,h2⟩:=qFI H hs f (.row 5) (sIs [45] q).2 ⟨by omega,by omega,by omega⟩ (hi.go a) trivial
   have ib:=(hi.go a).go b
   simp only
   generalize sP f (.row 5) (sIs [45] q).2=Q at h2 ib⊢
   obtain ⟨n3,h3⟩:=qKN (s:=s) (ndK 4 0 [Q.1]) Q.2 (by have:=ib.2;omega) (qIr (by simp))
   refine ⟨n1+n2+n3+1,fun n hn=>?_⟩
   obtain ⟨k,rfl,hm⟩:=up1 hn
   exact qA (h1 k (by omega)) (qD c1 (qA (h2 k (by omega)) (qD rfl (qA (h3 k (by omega)) rfl))))
  |false=>
   rw [if_neg (by simp)]
   have a:=qKO [45] q
   obtain ⟨n2,h2⟩:=qHB hs [40] (by simp) (sIs [45] q).2 (hi.go a).1
   cases c2:(sIs [40] (sIs [45] q).2).1 with
   |true=>
    rw [if_pos rfl]
    have b:=qEz (by simp) c2
    have al:=qS3 (by simp) c2
    have atb:=a.tb
    have g1:=a.trans b
    have b2:=qE5 H f (.row 1) (sIs [40] (sIs [45] q).2).2 (Nat.le_trans (qBu g1) hr) trivial
    obtain ⟨n3,h3⟩:=qFI H hs f (.row 1) (sIs [40] (sIs [45] q).2).2 ⟨by omega,by omega,by omega⟩ (hi.go g1) trivial
    have ib:=(hi.go g1).go b2
    simp only
    generalize sP f (.row 1) (sIs [40] (sIs [45] q).2).2=Q at h3 ib⊢
    obtain ⟨n4,h4⟩:=qHB hs [41] (by simp) Q.2 ib.1
    refine ⟨n1+n2+n3+n4+1,fun n hn=>?_⟩
    obtain ⟨k,rfl,hm⟩:=up1 hn
    refine qA (h1 k (by omega)) (qO c1 (qA (h2 k (by omega)) (qD c2 (qA (h3 k (by omega)) (qA (h4 k (by omega)) ?_)))))
    cases c3:(sIs [41] Q.2).1 with
    |true=>rw [if_pos rfl];exact qO rfl rfl
    |false=>rw [if_neg (by simp)];exact qD rfl rfl
   |false=>
    rw [if_neg (by simp)]
    have e2:(sIs [40] (sIs [45] q).2).2=(tb q.1,q.2):=by
     rw [qQ9 c2,qQ9 c1];simp only [qCW]
    rw [e2] at h2
    have t:=qMd q
    have it:=hi.go t
    obtain ⟨n3,h3⟩:=qHB hs [34] (by simp) (tb q.1,q.2) it.1
    simp only
    cases c3:(sIs [34] (tb q.1,q.2)).1 with
    |true=>
     rw [if_pos rfl]
     have b:=qEz (by simp) c3
     have ib:=it.go b
     have eq2:(sIs [34] (tb q.1,q.2)).2.2=q.2:=by obtain ⟨_,e,_⟩:=qLH c3;rw [e]
     obtain ⟨n4,h4⟩:=qTk hs (sIs [34] (tb q.1,q.2)).2 ib.1 (by have:=ib.2;omega)
     refine ⟨n1+n2+n3+n4+1,fun n hn=>?_⟩
     obtain ⟨k,rfl,hm⟩:=up1 hn
     refine qA (h1 k (by omega)) (qO c1 (qA (h2 k (by omega)) (qO c2 (qA (h3 k (by omega)) (qD c3 (qA (h4 k (by omega)) ?_))))))
     rw [qC,eq2]
     all_goals (cases qCB [] (sIs [34] (tb q.1,q.2)).2.1<;>rfl)
    |false=>
     rw [if_neg (by simp)]
     have e3:(sIs [34] (tb q.1,q.2)).2=(tb q.1,q.2):=by rw [qQ9 c3];simp only [qCW]
     rw [e3] at h3
     obtain ⟨n4,h4⟩:=qHB hs [35] (by simp) (tb q.1,q.2) it.1
     cases c4:(sIs [35] (tb q.1,q.2)).1 with
     |true=>
      rw [if_pos rfl]
      have b:=qEz (by simp) c4
      have ib:=it.go b
      have eq2:(sIs [35] (tb q.1,q.2)).2.2=q.2:=by obtain ⟨_,e,_⟩:=qLH c4;rw [e]
      obtain ⟨n5,h5⟩:=qUH hs (sIs [35] (tb q.1,q.2)).2.1 ib.1 q.2.1 q.2.2 (by have:=hi.2;omega)
      have h4:=fun k hk=>h4 k hk
      refine ⟨n1+n2+n3+n4+n5+1,fun n hn=>?_⟩
      obtain ⟨k,rfl,hm⟩:=up1 hn
      have h4:=h4 k (by omega)
      have h5:=h5 k (by omega) k (by omega)
      have e4:qCt s (sIs [35] (tb q.1,q.2)).2=(BR s,pos s (sIs [35] (tb q.1,q.2)).2.1,q.2.1,q.2.2.length,q.2.2.map qW):=by unfold qCt;rw [eq2]
      rw [e4] at h4
      refine qA (h1 k (by omega)) (qO c1 (qA (h2 k (by omega)) (qO c2 (qA (h3 k (by omega)) (qO c3 (qA h4 (qD c4 (qA h5 ?_))))))))
      cases qR7 (sIs [35] (tb q.1,q.2)).2.1 1 5<;>rfl
     |false=>
      rw [if_neg (by simp)]
      have e4:(sIs [35] (tb q.1,q.2)).2=(tb q.1,q.2):=by rw [qQ9 c4];simp only [qCW]
      rw [e4] at h4
      obtain ⟨n5,h5⟩:=qP4 hs (tb q.1,q.2) it.1
      have w:=qQ8 q
      have iw:=hi.go w
      have htl:=q9 q.1
      obtain ⟨n6,h6⟩:=qHB hs [40] (by simp) (wr (tb q.1),q.2) iw.1
      obtain ⟨n7,h7⟩:=qUI
      obtain ⟨n9,h9⟩:=qRA H (s:=s) (tb q.1) (wr (tb q.1),q.2) (by omega) (by have:=hi.2;simp only;omega)
      have gi:=qKO [40] (wr (tb q.1),q.2)
      cases hf:qGF (wd (tb q.1)) 1 10 with
      |none=>
       simp only
       refine ⟨n1+n2+n3+n4+n5+n6+n7+n9+12+1,fun n hn=>?_⟩
       obtain ⟨k,rfl,hm⟩:=up1 hn
       have lp:=qKa (g:=qc k) (s:=s) (wd (tb q.1)) (wr (tb q.1),q.2) (fun _=>(0,q)) (h7 k (by omega)) (h6 k (by omega)) 10 1 k (by omega) (by omega) (by omega) (fun op h=>by rw [hf] at h;cases h)
       rw [hf] at lp
       exact qA (h1 k (by omega)) (qO c1 (qA (h2 k (by omega)) (qO c2 (qA (h3 k (by omega)) (qO c3 (qA (h4 k (by omega)) (qO c4 (qA (h5 k (by omega)) (qA lp (h9 k (by omega)))))))))))
      |some op=>
       have wne:wd (tb q.1)≠ []:=fun e=>by rw [e,H.f0] at hf;cases hf
       have wlt:=qU2 wne
       simp only
       cases c5:(sIs [40] (wr (tb q.1),q.2)).1 with
       |true=>
        rw [if_pos rfl]
        have il:=qS3 (by simp) c5
        simp only at il
        obtain ⟨x,hx,n8,h8⟩:=qFI H hs f (.call op []) (sIs [40] (wr (tb q.1),q.2)).2 (.inr (by omega)) (iw.go gi) (.inr (by have:=qBu (w.tr0 gi);simp only [List.length_nil];omega))
        have hcall:Ev (qIB · op (BR s) (pos s (sIs [40] (wr (tb q.1),q.2)).2.1) (sIs [40] (wr (tb q.1),q.2)).2.2.1 (sIs [40] (wr (tb q.1),q.2)).2.2.2.length ((sIs [40] (wr (tb q.1),q.2)).2.2.2.map qW)) (qCX s (sP f (.call op []) (sIs [40] (wr (tb q.1),q.2)).2)):=by
         refine ⟨n8+1,fun n hn=>?_⟩
         obtain ⟨k,rfl,hm⟩:=up1 hn
         have h8:=h8 k (by omega) k (by omega)
         rcases hx with rfl|⟨rfl,hz⟩
         ·exact qA h8 rfl
         ·refine qA h8 ?_
          show some ((0:Int),qCt s _)=some (_,qCt s _)
          rw [hz]
        obtain ⟨n10,h10⟩:=hcall
        refine ⟨n1+n2+n3+n4+n5+n6+n7+n10+12+1,fun n hn=>?_⟩
        obtain ⟨k,rfl,hm⟩:=up1 hn
        have lp:=qKa (g:=qc k) (s:=s) (wd (tb q.1)) (wr (tb q.1),q.2) (fun op=>sP f (.call op []) (sIs [40] (wr (tb q.1),q.2)).2) (h7 k (by omega)) (h6 k (by omega)) 10 1 k (by omega) (by omega) (by omega) (fun op' h _=>by rw [hf] at h;cases h;exact h10 k (by omega))
        rw [hf] at lp
        simp only at lp
        rw [if_pos c5] at lp
        exact qA (h1 k (by omega)) (qO c1 (qA (h2 k (by omega)) (qO c2 (qA (h3 k (by omega)) (qO c3 (qA (h4 k (by omega)) (qO c4 (qA (h5 k (by omega)) (qA lp rfl)))))))))
       |false=>
        rw [if_neg (by simp)]
        obtain ⟨v1,v2⟩:=H.f _ _ hf
        obtain ⟨n9,h9⟩:=qRA H (s:=s) (tb q.1) (sIs [40] (wr (tb q.1),q.2)).2 (by omega) (by have:=(iw.go gi).2;omega)
        have er:qP7 (wd (tb q.1)) (sIs [40] (wr (tb q.1),q.2)).2=(0,qLs (sIs [40] (wr (tb q.1),q.2)).2):=by
         unfold qP7
         rw [if_neg (fun h=>by rw [v1] at h;cases h.1),if_neg (by rw [v2];simp)]
        rw [er] at h9
        refine ⟨n1+n2+n3+n4+n5+n6+n7+n9+12+1,fun n hn=>?_⟩
        obtain ⟨k,rfl,hm⟩:=up1 hn
        have lp:=qKa (g:=qc k) (s:=s) (wd (tb q.1)) (wr (tb q.1),q.2) (fun _=>(0,q)) (h7 k (by omega)) (h6 k (by omega)) 10 1 k (by omega) (by omega) (by omega) (fun op' h h'=>by rw [c5] at h';cases h')
        rw [hf] at lp
        simp only at lp
        rw [if_neg (by rw [c5];simp)] at lp
        exact qA (h1 k (by omega)) (qO c1 (qA (h2 k (by omega)) (qO c2 (qA (h3 k (by omega)) (qO c3 (qA (h4 k (by omega)) (qO c4 (qA (h5 k (by omega)) (qA lp (h9 k (by omega)))))))))))
 |f+1,.call op kids,q,ha,hi,hk=>by
  have hr:q.1.length≤1000:=Nat.le_trans (qDN hi.1) hs
  unfold sP
  by_cases hb:q.2.1=true
  ·rw [if_pos hb]
   refine ⟨.inr (qCt s q),.inr ⟨rfl,rfl⟩,1,fun n hn M hM=>?_⟩
   obtain ⟨M,rfl,hM⟩:=up1 hM
   exact qP (qO (qAt hb) rfl)
  ·have hk:kids.length+q.1.length≤1500:=hk.elim (fun h=>absurd h hb) id
   have ha:20*(tb q.1).length+12≤f+1:=ha.elim (fun h=>absurd h.1 hb) id
   have hb:q.2.1=false:=by rw [Bool.eq_false_iff];exact hb
   rw [if_neg (by rw [hb];simp)]
   simp only
   have a:=qE5 H f .arg q hr trivial
   obtain ⟨n1,h1⟩:=qFI H hs f .arg q (by show 20*_+10≤f;omega) hi trivial
   generalize sP f .arg q=A at a h1⊢
   have ia:=hi.go a
   have ta:=a.tb
   have ra:=qBu a
   obtain ⟨n2,h2⟩:=qHB hs [41] (by simp) A.2 ia.1
   have kl:decide (kids.length=(kids.map qAz).length∧0<1∧0<8∧(kids.length+([[(PV.i .i64 A.1)]]:List (List PV)).length)*8≤140737488355328∧([[(PV.i .i64 A.1)]]:List (List PV)).all (fun e=>e.length==1)=true)=true:=decide_eq_true ⟨by simp,by decide,by decide,by simp;omega,rfl⟩
   have k1:(kids++ [A.1]).length=kids.length+1:=by simp
   have k2:(kids++ [A.1]).map qAz=kids.map qAz++ [[PV.i .i64 A.1]]:=by simp [qAz]
   cases c1:(sIs [41] A.2).1 with
   |true=>
    rw [if_pos rfl]
    have g:=a.trans (qEz (by simp) c1)
    obtain ⟨n3,h3⟩:=qKN (s:=s) (ndK 6 op (kids++ [A.1])) (sIs [41] A.2).2 (by have:=(hi.go g).2;omega) (qIr (by simp;omega))
    refine ⟨.inl (qCX s (qEA (ndK 6 op (kids++ [A.1])) (sIs [41] A.2).2)),.inl rfl,n1+n2+n3+1,fun n hn M hM=>?_⟩
    obtain ⟨M,rfl,hM⟩:=up1 hM
    have h3:_=some _:=h3 n (by omega)
    simp only [ndK,kd] at h3
    rw [k2] at h3
    exact qP (qD (qCm hb) (qA (h1 n (by omega)) (qD rfl (qD kl (qA (h2 n (by omega)) (qD c1 (qD (decide_eq_true (by simp)) (qA h3 rfl))))))))
   |false=>
    rw [if_neg (by simp)]
    have g:=a.tr0 (qKO [41] A.2)
    have gt:=(qKO [41] A.2).tb
    have i2:=hi.go g
    obtain ⟨n3,h3⟩:=qHB hs [44] (by simp) (sIs [41] A.2).2 i2.1
    cases c2:(sIs [44] (sIs [41] A.2).2).1 with
    |true=>
     rw [if_pos rfl]
     have b:=qEz (by simp) c2
     have bl:=qS3 (by simp) c2
     have bs:=qBu (g.trans b)
     have b1:=b.sum
     have eq3:(sIs [44] (sIs [41] A.2).2).2.2=(sIs [41] A.2).2.2:=by obtain ⟨_,e,_⟩:=qLH c2;rw [e]
     rw [eq3] at b1
     have g0:=qBu g
     obtain ⟨x,hx,n4,h4⟩:=qFI H hs f (.call op (kids++ [A.1])) (sIs [44] (sIs [41] A.2).2).2 (.inr (by omega)) (i2.go b) (.inr (by rw [k1];omega))
     refine ⟨x,hx,n1+n2+n3+n4+1,fun n hn M hM=>?_⟩
     obtain ⟨M,rfl,hM⟩:=up1 hM
     have h4:=h4 n (by omega) M (by omega)
     rw [k1,k2] at h4
     rw [qT (v':=(op,kids.length+1,kids.map qAz++ [[PV.i .i64 A.1]],qCt s (sIs [44] (sIs [41] A.2).2).2)) (by
      exact qD (qCm hb) (qA (h1 n (by omega)) (qD rfl (qD kl (qA (h2 n (by omega)) (qO c1 (qA (h3 n (by omega)) (qO (qAt c2) rfl))))))))]
     exact h4
    |false=>
     rw [if_neg (by simp)]
     have b:=qKO [44] (sIs [41] A.2).2
     obtain ⟨x,hx,n4,h4⟩:=qFI H hs f (.call op (kids++ [A.1])) (qLs (sIs [44] (sIs [41] A.2).2).2) (.inl ⟨rfl,by omega⟩) (i2.go (qP6 b)) (.inl rfl)
     refine ⟨x,hx,n1+n2+n3+n4+1,fun n hn M hM=>?_⟩
     obtain ⟨M,rfl,hM⟩:=up1 hM
     have h4:=h4 n (by omega) M (by omega)
     rw [k1,k2] at h4
     rw [qT (v':=(op,kids.length+1,kids.map qAz++ [[PV.i .i64 A.1]],qCt s (qLs (sIs [44] (sIs [41] A.2).2).2))) (by
      exact qD (qCm hb) (qA (h1 n (by omega)) (qD rfl (qD kl (qA (h2 n (by omega)) (qO c1 (qA (h3 n (by omega)) (qD (qCm c2) rfl))))))))]
     exact h4
 |f+1,.arg,q,ha,hi,_=>by
  replace ha:20*(tb q.1).length+10≤f+1:=ha
  have hr:q.1.length≤1000:=Nat.le_trans (qDN hi.1) hs
  have htl:=q9 q.1
  unfold sP
  simp only
  have t:=qMd q
  have it:=hi.go t
  have w:=qQ8 q
  have iw:=hi.go w
  obtain ⟨n1,h1⟩:=qRf hs q hi.1
  obtain ⟨n2,h2⟩:=qP4 hs (tb q.1,q.2) it.1
  obtain ⟨n3,h3⟩:=srp (tb q.1) (by omega)
  obtain ⟨n4,h4⟩:=qHB hs [58] (by simp) (wr (tb q.1),q.2) iw.1
  have eq2:(sIs [58] (wr (tb q.1),q.2)).2.2=q.2:=by
   cases c:(sIs [58] (wr (tb q.1),q.2)).1 with
   |true=>obtain ⟨_,e,_⟩:=qLH c;rw [e]
   |false=>rw [qQ9 c]
  by_cases hc:(qA0 (BR (wd (tb q.1)))).2.2.2.2=true∧(sIs [58] (wr (tb q.1),q.2)).1=true
  ·rw [if_pos hc]
   have g:=w.trans (qEz (by simp) hc.2)
   have ig:=hi.go g
   have rg:=qBu g
   generalize sIs [58] (wr (tb q.1),q.2)=I at*
   have gt:=qMd I.2
   have gw:=qQ8 I.2
   have il:=q9 I.2.1
   obtain ⟨n5,h5⟩:=qRf hs I.2 ig.1
   obtain ⟨n6,h6⟩:=qP4 hs (tb I.2.1,I.2.2) (ig.go gt).1
   obtain ⟨n7,h7⟩:=srp (tb I.2.1) (by omega)
   cases hp:(qA0 (BR (wd (tb I.2.1)))).2.2.2.2 with
   |true=>
    rw [if_pos rfl]
    obtain ⟨n8,h8⟩:=qKN (s:=s) (ndA (qA0 (BR (wd (tb q.1)))) (qA0 (BR (wd (tb I.2.1))))) (wr (tb I.2.1),I.2.2) (by have:=(ig.go gw).2;simp only at this⊢;omega) ⟨by simp [kd,ndA],by simp [ndA,em];decide⟩
    refine ⟨n1+n2+n3+n4+n5+n6+n7+n8+1,fun n hn=>?_⟩
    obtain ⟨k,rfl,hm⟩:=up1 hn
    exact qA (h1 k (by omega)) (qA (h2 k (by omega)) (qA (h3 k (by omega)) (qD hc.1 (qA (h4 k (by omega)) (qD hc.2 (qA (h5 k (by omega)) (qA (h6 k (by omega)) (qA (h7 k (by omega)) (qO (qAt hp) (qA (h8 k (by omega)) rfl))))))))))
   |false=>
    rw [if_neg (by simp)]
    refine ⟨n1+n2+n3+n4+n5+n6+n7+1,fun n hn=>?_⟩
    obtain ⟨k,rfl,hm⟩:=up1 hn
    exact qA (h1 k (by omega)) (qA (h2 k (by omega)) (qA (h3 k (by omega)) (qD hc.1 (qA (h4 k (by omega)) (qD hc.2 (qA (h5 k (by omega)) (qA (h6 k (by omega)) (qA (h7 k (by omega)) (qD (qCm hp) rfl)))))))))
  ·rw [if_neg hc]
   obtain ⟨n5,h5⟩:=qFI H hs f (.row 1) (tb q.1,q.2) ⟨by simp only [qCW];omega,by omega,by omega⟩ it trivial
   refine ⟨n1+n2+n3+n4+n5+1,fun n hn=>?_⟩
   obtain ⟨k,rfl,hm⟩:=up1 hn
   cases hp:(qA0 (BR (wd (tb q.1)))).2.2.2.2 with
   |true=>
    have ht:(sIs [58] (wr (tb q.1),q.2)).1=false:=by rw [Bool.eq_false_iff];exact fun e=>hc ⟨hp,e⟩
    have h4:=h4 k (by omega)
    have e4:qCt s (sIs [58] (wr (tb q.1),q.2)).2=(BR s,pos s (sIs [58] (wr (tb q.1),q.2)).2.1,q.2.1,q.2.2.length,q.2.2.map qW):=by unfold qCt;rw [eq2]
    rw [e4] at h4
    exact qA (h1 k (by omega)) (qA (h2 k (by omega)) (qA (h3 k (by omega)) (qD hp (qA h4 (qO ht (qA (h5 k (by omega)) rfl))))))
   |false=>exact qA (h1 k (by omega)) (qA (h2 k (by omega)) (qA (h3 k (by omega)) (qO hp (qA (h5 k (by omega)) rfl))))
theorem qTM {w:List UInt8} (h:w.all wch=true) (hn:w≠ []):(qBH (BR w)).1=1∨(qBH (BR w)).1=3:=by
 cases w with
 |nil=>exact absurd rfl hn
 |cons c t=>
  simp only [List.all_cons,Bool.and_eq_true] at h
  have h39:¬(c::t).head?=some 39:=by
   intro e;simp at e;rw [e] at h;exact absurd h.1 (by decide)
  have h35:¬(c::t).head?=some 35:=by
   intro e;simp at e;rw [e] at h;exact absurd h.1 (by decide)
  unfold qBH
  rw [qAP,if_neg h39]
  split
  ·exact .inr rfl
  ·split
   ·exact .inr rfl
   ·exact .inl rfl
theorem qUh:RdOK where
 v:=fun w h hn ho=>by
  have c:=qTM h hn
  unfold qi at ho⊢
  split at ho
  ·rename_i hc;rw [if_pos hc];exact c
  ·cases ho
 v0:=by
  have:(qi (BR [])).1=0:=by
   have:(qi ⟨#[]⟩).1=0:=by decide+kernel
   exact this
  rw [this];decide
 p0:=by
  have:(qA0 ⟨#[]⟩).2.2.2.2=false:=by decide+kernel
  exact this
 f:=fun w op h=>by
  have t:∀a:Fin 10,(qi (fnS (((a.val:Nat):Int)+1))).2.2.2=false∧(qA0 (fnS (((a.val:Nat):Int)+1))).2.2.2.2=false:=by decide+kernel
  have e:∀(k:Nat) (i:Int),1≤i→i+k≤11→qGF w i k=some op→∃j:Int,1≤j∧j≤10∧(fnS j).toList=w:=by
   intro k
   induction k with
   |zero=>intro i _ _ h;cases h
   |succ k ih=>
    intro i h1 h2 h
    unfold qGF at h
    split at h
    ·rename_i hq;exact ⟨i,h1,by omega,hq⟩
    ·exact ih (i+1) (by omega) (by omega) h
  obtain ⟨j,j1,j2,rfl⟩:=e 10 1 (by omega) (by omega) h
  rw [qIS]
  have:=t ⟨(j-1).toNat,by omega⟩
  simp only at this
  rwa [show (((j-1).toNat:Nat):Int)+1=j by omega] at this
 f0:=by decide+kernel
 n:=fun n hn=>by
  have c:n=1∨n=2∨n=3∨n=4∨n=5:=by omega
  rcases c with rfl|rfl|rfl|rfl|rfl
  ·exact ⟨[68,73,86,33],by decide+kernel⟩
  ·exact ⟨[84,89,80,69,33],by decide+kernel⟩
  ·exact ⟨[82,69,70,33],by decide+kernel⟩
  ·exact ⟨[79,86,69,82,33],by decide+kernel⟩
  ·exact ⟨[67,89,67,76,69,33],by decide+kernel⟩
def qRB (s:ByteArray):PS:=(pP 4050 (.bin 1 0) (s.toList,false,[])).2
def qA1 (s:ByteArray):List Nd×Bool:=
 if qCq s 200=true∧(qRB s).2.1=false∧tb (qRB s).1= []∧qES (qRB s).2.2=true then ((qRB s).2.2,true) else ([],false)
theorem qKb {s:ByteArray} (h:qCq s 200=true):s.toList.length≤200:=by
 unfold qCq at h
 simp only [Bool.and_eq_true,decide_eq_true_eq] at h
 rw [qAQ];omega
theorem qSf {s:ByteArray} (h:qCq s 200=true):Gd (s.toList,false,[]):=⟨by have:=qKb h;simp only;omega,by simp,fun x hx=>by cases hx⟩
theorem qIT {l:List Nd} (h:∀x∈l,qOk x):∀c∈l,(kd c).length≤140737488351232∧c.2.2.2.2.1.size≤140737488351232:=fun c hc=>by
 have:=h c hc
 exact ⟨by have:=this.1;omega,by have:=this.2;omega⟩
theorem qF7 (s:ByteArray) (hb:s.size≤140737488351232):Ev (qDJ · s) ((qA1 s).1.map qW,(qA1 s).2):=by
 obtain ⟨n1,h1⟩:=qKA s 200 hb
 by_cases hp:qCq s 200=true
 ·have hl:=qKb hp
  have htb:=q9 s.toList
  have hg:=qSf hp
  obtain ⟨n2,h2⟩:=qFH 4050 (.bin 1 0) (s.toList,false,[]) (by show 20*(tb s.toList).length+6≤4050;omega) ⟨by decide,by decide⟩ hg trivial
  have g:=(qE4 4050 (.bin 1 0) (s.toList,false,[]) hg trivial).1
  have e0:(pP 4050 (.bin 1 0) (s.toList,false,[])).2=qRB s:=rfl
  rw [e0] at g
  generalize pP 4050 (.bin 1 0) (s.toList,false,[])=P at h2 e0
  rw [qIS] at h2
  unfold qA1
  rw [←e0] at g⊢
  obtain ⟨n3,h3⟩:=qHY P.2.1 P.2.2.2.length P.2.2.1 (P.2.2.2.map qW)
  obtain ⟨n4,h4⟩:=qHX P.2.2.2 (by have:=g.n;omega) (qIT g.s)
  refine ⟨n1+n2+n3+n4+1,fun n hn=>?_⟩
  obtain ⟨k,rfl,hm⟩:=up1 hn
  have h1:=h1 k (by omega)
  rw [hp] at h1
  refine qA h1 (qO rfl (qA (h2 k (by omega)) (qA (h3 k (by omega)) ?_)))
  by_cases hbad:P.2.2.1=true
  ·rw [if_neg (fun h=>by rw [hbad] at h;cases h.2.1)]
   exact qD hbad (qD rfl rfl)
  ·have hbad:P.2.2.1=false:=by rw [Bool.eq_false_iff];exact hbad
   refine qO hbad ?_
   by_cases hr:tb P.2.1= []
   ·refine qO (qAt (by rw [beq_iff_eq,qAH];show (BR (tb P.2.1)).toList= [];rw [qAP];exact hr)) (qD (decide_eq_true (by simp)) (qA (h4 k (by omega)) (qD (qF _) ?_)))
    cases ho:qES P.2.2.2 with
    |true=>
     rw [if_pos ⟨hp,hbad,hr,rfl⟩]
     exact qO rfl (qD (decide_eq_true (by simp)) rfl)
    |false=>
     rw [if_neg (fun h=>by cases h.2.2.2)]
     exact qD rfl (qD rfl rfl)
   ·rw [if_neg (fun h=>hr h.2.2.1)]
    exact qD (qCm (by rw [beq_eq_false_iff_ne,qAH];show (BR (tb P.2.1)).toList≠ [];rw [qAP];exact hr)) (qD rfl rfl)
 ·refine ⟨n1+1,fun n hn=>?_⟩
  obtain ⟨k,rfl,hm⟩:=up1 hn
  unfold qA1
  rw [if_neg (fun h=>hp h.1)]
  exact qA (h1 k (by omega)) (qD (qCm (by rw [Bool.eq_false_iff];exact hp)) (qD rfl rfl))
theorem qTN {l:List Nd} (h:∃x∈l,qE3 x=false):qES l=false:=by
 obtain ⟨x,hx,hb⟩:=h
 rw [Bool.eq_false_iff]
 intro ho
 unfold qES at ho
 simp only [Bool.and_eq_true] at ho
 obtain ⟨i,hi⟩:=List.mem_iff_getElem?.1 hx
 have hil:=(List.getElem?_eq_some_iff.1 hi).1
 have:=(qFb.1 ho.2.1 (i:Int) (by omega) (by omega)).1
 unfold qGE at this
 have e:ndi l (i:Int)=x:=by unfold ndi;simp [hi]
 rw [e,hb] at this
 cases this
theorem qF8 (s:ByteArray) (hb:s.size≤140737488351232):Ev (qDF · s) ((qA1 s).1.map qW,(qA1 s).2):=by
 obtain ⟨n1,h1⟩:=qJC s hb
 by_cases hp:qCq s 200=true
 ·have hl:=qKb hp
  have hs:s.toList.length≤1000:=by omega
  have htb:=q9 s.toList
  have hg:=qSf hp
  have gi:=(qE4 4050 (.bin 1 0) (s.toList,false,[]) hg trivial).1
  have sim:=(qUD qUh (tb s.toList).length).2.2.1 (s.toList,false,[]) (s.toList,false,[]) 0 4 4050 4050 (by omega) ⟨rfl,rfl,rfl,rfl⟩ rfl (by omega) (by omega) (by omega) (by omega)
  rw [show (5:Int)-((4:Nat):Int)=1 from rfl] at sim
  have iv:Iv s.toList (s.toList,false,[]):=⟨List.suffix_rfl,by simp;omega⟩
  obtain ⟨n2,h2⟩:=qFI qUh hs 4050 (.row 1) (s.toList,false,[]) ⟨by simp only;omega,by omega,by omega⟩ iv trivial
  have g:=qE5 qUh 4050 (.row 1) (s.toList,false,[]) hs trivial
  have e0:(pP 4050 (.bin 1 0) (s.toList,false,[])).2=qRB s:=rfl
  generalize pP 4050 (.bin 1 0) (s.toList,false,[])=P at sim e0 gi
  generalize sP 4050 (.row 1) (s.toList,false,[])=Q at sim h2 g
  unfold qA1
  rw [←e0]
  obtain ⟨n3,h3⟩:=qRf hs Q.2 (iv.go g).1
  obtain ⟨n4,h4⟩:=qEx Q.2.2.2 (qIT (g.sm (fun x hx=>by cases hx)))
  have p0:pos s.toList s.toList=0:=by unfold pos;simp
  simp only [qIS,p0] at h2 h3
  have g2:=(qSe (iv.go g).1)
  refine ⟨n1+n2+n3+n4+1,fun n hn=>?_⟩
  obtain ⟨k,rfl,hm⟩:=up1 hn
  have h1:=h1 k (by omega)
  rw [hp] at h1
  have h2:=h2 k (by omega)
  have h3:=h3 k (by omega)
  have e1:qCX s.toList Q=(Q.1,s,pos s.toList Q.2.1,Q.2.2.1,Q.2.2.2.length,Q.2.2.2.map qW):=by unfold qCX qCt;rw [qIS]
  have e2:qCt s.toList (tb Q.2.1,Q.2.2)=(s,pos s.toList (tb Q.2.1),Q.2.2.1,Q.2.2.2.length,Q.2.2.2.map qW):=by unfold qCt;rw [qIS]
  rw [e1] at h2
  rw [e2] at h3
  refine qA h1 (qO rfl (qA h2 (qA h3 ?_)))
  rcases sim with ⟨_,hk,_⟩|⟨hbad,hd⟩
  ·obtain ⟨k1,k2,k3,k4⟩:=hk
   rw [k1,k3,k4]
   refine qO k2 ?_
   by_cases hr:tb Q.2.1= []
   ·refine qO (decide_eq_false (show ¬pos s.toList (tb Q.2.1)<(s.size:Int) by rw [hr];unfold pos;simp [qAQ])) (qD (decide_eq_true (by simp)) (qA (h4 k (by omega)) (qD (qF _) ?_)))
    cases ho:qES Q.2.2.2 with
    |true=>
     rw [if_pos ⟨hp,rfl,hr,rfl⟩]
     exact qO rfl (qD (decide_eq_true (by simp)) rfl)
    |false=>
     rw [if_neg (fun h=>by cases h.2.2.2)]
     exact qD rfl (qD rfl rfl)
   ·rw [if_neg (fun h=>hr h.2.2.1)]
    have hlp:=List.length_pos_iff.2 hr
    have hsl:=qDN g2
    exact qD (decide_eq_true (show pos s.toList (tb Q.2.1)<(s.size:Int) by rw [qAQ] at hsl;unfold pos;rw [qAQ];omega)) (qD rfl rfl)
  ·rw [if_neg (fun h=>by
    rcases hd with hd|hd
    ·rw [hd] at h;cases h.2.1
    ·rw [qTN hd] at h;cases h.2.2.2)]
   exact qD hbad (qD rfl rfl)
 ·refine ⟨n1+1,fun n hn=>?_⟩
  obtain ⟨k,rfl,hm⟩:=up1 hn
  unfold qA1
  rw [if_neg (fun h=>hp h.1)]
  exact qA (h1 k (by omega)) (qD (qCm (by rw [Bool.eq_false_iff];exact hp)) (qD rfl rfl))
theorem qKP (s:ByteArray):(qA1 s).1.length≤60∧∀x∈(qA1 s).1,qOk x:=by
 unfold qA1
 split
 ·rename_i h
  have g:=(qE4 4050 (.bin 1 0) (s.toList,false,[]) (qSf h.1) trivial).1
  exact ⟨g.n,g.s⟩
 ·exact ⟨by simp,fun x hx=>by cases hx⟩
theorem qP8:∀(l:List UInt8) (acc:Nat) {u:Nat},l.all qA7=true→Lib.parseUintM (2^64-1) acc l= .ok u→u=qAe acc l
 | [],acc,u,_,h=>by simp only [Lib.parseUintM] at h;cases h;rfl
 |c::r,acc,u,hd,h=>by
  simp only [List.all_cons,Bool.and_eq_true] at hd
  have hc:=hd.1
  simp only [qA7,Bool.and_eq_true,decide_eq_true_eq] at hc
  unfold Lib.parseUintM at h
  rw [qDu]
  rw [if_pos hc] at h
  by_cases h1:1844674407370955162≤acc
  ·rw [if_pos h1] at h;cases h
  ·rw [if_neg h1] at h
   by_cases h2:2^64-1<acc*10+(c.toNat-48)
   ·rw [if_pos h2] at h;cases h
   ·rw [if_neg h2] at h
    exact qP8 r _ hd.2 h
theorem qSg {p:UInt8→Bool}:∀l:List UInt8,(l.dropWhile p= [])↔l.all p=true
 | []=>by simp
 |c::r=>by
  rw [List.dropWhile_cons,List.all_cons]
  by_cases h:p c=true
  ·rw [if_pos h,h,Bool.true_and];exact qSg r
  ·rw [if_neg h];simp [h]
theorem qS5 {p:UInt8→Bool}:∀(l:List UInt8) {a:UInt8} {r:List UInt8},l.dropWhile p=a::r→p a=false
 | [],a,r,h=>by simp at h
 |c::l,a,r,h=>by
  rw [List.dropWhile_cons] at h
  by_cases hc:p c=true
  ·rw [if_pos hc] at h;exact qS5 l h
  ·rw [if_neg hc] at h
   cases h
   rw [Bool.eq_false_iff];exact hc
theorem qTo:∀i:Fin 256,((⟨#[48,49,50,51,52,53,54,55,56,57]⟩:ByteArray).data.toList.contains (UInt8.ofNat i.val))=qA7 (UInt8.ofNat i.val):=by decide+kernel
theorem qSJ {p:UInt8→Bool} {t:List UInt8}:((t.reverse.dropWhile p).reverse.dropWhile p= [])↔t.all p=true:=by
 rw [qSg]
 constructor
 ·intro h
  cases hx:t.reverse.dropWhile p with
  |nil=>
   rw [qSg] at hx
   rw [List.all_eq_true] at hx⊢
   exact fun x hx'=>hx x (by simpa using hx')
  |cons a r=>
   rw [List.all_eq_true] at h
   have h1:=h a (by rw [hx];simp)
   rw [qS5 _ hx] at h1
   cases h1
 ·intro h
  rw [List.all_eq_true] at h⊢
  intro x hx
  rw [List.mem_reverse] at hx
  exact h x (by simpa using (List.dropWhile_suffix p).subset hx)
def qHG (s:List UInt8):List UInt8:=if s.head?=some 45 then s.tail else s
def qKQ (s:List UInt8):Int:=if s.head?=some 45 then-((qAe 0 (qHG s):Nat):Int) else ((qAe 0 (qHG s):Nat):Int)
def qQj (s:List UInt8):Bool:=decide (qHG s≠ [])&&(qHG s).all qA7
def qE0 (s:List UInt8):Bool:=qQj s&&okV 1 (qKQ s) em
theorem qTp (s:List UInt8):(qHG s).length≤s.length:=by unfold qHG;split<;>simp
theorem qSK (s:List UInt8) (h:s.length≤1000):Ev (qEF · (BR s)) (qQj s):=by
 refine ⟨10,fun n hn=>?_⟩
 obtain ⟨k,rfl⟩:∃k,n=k+5:=⟨n-5,by omega⟩
 have tp:qDk (k+4) (BR s) ⟨#[45]⟩=some (BR (qHG s)):=by
  have hp:qAA (k+2) (BR s) ⟨#[45]⟩=some (List.isPrefixOf [45] s):=by
   have:=qBY (k+1) s [45]
   simp only [ql,qB7,qC,qE,qH,qJ,qK,qM,Option.bind_some,qF,qG,qN] at this
   have e:∀o:Option Bool,(o.bind fun x=>some x)=o:=fun o=>by cases o<;>rfl
   rw [e] at this
   exact this
  have inner:qBO (k+3) (BR s) ⟨#[45]⟩=some (BR (qHG s)):=by
   by_cases hh:s.head?=some 45
   ·rw [(qEy 45 s).2 hh] at hp
    obtain ⟨t,rfl⟩:=qKY hh
    unfold qHG
    rw [if_pos hh]
    refine qA hp (qD rfl (qD (decide_eq_true ⟨by decide,by rw [qb];show (1:Int)≤_;simp;omega,Int.le_refl _⟩) ?_))
    rw [qC]
    show some ((BR (45::t)).extract 1 ((((BR (45::t)).size:Nat):Int)).toNat)=_
    rw [qFG,qb]
    simp
   ·have e:List.isPrefixOf [45] s=false:=by rw [Bool.eq_false_iff];exact fun e=>hh ((qEy 45 s).1 e)
    rw [e] at hp
    unfold qHG
    rw [if_neg hh]
    exact qA hp (qO rfl rfl)
  exact qA inner rfl
 have tl:=qTp s
 unfold qQj
 generalize qHG s=t at tp tl⊢
 refine qA tp ?_
 by_cases ht:t= []
 ·subst ht
  refine qO (qAt (by rw [qAP,qAH];rfl)) ?_
  rfl
 ·refine qD (qCm (by rw [beq_eq_false_iff_ne,qAP,qAH];exact ht)) ?_
  have tr:qGx (k+4) (BR t) ⟨#[48,49,50,51,52,53,54,55,56,57]⟩=some (BR (((t.reverse.dropWhile qA7).reverse).dropWhile qA7)):=by
   show zAF (BR t) ⟨#[48,49,50,51,52,53,54,55,56,57]⟩=_
   unfold zAF
   rw [if_pos ⟨by rw [qb];omega,by decide,by decide+kernel⟩]
   unfold Lib.trimS Lib.trimLeftS Lib.trimRightS
   have:(fun c=>(⟨#[48,49,50,51,52,53,54,55,56,57]⟩:ByteArray).data.toList.contains c)=qA7:=funext (qSb qTo)
   rw [this,←Go.Lib.toList_data (BR t),qAP]
   rfl
  refine qA tr ?_
  rw [qC]
  congr 1
  have dt:decide (t≠ [])=true:=decide_eq_true ht
  rw [dt,Bool.true_and,qAP,qAH]
  by_cases ha:t.all qA7=true
  ·rw [qSJ.2 ha,ha];rfl
  ·have hx:¬(t.reverse.dropWhile qA7).reverse.dropWhile qA7= []:=fun e=>ha (qSJ.1 e)
   rw [beq_eq_false_iff_ne.2 hx,Bool.eq_false_iff.2 ha]
theorem qUi {n:Int}:okV 1 n em=true↔-1000000000000000≤n∧n≤1000000000000000:=by
 simp [okV,em,qAH]
theorem qNf {s:List UInt8} (h:qQj s=true):(∀n,Lib.parseIntB 64 s= .ok n→n=qKQ s)∧(qE0 s=true→Lib.parseIntB 64 s= .ok (qKQ s)):=by
 have hd:=h
 unfold qQj at hd
 simp only [Bool.and_eq_true,decide_eq_true_eq] at hd
 obtain ⟨h1,h2⟩:=hd
 have p:(2:Nat)^(64-1)=9223372036854775808:=by decide
 have hne:s≠ []:=fun e=>h1 (by rw [e];rfl)
 obtain ⟨c,r,rfl⟩:∃c r,s=c::r:=by
  cases s with
  |nil=>exact absurd rfl hne
  |cons c r=>exact ⟨c,r,rfl⟩
 have c45:(c.toNat=45)↔c=45:=⟨fun e=>UInt8.toNat_inj.1 (show c.toNat=(45:UInt8).toNat from e),fun e=>by rw [e];rfl⟩
 have nt:qHG (c::r)=if c.toNat=43∨c.toNat=45 then r else c::r:=by
  unfold qHG
  by_cases hc:c=45
  ·subst hc;simp
  ·have hc2:¬c.toNat=45:=fun e=>hc (c45.1 e)
   have ht:qHG (c::r)=c::r:=by unfold qHG;rw [if_neg (by simpa using hc)]
   rw [ht] at h2
   simp only [List.all_cons,Bool.and_eq_true,qA7,decide_eq_true_eq] at h2
   rw [if_neg (by simpa using hc),if_neg (by omega)]
 have nv:qKQ (c::r)=if c.toNat=45 then-((qAe 0 (qHG (c::r)):Nat):Int) else ((qAe 0 (qHG (c::r)):Nat):Int):=by
  unfold qKQ
  by_cases hc:c=45
  ·subst hc;rfl
  ·rw [if_neg (by simpa using hc),if_neg (fun e=>hc (c45.1 e))]
 unfold Lib.parseIntB
 simp only
 rw [←nt]
 unfold Lib.parseUintB
 rw [if_neg h1]
 constructor
 ·intro n hn
  rcases hq:Lib.parseUintM (2^64-1) 0 (qHG (c::r)) with u|_|_
  rotate_left
  ·rw [hq] at hn;cases hn
  ·rw [hq] at hn;cases hn
  ·have hu:=qP8 _ 0 h2 hq
   rw [hq] at hn
   simp only at hn
   split at hn
   ·cases hn
   ·split at hn
    ·cases hn
    ·injection hn with hn
     rw [nv,←hu,←hn]
 ·intro ho
  unfold qE0 at ho
  simp only [Bool.and_eq_true] at ho
  have hb:=qUi.1 ho.2
  have hv:qAe 0 (qHG (c::r))≤1000000000000000:=by
   rw [nv] at hb
   split at hb<;>omega
  rw [qNR _ 0 h2 (by omega)]
  simp only
  rw [if_neg (by rw [p];omega),if_neg (by rw [p];omega),nv]
def szL:List UInt8→List UInt8
 | []=> []
 |c::t=>if t≠ []∧c=48 then szL t else c::t
theorem qOz:∀l:List UInt8,qAe 0 (szL l)=qAe 0 l
 | []=>rfl
 |c::t=>by
  unfold szL
  split
  ·rename_i h
   rw [qOz t,qDu,h.2]
   rfl
  ·rfl
theorem qRi:∀l:List UInt8,(szL l).all qA7=l.all qA7
 | []=>rfl
 |c::t=>by
  unfold szL
  split
  ·rename_i h
   rw [qRi t,List.all_cons,h.2]
   simp [qA7]
  ·rfl
theorem qUQ:∀l:List UInt8,l≠ []→szL l≠ []
 | [],h=>absurd rfl h
 |c::t,_=>by
  unfold szL
  split
  ·rename_i h;exact qUQ t h.1
  ·simp
theorem qRj:∀l:List UInt8,(szL l).head?=some 48→(szL l).length=1
 | [],h=>by cases h
 |c::t,h=>by
  unfold szL at h⊢
  split at h
  ·rename_i hc;rw [if_pos hc];exact qRj t h
  ·rename_i hc
   rw [if_neg hc]
   have h48:c=48:=by simpa using h
   have:t= []:=Classical.byContradiction fun e=>hc ⟨e,h48⟩
   rw [this];rfl
theorem qTq {l:List UInt8} (h:l≠ []):qF5 (szL l)=l.all qA7:=by
 unfold qF5
 rw [qRi]
 have h1:(szL l== [])=false:=beq_eq_false_iff_ne.2 (qUQ l h)
 rw [h1]
 by_cases e:(szL l).head?=some 48
 ·rw [qRj l e];simp
 ·rw [beq_eq_false_iff_ne.2 e];simp
theorem qSL:∀(l:List UInt8) (acc:Nat),acc*10^l.length≤qAe acc l
 | [],acc=>by rw [qG3];simp
 |c::r,acc=>by
  have:=qSL r (acc*10+(c.toNat-48))
  rw [qDu,List.length_cons,Nat.pow_succ]
  refine Nat.le_trans ?_ this
  rw [show acc*(10^r.length*10)=acc*10*10^r.length by rw [Nat.mul_comm (10^r.length) 10,Nat.mul_assoc]]
  exact Nat.mul_le_mul_right _ (by omega)
theorem qUj {l:List UInt8} (hd:l.all qA7=true) (h:16<(szL l).length):10000000000000000≤qAe 0 l:=by
 rw [←qOz]
 rw [←qRi] at hd
 have hh:=qRj l
 cases hz:szL l with
 |nil=>rw [hz] at h;simp at h
 |cons c r=>
  rw [hz] at h hd hh
  simp only [List.length_cons] at h
  have hc:¬c=48:=fun e=>by
   have:=hh (by rw [e];rfl)
   simp only [List.length_cons] at this
   omega
  simp only [List.all_cons,Bool.and_eq_true,qA7,decide_eq_true_eq] at hd
  have hc2:¬c.toNat=48:=fun e=>hc (UInt8.toNat_inj.1 (show c.toNat=(48:UInt8).toNat from e))
  rw [qDu]
  have a:=qSL r (0*10+(c.toNat-48))
  have p:10^16≤10^r.length:=Nat.pow_le_pow_right (by decide) (by omega)
  have p16:(10:Nat)^16=10000000000000000:=by decide
  have:1*10^r.length≤(0*10+(c.toNat-48))*10^r.length:=Nat.mul_le_mul_right _ (by omega)
  omega
theorem qMe (n:Nat) (neg:Bool) (a b:Int) (e:ByteArray):∀(l:List UInt8) (M:Nat),l.length≤1000→l.length+1≤M→zD (qBg n) M (BR l,neg,a,b,e)=some (BR (szL l),neg,a,b,e)
 |l,0,_,h=>by omega
 | [],M+1,_,_=>qP (qO (decide_eq_false (show ¬((BR []).size:Int)>1 by rw [qb];decide)) rfl)
 |c::t,M+1,hl,h=>by
  simp only [List.length_cons] at h hl
  unfold szL
  by_cases ht:t= []
  ·rw [if_neg (fun h=>h.1 ht)]
   subst ht
   exact qP (qO (decide_eq_false (show ¬((BR [c]).size:Int)>1 by rw [qb];simp)) rfl)
  ·have hpos:=List.length_pos_iff.2 ht
   have g0:decide (((BR (c::t)).size:Int)>1)=true:=decide_eq_true (by rw [qb];simp only [List.length_cons];omega)
   have g1:(BR (c::t)).toList[((0:Int)).toNat]?=some c:=by rw [qAP];rfl
   by_cases hc:c=48
   ·rw [if_pos ⟨ht,hc⟩]
    subst hc
    rw [qT (v':=(BR t,neg,a,b,e)) (by
     refine qD g0 (qD rfl (qA g1 (qD rfl (qD (decide_eq_true ⟨by decide,by rw [qb];simp only [List.length_cons];omega,Int.le_refl _⟩) ?_))))
     rw [qC]
     show some (Sum.inl ((BR (48::t)).extract 1 ((((BR (48::t)).size:Nat):Int)).toNat,neg,a,b,e))=_
     rw [qFG,qb]
     simp)]
    exact qMe n neg a b e t M (by omega) (by omega)
   ·rw [if_neg (fun h=>hc h.2)]
    refine qP (qD g0 (qD rfl (qA g1 (qO ?_ rfl))))
    rw [beq_eq_false_iff_ne]
    intro e
    exact hc (UInt8.toNat_inj.1 (show c.toNat=48 by omega))
theorem qUk {l:List UInt8} (h:l≠ []):l1I (szL l) 16=if (szL l).length≤16∧l.all qA7=true then (((qAe 0 l:Nat):Int),true) else (0,false):=by
 unfold l1I
 rw [qTq h,qOz]
 by_cases hh:(szL l).length≤16∧l.all qA7=true
 ·rw [if_pos hh,if_pos ⟨by have:=hh.1;omega,hh.2⟩]
 ·rw [if_neg hh,if_neg (fun e=>hh ⟨by have:=e.1;omega,e.2⟩)]
theorem qSM (neg:Bool) (t:List UInt8) (ht:t≠ []) (hl:t.length≤1000):∃r:Int×Int×ByteArray×Bool,(r.2.2.2=(t.all qA7&&okV 1 (if neg=true then-((qAe 0 t:Nat):Int) else ((qAe 0 t:Nat):Int)) em))∧(r.2.2.2=true→r=(1,(if neg=true then-((qAe 0 t:Nat):Int) else ((qAe 0 t:Nat):Int)),em,true))∧
  ∃n0,∀n,n0≤n→∃v:ByteArray×Bool×Int×Int×ByteArray,zD (qBg n) n (BR t,neg,0,0,⟨#[]⟩)=some v∧
   (Tr.opt (qu n v.1 16) fun r221=>(.ask (v.2.1)
    (.ask (r221.2) (.opt (qZ n 1 (IntKind.i64.wrap (0-r221.1)) ⟨#[]⟩) fun r222=>(.done ((1:Int),(IntKind.i64.wrap (0-r221.1)),(⟨#[]⟩:ByteArray),r222))) (.done ((1:Int),(IntKind.i64.wrap (0-r221.1)),(⟨#[]⟩:ByteArray),false)))
    (.ask (r221.2) (.opt (qZ n 1 r221.1 ⟨#[]⟩) fun r223=>(.done ((1:Int),r221.1,(⟨#[]⟩:ByteArray),r223))) (.done ((1:Int),r221.1,(⟨#[]⟩:ByteArray),false))))).run=some r:=by
 have hi:=qD9 (BR (szL t)) 16 (by decide)
 rw [qAP,qUk ht] at hi
 obtain ⟨n1,h1⟩:=hi
 by_cases hh:(szL t).length≤16∧t.all qA7=true
 ·have hv:qAe 0 t<10^(0+(szL t).length):=by
   have:=qRT (szL t) 0 0 (by rw [qRi];exact hh.2) (by decide)
   rwa [qOz] at this
  have hp:10^(0+(szL t).length)≤10^16:=Nat.pow_le_pow_right (by decide) (by omega)
  have p16:(10:Nat)^16=10000000000000000:=by decide
  have w1:IntKind.i64.wrap (0-((qAe 0 t:Nat):Int))= -((qAe 0 t:Nat):Int):=by rw [qU (by omega)];omega
  cases neg with
  |true=>
   obtain ⟨n2,h2⟩:=qAD 1 (-((qAe 0 t:Nat):Int)) em (by decide)
   refine ⟨(1,-((qAe 0 t:Nat):Int),em,okV 1 (-((qAe 0 t:Nat):Int)) em),by rw [hh.2];simp,fun e=>?_,n1+n2+t.length+1,fun n hn=>⟨_,qMe n true 0 0 _ t n hl (by omega),?_⟩⟩
   ·simp only at e;rw [e];rfl
   ·have h1:=h1 n (by omega)
    rw [if_pos hh] at h1
    have h2:=h2 n (by omega)
    rw [←w1] at h2
    refine qA h1 (qD rfl (qD rfl (qA h2 ?_)))
    rw [qC,w1];rfl
  |false=>
   obtain ⟨n2,h2⟩:=qAD 1 ((qAe 0 t:Nat):Int) em (by decide)
   refine ⟨(1,((qAe 0 t:Nat):Int),em,okV 1 ((qAe 0 t:Nat):Int) em),by rw [hh.2];simp,fun e=>?_,n1+n2+t.length+1,fun n hn=>⟨_,qMe n false 0 0 _ t n hl (by omega),?_⟩⟩
   ·simp only at e;rw [e];rfl
   ·have h1:=h1 n (by omega)
    rw [if_pos hh] at h1
    exact qA h1 (qO rfl (qD rfl (qA (h2 n (by omega)) rfl)))
 ·have hno:(t.all qA7&&okV 1 (if neg=true then-((qAe 0 t:Nat):Int) else ((qAe 0 t:Nat):Int)) em)=false:=by
   rw [Bool.eq_false_iff]
   intro e
   simp only [Bool.and_eq_true] at e
   have hb:=qUi.1 e.2
   have:16<(szL t).length:=by
    have:¬(szL t).length≤16:=fun h=>hh ⟨h,e.1⟩
    omega
   have:=qUj e.1 this
   split at hb<;>omega
  cases neg with
  |true=>
   refine ⟨(1,IntKind.i64.wrap (0-0),em,false),hno.symm,(fun e=>by cases e),n1+t.length+1,fun n hn=>⟨_,qMe n true 0 0 _ t n hl (by omega),?_⟩⟩
   have h1:=h1 n (by omega)
   rw [if_neg hh] at h1
   exact qA h1 (qD rfl (qO rfl rfl))
  |false=>
   refine ⟨(1,0,em,false),hno.symm,(fun e=>by cases e),n1+t.length+1,fun n hn=>⟨_,qMe n false 0 0 _ t n hl (by omega),?_⟩⟩
   have h1:=h1 n (by omega)
   rw [if_neg hh] at h1
   exact qA h1 (qO rfl (qO rfl rfl))
theorem qSN (s:List UInt8) (hs:s≠ []) (hl:s.length≤1000):∃r:Int×Int×ByteArray×Bool,r.2.2.2=qE0 s∧(qE0 s=true→r=(1,qKQ s,em,true))∧Ev (qFi · (BR s)) r:=by
 obtain ⟨c,t,rfl⟩:∃c t,s=c::t:=by
  cases s with
  |nil=>exact absurd rfl hs
  |cons c t=>exact ⟨c,t,rfl⟩
 simp only [List.length_cons] at hl
 have g0:decide (((BR (c::t)).size:Int)>0)=true:=decide_eq_true (by rw [qb];simp only [List.length_cons];omega)
 have g1:(BR (c::t)).toList[((0:Int)).toNat]?=some c:=by rw [qAP];rfl
 by_cases hc:c=45
 ·subst hc
  have ext:(BR (45::t)).extract ((1:Int)).toNat ((((BR (45::t)).size:Nat):Int)).toNat=BR t:=by rw [qFG,qb];simp
  have g2:decide (0≤(1:Int)∧(1:Int)≤((BR (45::t)).size:Int)∧((BR (45::t)).size:Int)≤((BR (45::t)).size:Int))=true:=decide_eq_true ⟨by decide,by rw [qb];simp only [List.length_cons];omega,Int.le_refl _⟩
  have nt:qHG (45::t)=t:=rfl
  have nv:qKQ (45::t)= -((qAe 0 t:Nat):Int):=rfl
  by_cases ht:t= []
  ·subst ht
   refine ⟨(0,0,⟨#[]⟩,false),by decide+kernel,(fun e=>by revert e;decide+kernel),1,fun n hn=>?_⟩
   obtain ⟨k,rfl,hm⟩:=up1 hn
   exact qD g0 (qD rfl (qA g1 (qD rfl (qD g2 (qD (by rw [ext,qAP,qAH];rfl) rfl)))))
  ·obtain ⟨r,r1,r2,n0,h0⟩:=qSM true t ht (by omega)
   have e:qE0 (45::t)=(t.all qA7&&okV 1 (-((qAe 0 t:Nat):Int)) em):=by
    unfold qE0 qQj
    rw [nt,nv,decide_eq_true ht,Bool.true_and]
   rw [if_pos rfl] at r1 r2
   refine ⟨r,by rw [e];exact r1,fun h=>by rw [nv];exact r2 (by rw [r1,←e];exact h),n0+1,fun n hn=>?_⟩
   obtain ⟨k,rfl,hm⟩:=up1 hn
   obtain ⟨v,lp,fin⟩:=h0 k (by omega)
   rw [←ext] at lp
   exact qD g0 (qD rfl (qA g1 (qD rfl (qD g2 (qO (by rw [ext,beq_eq_false_iff_ne,qAP,qAH];exact ht) (qA lp fin))))))
 ·have c45:((c.toNat:Int)==45)=false:=by
   rw [beq_eq_false_iff_ne];intro e
   exact hc (UInt8.toNat_inj.1 (show c.toNat=45 by omega))
  have hh:¬(c::t).head?=some 45:=by simpa using hc
  have nt:qHG (c::t)=c::t:=by unfold qHG;rw [if_neg hh]
  have nv:qKQ (c::t)=((qAe 0 (c::t):Nat):Int):=by unfold qKQ;rw [if_neg hh,nt]
  obtain ⟨r,r1,r2,n0,h0⟩:=qSM false (c::t) (by simp) (by simp only [List.length_cons];omega)
  have e:qE0 (c::t)=((c::t).all qA7&&okV 1 (((qAe 0 (c::t):Nat):Int)) em):=by
   unfold qE0 qQj
   rw [nt,nv,decide_eq_true (by simp),Bool.true_and]
  rw [if_neg (by simp)] at r1 r2
  refine ⟨r,by rw [e];exact r1,fun h=>by rw [nv];exact r2 (by rw [r1,←e];exact h),n0+1,fun n hn=>?_⟩
  obtain ⟨k,rfl,hm⟩:=up1 hn
  obtain ⟨v,lp,fin⟩:=h0 k (by omega)
  rw [←c45] at lp
  exact qD g0 (qD rfl (qA g1 (qO c45 (qO (by rw [beq_eq_false_iff_ne,qAP,qAH];simp) (qA lp fin)))))
def qFw (s:ByteArray):ByteArray×Bool:=
 if qCq s 200=false then (⟨#[]⟩,false) else if s.toList= [] then (⟨#[]⟩,true) else
 if s.toList.head?=some 61 then (if (qA1 (BR s.toList.tail)).2=true∧(qDC (qA1 (BR s.toList.tail)).1).toList≠ []∧(qDC (qA1 (BR s.toList.tail)).1).size<200 then (⟨#[61]⟩++qDC (qA1 (BR s.toList.tail)).1,true) else (⟨#[]⟩,false)) else
 if qE0 s.toList=true then (qHE (qKQ s.toList),true) else
 if (qi s).2.2.2=true then (s,true) else
 if s.size=200 then (⟨#[]⟩,false) else (⟨#[39]⟩++s,true)
theorem qSh (t:ByteArray):Ev (qBf · ((qA1 t).1.map qW)) (qDC (qA1 t).1):=qKx _ (by have:=(qKP t).1;omega) (qIT (qKP t).2)
theorem qSi (t:ByteArray):Ev (qBm · ((qA1 t).1.map qW)) (qDC (qA1 t).1):=qKy _ (by have:=(qKP t).1;omega) (qIT (qKP t).2)
theorem qP9 (l:List Nd):(qDC l).size≤200:=by
 unfold qDC
 split
 ·split
  ·decide
  ·omega
 ·decide
theorem qE1 {s:ByteArray} (h:s.toList≠ []):(s.toList==(⟨#[]⟩:ByteArray).toList)=false:=by rw [qAH];exact beq_eq_false_iff_ne.2 h
theorem qNv {s:ByteArray} (h:s.toList= []):(s.toList==(⟨#[]⟩:ByteArray).toList)=true:=by rw [qAH];exact beq_iff_eq.2 h
theorem qSO {s:ByteArray} (h:(qi s).2.2.2=true):okV (qi s).1 (qi s).2.1 (qi s).2.2.1=true∧(qCA (qi s).1 (qi s).2.1 (qi s).2.2.1)=s:=by
 unfold qi at h⊢
 split at h
 ·rename_i hc
  rw [if_pos hc]
  exact ⟨hc.1,qEt hc.2⟩
 ·cases h
theorem qU8 {s:ByteArray} (h:qCq s 200=true):okV 2 0 s=true:=by
 unfold okV
 rw [if_pos rfl,h]
 rfl
theorem qLt {s:ByteArray} (h:qCq s 200=true):s.size≤200:=by have:=qKb h;rw [qAQ] at this;exact this
theorem qTr (s:ByteArray):(qCA 2 0 s).size=s.size+1:=by
 have e:qCA 2 0 s=⟨#[39]⟩++s:=rfl
 rw [e,ByteArray.size_append]
 show 1+s.size=_
 omega
theorem qTO {s:ByteArray} (h:(qi s).2.2.2=true):(qi s).2.2.1.size≤1000:=by
 obtain ⟨h1,h2⟩:=qSO h
 unfold okV at h1
 split at h1
 ·simp only [Bool.and_eq_true] at h1
  have:=qLt h1.2;omega
 ·simp only [Bool.and_eq_true,beq_iff_eq] at h1
  have:=congrArg List.length h1.1
  rw [qAQ] at this
  simp only [List.length_nil] at this
  omega
theorem qOl (s:ByteArray) (hb:s.size≤140737488355328):Ev (qEf · s) (qFw s):=by
 obtain ⟨n1,h1⟩:=qIJ s hb
 unfold qFw
 cases hp:qCq s 200 with
 |false=>
  rw [if_pos rfl]
  refine ⟨n1+1,fun n hn=>?_⟩
  obtain ⟨k,rfl,hm⟩:=up1 hn
  exact qA (h1 k (by omega)) (qD (qCm hp) rfl)
 |true=>
  rw [if_neg (by simp)]
  have hsz:=qLt hp
  by_cases h0:s.toList= []
  ·rw [if_pos h0]
   refine ⟨n1+1,fun n hn=>?_⟩
   obtain ⟨k,rfl,hm⟩:=up1 hn
   exact qA (h1 k (by omega)) (qO (qAt hp) (qD (qNv h0) rfl))
  ·rw [if_neg h0]
   obtain ⟨c,t,hct⟩:∃c t,s.toList=c::t:=by
    cases h:s.toList with
    |nil=>exact absurd h h0
    |cons c t=>exact ⟨c,t,rfl⟩
   have g1:s.toList[((0:Int)).toNat]?=some c:=by rw [hct];rfl
   have hl:s.size=t.length+1:=by rw [←qAQ,hct];rfl
   by_cases h61:s.toList.head?=some 61
   ·rw [if_pos h61]
    have hc:c=61:=by rw [hct] at h61;simpa using h61
    subst hc
    have ext:s.extract ((1:Int)).toNat (((s.size:Nat):Int)).toNat=BR s.toList.tail:=by
     conv=>lhs;rw [←qIS s]
     rw [qFG,qb,hct]
     simp
    obtain ⟨n2,h2⟩:=qF8 (BR s.toList.tail) (by rw [qb,hct];simp;omega)
    obtain ⟨n3,h3⟩:=qSh (BR s.toList.tail)
    rw [←ext] at h2 h3⊢
    have fz:=qP9 (qA1 (s.extract ((1:Int)).toNat (((s.size:Nat):Int)).toNat)).1
    have w1:IntKind.i64.wrap (((qDC (qA1 (s.extract ((1:Int)).toNat (((s.size:Nat):Int)).toNat)).1).size:Int)+1)=((qDC (qA1 (s.extract ((1:Int)).toNat (((s.size:Nat):Int)).toNat)).1).size:Int)+1:=qU (by omega)
    refine ⟨n1+n2+n3+1,fun n hn=>?_⟩
    obtain ⟨k,rfl,hm⟩:=up1 hn
    refine qA (h1 k (by omega)) (qO (qAt hp) (qO (qE1 h0) (qD rfl (qA g1 (qD rfl (qD (decide_eq_true ⟨by decide,by omega,Int.le_refl _⟩) (qA (h2 k (by omega)) (qA (h3 k (by omega)) ?_))))))))
    by_cases hr:(qA1 (s.extract ((1:Int)).toNat (((s.size:Nat):Int)).toNat)).2=true
    ·refine qO (qAt hr) ?_
     by_cases he:(qDC (qA1 (s.extract ((1:Int)).toNat (((s.size:Nat):Int)).toNat)).1).toList= []
     ·rw [if_neg (fun h=>h.2.1 he)]
      exact qD (qNv he) rfl
     ·refine qO (qE1 he) ?_
      by_cases hz:(qDC (qA1 (s.extract ((1:Int)).toNat (((s.size:Nat):Int)).toNat)).1).size<200
      ·rw [if_pos ⟨hr,he,hz⟩]
       exact qO (decide_eq_false (by rw [w1];omega)) (qD (decide_eq_true (by show 1+(qDC (qA1 (s.extract ((1:Int)).toNat (((s.size:Nat):Int)).toNat)).1).size≤9223372036854775807;omega)) rfl)
      ·rw [if_neg (fun h=>hz h.2.2)]
       exact qD (decide_eq_true (by rw [w1];omega)) rfl
    ·rw [if_neg (fun h=>hr h.1)]
     exact qD (qCm (by rw [Bool.eq_false_iff];exact hr)) rfl
   ·rw [if_neg h61]
    have hc:((c.toNat:Int)==61)=false:=by
     rw [beq_eq_false_iff_ne];intro e
     refine h61 ?_
     rw [hct,show c=61 from UInt8.toNat_inj.1 (show c.toNat=61 by omega)];rfl
    obtain ⟨r,r1,r2,n2,h2⟩:=qSN s.toList h0 (by rw [qAQ];omega)
    rw [qIS] at h2
    obtain ⟨n3,h3⟩:=qHW s (by omega)
    cases hn:qE0 s.toList with
    |true=>
     rw [if_pos rfl]
     have er:=r2 hn
     subst er
     have hok:okV 1 (qKQ s.toList) em=true:=by unfold qE0 at hn;simp only [Bool.and_eq_true] at hn;exact hn.2
     obtain ⟨n4,h4⟩:=qDb 1 (qKQ s.toList) em (by decide)
     rw [if_pos hok] at h4
     refine ⟨n1+n2+n4+1,fun n hn=>?_⟩
     obtain ⟨k,rfl,hm⟩:=up1 hn
     exact qA (h1 k (by omega)) (qO (qAt hp) (qO (qE1 h0) (qD rfl (qA g1 (qO hc (qA (h2 k (by omega)) (qD rfl (qA (h4 k (by omega)) rfl))))))))
    |false=>
     rw [if_neg (by simp)]
     have rf:r.2.2.2=false:=by rw [r1];exact hn
     by_cases hv:(qi s).2.2.2=true
     ·rw [if_pos hv]
      obtain ⟨v1,v2⟩:=qSO hv
      obtain ⟨n4,h4⟩:=qDb (qi s).1 (qi s).2.1 (qi s).2.2.1 (by have:=qTO hv;omega)
      rw [if_pos v1,v2] at h4
      refine ⟨n1+n2+n3+n4+1,fun n hn=>?_⟩
      obtain ⟨k,rfl,hm⟩:=up1 hn
      exact qA (h1 k (by omega)) (qO (qAt hp) (qO (qE1 h0) (qD rfl (qA g1 (qO hc (qA (h2 k (by omega)) (qO rf (qA (h3 k (by omega)) (qO (qAt hv) (qA (h4 k (by omega)) (qO (decide_eq_false (by omega)) rfl)))))))))))
     ·rw [if_neg hv]
      obtain ⟨n4,h4⟩:=qDb 2 0 s (by omega)
      rw [if_pos (qU8 hp)] at h4
      have vz:=qTr s
      refine ⟨n1+n2+n3+n4+1,fun n hn=>?_⟩
      obtain ⟨k,rfl,hm⟩:=up1 hn
      refine qA (h1 k (by omega)) (qO (qAt hp) (qO (qE1 h0) (qD rfl (qA g1 (qO hc (qA (h2 k (by omega)) (qO rf (qA (h3 k (by omega)) (qD (qCm (by rw [Bool.eq_false_iff];exact hv)) (qA (h4 k (by omega)) ?_))))))))))
      by_cases hz:s.size=200
      ·rw [if_pos hz]
       exact qD (decide_eq_true (by omega)) rfl
      ·rw [if_neg hz]
       exact qO (decide_eq_false (by omega)) rfl
theorem qSP (X:ByteArray):Ev (qFm · ((qA1 X).1.map qW)) (⟨#[61]⟩++qDC (qA1 X).1,decide ((qDC (qA1 X).1).toList≠ [])&&decide ((qDC (qA1 X).1).size<200)):=by
 obtain ⟨n1,h1⟩:=qSi X
 have fz:=qP9 (qA1 X).1
 refine ⟨n1+1,fun n hn=>?_⟩
 obtain ⟨k,rfl,hm⟩:=up1 hn
 refine qA (h1 k (by omega)) (qD (decide_eq_true (by show 1+(qDC (qA1 X).1).size≤9223372036854775807;omega)) ?_)
 by_cases he:(qDC (qA1 X).1).toList= []
 ·refine qO (qAt (qNv he)) ?_
  rw [qC,decide_eq_false (fun h=>h he),Bool.false_and]
 ·refine qD (qCm (qE1 he)) ?_
  rw [qC,decide_eq_true he,Bool.true_and]
  have e:decide (((qDC (qA1 X).1).size:Int)<200)=decide ((qDC (qA1 X).1).size<200):=by rw [decide_eq_decide];omega
  exact congrArg (fun b:Bool=>some ((⟨#[61]⟩:ByteArray)++qDC (qA1 X).1,b)) e
theorem qOm (s:ByteArray) (hb:s.size≤140737488355328):Ev (qGy · s) (qFw s):=by
 obtain ⟨n1,h1⟩:=qJD s 200 hb
 unfold qFw
 cases hp:qCq s 200 with
 |false=>
  rw [if_pos rfl]
  have h0:s.toList≠ []:=fun e=>by
   have:qCq s 200=true:=by
    unfold qCq
    have hz:s.size=0:=by rw [←qAQ,e];rfl
    rw [e,hz];rfl
   rw [hp] at this;cases this
  refine ⟨n1+1,fun n hn=>?_⟩
  obtain ⟨k,rfl,hm⟩:=up1 hn
  refine qA (h1 k (by omega)) (qD (qCm hp) ?_)
  rw [qC,qE1 h0]
 |true=>
  rw [if_neg (by simp)]
  have hsz:=qLt hp
  by_cases h0:s.toList= []
  ·rw [if_pos h0]
   refine ⟨n1+1,fun n hn=>?_⟩
   obtain ⟨k,rfl,hm⟩:=up1 hn
   refine qA (h1 k (by omega)) (qO (qAt hp) (qD (qNv h0) ?_))
   rw [qC,qNv h0]
  ·rw [if_neg h0]
   obtain ⟨n2,h2⟩:=qEw s 61
   by_cases h61:s.toList.head?=some 61
   ·rw [if_pos h61]
    rw [if_pos h61] at h2
    obtain ⟨n3,h3⟩:=qF7 (BR s.toList.tail) (by rw [qb,List.length_tail,qAQ];omega)
    obtain ⟨n4,h4⟩:=qSP (BR s.toList.tail)
    change ∀n,n2≤n→qv n s ⟨#[61]⟩=some (BR s.toList.tail,true) at h2
    generalize BR s.toList.tail=X at h2 h3 h4⊢
    refine ⟨n1+n2+n3+n4+1,fun n hn=>?_⟩
    obtain ⟨k,rfl,hm⟩:=up1 hn
    have h4:=h4 k (by omega)
    refine qA (h1 k (by omega)) (qO (qAt hp) (qO (qE1 h0) (qA (h2 k (by omega)) (qD rfl (qA (h3 k (by omega)) (qA h4 ?_))))))
    by_cases hr:(qA1 X).2=true
    ·refine qO (qAt hr) ?_
     by_cases he:(qDC (qA1 X).1).toList≠ []∧(qDC (qA1 X).1).size<200
     ·rw [if_pos ⟨hr,he⟩]
      exact qO (qAt (by simp only;rw [decide_eq_true he.1,decide_eq_true he.2];rfl)) rfl
     ·rw [if_neg (fun h=>he h.2)]
      exact qD (qCm (by simp only;rw [Bool.eq_false_iff];intro e;simp only [Bool.and_eq_true,decide_eq_true_eq] at e;exact he e)) rfl
    ·rw [if_neg (fun h=>hr h.1)]
     exact qD (qCm (by rw [Bool.eq_false_iff];exact hr)) rfl
   ·rw [if_neg h61]
    rw [if_neg h61] at h2
    obtain ⟨n3,h3⟩:=qHV s (by omega)
    obtain ⟨n4,h4⟩:=qSK s.toList (by rw [qAQ];omega)
    rw [qIS] at h4
    have fin:∀k,n3≤k→(Tr.opt (qd k s) fun r=>(.ask (r.2.2.2) (.done (s,true)) (.ask (((s.size:Int)==(200:Int))) (.done ((⟨#[]⟩:ByteArray),false)) (.ask (decide ((⟨#[39]⟩:ByteArray).size+s.size≤9223372036854775807)) (.done (((⟨#[39]⟩:ByteArray)++s),true)) .fail)))).run=some (if (qi s).2.2.2=true then (s,true) else if s.size=200 then ((⟨#[]⟩:ByteArray),false) else (⟨#[39]⟩++s,true)):=fun k hk=>by
     refine qA (h3 k hk) ?_
     by_cases hv:(qi s).2.2.2=true
     ·rw [if_pos hv];exact qD hv rfl
     ·rw [if_neg hv]
      refine qO (by rw [Bool.eq_false_iff];exact hv) ?_
      by_cases hz:s.size=200
      ·rw [if_pos hz];exact qD (beq_iff_eq.2 (by omega)) rfl
      ·rw [if_neg hz]
       exact qO (beq_eq_false_iff_ne.2 (by omega)) (qD (decide_eq_true (by show 1+s.size≤9223372036854775807;omega)) rfl)
    have hpi:∀k,qAw (k+1) s 10 64=zL s 10 64:=fun k=>rfl
    have hL:zL s 10 64=(match Lib.parseIntB 64 s.toList with
     | .ok v=>some (.inl v)
     | .range=>some (.inr (Lib.intSat 64 s.toList))
     |_=>some (.inr 0)):=by
     unfold zL
     rw [if_pos ⟨rfl,rfl,by omega⟩,Go.Lib.toList_data]
     cases Lib.parseIntB 64 s.data.toList<;>rfl
    rcases hq:Lib.parseIntB 64 s.toList with v|_|_
    rotate_left
    ·have hn:qE0 s.toList=false:=by
      rw [Bool.eq_false_iff];intro e
      have hd:qQj s.toList=true:=by unfold qE0 at e;simp only [Bool.and_eq_true] at e;exact e.1
      have:=(qNf hd).2 e
      rw [hq] at this;cases this
     rw [hn,if_neg (by simp)]
     rw [hq] at hL
     refine ⟨n1+n2+n3+2,fun n hn=>?_⟩
     obtain ⟨k,rfl,hm⟩:=up1 hn
     obtain ⟨k,rfl,hm⟩:=up1 (show n1+n2+n3+1≤k by omega)
     exact qA (h1 (k+1) (by omega)) (qO (qAt hp) (qO (qE1 h0) (qA (h2 (k+1) (by omega)) (qO rfl (qA ((hpi k).trans hL) (qO rfl (fin (k+1) (by omega))))))))
    ·have hn:qE0 s.toList=false:=by
      rw [Bool.eq_false_iff];intro e
      have hd:qQj s.toList=true:=by unfold qE0 at e;simp only [Bool.and_eq_true] at e;exact e.1
      have:=(qNf hd).2 e
      rw [hq] at this;cases this
     rw [hn,if_neg (by simp)]
     rw [hq] at hL
     refine ⟨n1+n2+n3+2,fun n hn=>?_⟩
     obtain ⟨k,rfl,hm⟩:=up1 hn
     obtain ⟨k,rfl,hm⟩:=up1 (show n1+n2+n3+1≤k by omega)
     exact qA (h1 (k+1) (by omega)) (qO (qAt hp) (qO (qE1 h0) (qA (h2 (k+1) (by omega)) (qO rfl (qA ((hpi k).trans hL) (qO rfl (fin (k+1) (by omega))))))))
    ·rw [hq] at hL
     cases hd:qQj s.toList with
     |false=>
      have hn:qE0 s.toList=false:=by unfold qE0;rw [hd];rfl
      rw [hn,if_neg (by simp)]
      refine ⟨n1+n2+n3+n4+2,fun n hn=>?_⟩
      obtain ⟨k,rfl,hm⟩:=up1 hn
      obtain ⟨k,rfl,hm⟩:=up1 (show n1+n2+n3+n4+1≤k by omega)
      have h4:=h4 (k+1) (by omega)
      rw [hd] at h4
      exact qA (h1 (k+1) (by omega)) (qO (qAt hp) (qO (qE1 h0) (qA (h2 (k+1) (by omega)) (qO rfl (qA ((hpi k).trans hL) (qD rfl (qA h4 (qO rfl (fin (k+1) (by omega))))))))))
     |true=>
      have hv:=(qNf hd).1 v hq
      subst hv
      obtain ⟨n5,h5⟩:=qKB (qKQ s.toList)
      obtain ⟨n6,h6⟩:=qFt 1 (qKQ s.toList) em (by decide)
      have ei:qE0 s.toList=okV 1 (qKQ s.toList) em:=by unfold qE0;rw [hd,Bool.true_and]
      rw [ei]
      cases ho:okV 1 (qKQ s.toList) em with
      |true=>
       rw [if_pos rfl]
       have hb2:=qUi.1 ho
       obtain ⟨n7,h7⟩:=qFv (qKQ s.toList) (by omega)
       refine ⟨n1+n2+n3+n4+n5+n6+n7+2,fun n hn=>?_⟩
       obtain ⟨k,rfl,hm⟩:=up1 hn
       obtain ⟨k,rfl,hm⟩:=up1 (show n1+n2+n3+n4+n5+n6+n7+1≤k by omega)
       have h4:=h4 (k+1) (by omega)
       rw [hd] at h4
       exact qA (h1 (k+1) (by omega)) (qO (qAt hp) (qO (qE1 h0) (qA (h2 (k+1) (by omega)) (qO rfl (qA ((hpi k).trans hL) (qD rfl (qA h4 (qD rfl (qA (h5 (k+1) (by omega)) (qA (h6 (k+1) (by omega)) (qD ho (qA (h7 (k+1) (by omega)) rfl))))))))))))
      |false=>
       rw [if_neg (by simp)]
       refine ⟨n1+n2+n3+n4+n5+n6+2,fun n hn=>?_⟩
       obtain ⟨k,rfl,hm⟩:=up1 hn
       obtain ⟨k,rfl,hm⟩:=up1 (show n1+n2+n3+n4+n5+n6+1≤k by omega)
       have h4:=h4 (k+1) (by omega)
       rw [hd] at h4
       exact qA (h1 (k+1) (by omega)) (qO (qAt hp) (qO (qE1 h0) (qA (h2 (k+1) (by omega)) (qO rfl (qA ((hpi k).trans hL) (qD rfl (qA h4 (qD rfl (qA (h5 (k+1) (by omega)) (qA (h6 (k+1) (by omega)) (qO ho (fin (k+1) (by omega)))))))))))))
abbrev Cl:=Int×Int×ByteArray
def qe (c:Cl):List PV:= [.i .i64 c.1,.i .i64 c.2.1,.s c.2.2]
theorem qUJ {rows:List (List PV)} (h:∀e∈rows,okR [.i .i64,.i .i64,.s] e):∃l:List Cl,rows=l.map qe∧∀c∈l,c.2.2.size≤140737488351232:=by
 refine qRu (fun e h=>?_) h
 obtain ⟨c0,t0,rfl,p0,h⟩:=zBK h
 obtain ⟨c1,t1,rfl,p1,h1⟩:=zBK h
 obtain ⟨c2,t2,rfl,p2,h2⟩:=zBK h1
 obtain rfl:=zFP h2
 obtain ⟨x0,rfl,_⟩:=zHB p0
 obtain ⟨x1,rfl,_⟩:=zHB p1
 obtain ⟨x2,rfl,w⟩:=zKd p2
 exact ⟨(x0,x1,x2),rfl,w⟩
theorem qSj {l:List Cl} {i:Nat} {e:List PV} (h:(l.map qe)[i]?=some e):∃c,l[i]?=some c∧e=qe c:=by
 rw [List.getElem?_map] at h
 obtain ⟨c,h1,h2⟩:=Option.map_eq_some_iff.1 h
 exact ⟨c,h1,h2.symm⟩
def qKz (s:ByteArray):Bool:=(qFw s).2&&(decide (s.toList≠ [])&&((qFw s).1.toList==s.toList))
def qLu (l:List Cl) (i:Nat) (c:Cl):Bool:=match i with
 |0=>true
 |j+1=>match l[j]? with
  |some p=>qJE p.1 p.2.1 c.1 c.2.1
  |none=>true
def qKR (l:List Cl):Nat→List Cl→Bool
 |_,[]=>true
 |i,c::r=>qBG c.1 c.2.1&&(qKz c.2.2&&qLu l i c)&&qKR l (i+1) r
def qHC (l:List Cl):Bool:=qKR l 0 l&&decide ((l.length:Int)≤120)
theorem qSQ (s:ByteArray) (hb:s.size≤140737488355328):Ev (qDP · s) (qKz s):=by
 obtain ⟨n1,h1⟩:=qOm s hb
 refine ⟨n1+1,fun n hn=>?_⟩
 obtain ⟨k,rfl,hm⟩:=up1 hn
 refine qA (h1 k (by omega)) ?_
 unfold qKz
 by_cases h2:(qFw s).2=true
 ·refine qD h2 ?_
  rw [h2,Bool.true_and]
  by_cases h3:s.toList= []
  ·refine qO (qAt (qNv h3)) ?_
   rw [qC,decide_eq_false (fun e=>e h3),Bool.false_and]
  ·refine qD (qCm (qE1 h3)) ?_
   rw [qC,decide_eq_true h3,Bool.true_and]
 ·have h2:(qFw s).2=false:=by rw [Bool.eq_false_iff];exact h2
  refine qO h2 ?_
  rw [qC,h2,Bool.false_and]
structure SrcAt (n:Nat) (c:Cl):Prop where
 r1:qAJ n c.1 c.2.1=some (qBG c.1 c.2.1)
 r2:qBq n c.1 c.2.1=some (qBG c.1 c.2.1)
 i1:qEf n c.2.2=some (qFw c.2.2)
 i2:qDP n c.2.2=some (qKz c.2.2)
theorem qTs (c:Cl) (hb:c.2.2.size≤140737488351232):∃n0,∀n,n0≤n→SrcAt n c:=by
 obtain ⟨n1,h1⟩:=qCr c.1 c.2.1
 obtain ⟨n2,h2⟩:=qDW c.1 c.2.1
 obtain ⟨n3,h3⟩:=qOl c.2.2 (by omega)
 obtain ⟨n4,h4⟩:=qSQ c.2.2 (by omega)
 exact ⟨n1+n2+n3+n4,fun n hn=>⟨h1 n (by omega),h2 n (by omega),h3 n (by omega),h4 n (by omega)⟩⟩
theorem qRk:∀(l:List Cl),(∀c∈l,c.2.2.size≤140737488351232)→∃n0,∀n,n0≤n→∀c∈l,SrcAt n c
 | [],_=>⟨0,fun n _ c hc=>by cases hc⟩
 |a::l,h=>by
  obtain ⟨n1,h1⟩:=qTs a (h a (List.mem_cons_self ..))
  obtain ⟨n2,h2⟩:=qRk l fun c hc=>h c (List.mem_cons_of_mem _ hc)
  exact ⟨n1+n2,fun n hn c hc=>by
   rcases List.mem_cons.1 hc with rfl|hc
   ·exact h1 n (by omega)
   ·exact h2 n (by omega) c hc⟩
theorem qMf (n:Nat) (l:List Cl) (hb:l.length≤140737488351232) (hs:∀c∈l,SrcAt n c) (ha:∀a b c d,qDe n a b c d=some (qJE a b c d)):
  ∀(m i M:Nat),l.length=i+m→m+1≤M→zD (qEg n) M (l.map qe,(i:Int))=some (if qKR l i (l.drop i)=true then .inr () else .inl false)
 |m,i,0,h1,h2=>by omega
 |0,i,M+1,h1,h2=>by
  rw [List.drop_eq_nil_of_le (by omega)]
  exact qP (qO (decide_eq_false (show ¬((i:Int)<((l.map qe).length:Int)) by rw [List.length_map];omega)) rfl)
 |m+1,i,M+1,h1,h2=>by
  have hl:i<l.length:=by omega
  have hg:=List.getElem?_eq_getElem hl
  have hm:=List.getElem_mem hl
  rw [qDV hg]
  generalize l[i]=c at hg hm
  have S:=hs c hm
  have hw:IntKind.i64.wrap ((i:Int)+1)=((i+1:Nat):Int):=by rw [qU (by omega)];omega
  have g1:decide ((i:Int)<((l.map qe).length:Int))=true:=decide_eq_true (by rw [List.length_map];omega)
  have g2:decide (0≤(i:Int)∧(i:Int)<((l.map qe).length:Int))=true:=decide_eq_true ⟨by omega,by rw [List.length_map];omega⟩
  have g3:(l.map qe)[((i:Int)).toNat]?=some (qe c):=by rw [Int.toNat_natCast,List.getElem?_map,hg];rfl
  have k3:decide ((qe c).length=3)=true:=rfl
  have cs:zZ (qe c) 2=some c.2.2:=rfl
  have c0:zC .i64 (qe c) 0=some c.1:=rfl
  have c1:zC .i64 (qe c) 1=some c.2.1:=rfl
  have ih:=qMf n l hb hs ha m (i+1) M (by omega) (by omega)
  unfold qKR
  by_cases hR:qBG c.1 c.2.1=true
  rotate_left
  ·have hR:qBG c.1 c.2.1=false:=by rw [Bool.eq_false_iff];exact hR
   rw [hR,Bool.false_and,Bool.false_and,if_neg (by simp)]
   exact qP (qD g1 (qD g2 (qA g3 (qD k3 (qA cs (qA S.i1 (qD g2 (qA g3 (qD k3 (qA c0 (qA c1 (qA S.r1 (qD (qCm hR) rfl)))))))))))))
  rw [hR,Bool.true_and]
  by_cases hI:(qFw c.2.2).2=true
  rotate_left
  ·have hI:(qFw c.2.2).2=false:=by rw [Bool.eq_false_iff];exact hI
   have e:qKz c.2.2=false:=by unfold qKz;rw [hI];rfl
   rw [e,Bool.false_and,Bool.false_and,if_neg (by simp)]
   exact qP (qD g1 (qD g2 (qA g3 (qD k3 (qA cs (qA S.i1 (qD g2 (qA g3 (qD k3 (qA c0 (qA c1 (qA S.r1 (qO (qAt hR) (qD (qCm hI) rfl))))))))))))))
  by_cases hE:c.2.2.toList= []
  ·have e:qKz c.2.2=false:=by unfold qKz;rw [decide_eq_false (fun h=>h hE),Bool.false_and,Bool.and_false]
   rw [e,Bool.false_and,Bool.false_and,if_neg (by simp)]
   exact qP (qD g1 (qD g2 (qA g3 (qD k3 (qA cs (qA S.i1 (qD g2 (qA g3 (qD k3 (qA c0 (qA c1 (qA S.r1 (qO (qAt hR) (qO (qAt hI) (qD g2 (qA g3 (qD k3 (qA cs (qD (qNv hE) rfl)))))))))))))))))))
  by_cases hQ:(qFw c.2.2).1.toList=c.2.2.toList
  rotate_left
  ·have e:qKz c.2.2=false:=by unfold qKz;rw [beq_eq_false_iff_ne.2 hQ,Bool.and_false,Bool.and_false]
   rw [e,Bool.false_and,Bool.false_and,if_neg (by simp)]
   exact qP (qD g1 (qD g2 (qA g3 (qD k3 (qA cs (qA S.i1 (qD g2 (qA g3 (qD k3 (qA c0 (qA c1 (qA S.r1 (qO (qAt hR) (qO (qAt hI) (qD g2 (qA g3 (qD k3 (qA cs (qO (qE1 hE) (qD g2 (qA g3 (qD k3 (qA cs (qD (qCm (beq_eq_false_iff_ne.2 hQ)) rfl))))))))))))))))))))))))
  have e:qKz c.2.2=true:=by unfold qKz;rw [hI,decide_eq_true hE,beq_iff_eq.2 hQ];rfl
  rw [e,Bool.true_and]
  cases i with
  |zero=>
   rw [show qLu l 0 c=true from rfl,Bool.true_and]
   rw [qT (v':=(l.map qe,((0+1:Nat):Int))) (by
    refine qD g1 (qD g2 (qA g3 (qD k3 (qA cs (qA S.i1 (qD g2 (qA g3 (qD k3 (qA c0 (qA c1 (qA S.r1 (qO (qAt hR) (qO (qAt hI) (qD g2 (qA g3 (qD k3 (qA cs (qO (qE1 hE) (qD g2 (qA g3 (qD k3 (qA cs (qO (qAt (beq_iff_eq.2 hQ)) (qO rfl ?_))))))))))))))))))))))))
    rw [qC,hw])]
   exact ih
  |succ j=>
   have hj:j<l.length:=by omega
   have hgj:=List.getElem?_eq_getElem hj
   generalize l[j]=p at hgj
   have wj:IntKind.i64.wrap (((j+1:Nat):Int)-1)=(j:Int):=by rw [qU (by omega)];omega
   have a1:decide (((j+1:Nat):Int)>0)=true:=decide_eq_true (by omega)
   have j2:decide (0≤IntKind.i64.wrap (((j+1:Nat):Int)-1)∧IntKind.i64.wrap (((j+1:Nat):Int)-1)<((l.map qe).length:Int))=true:=decide_eq_true (by rw [wj,List.length_map];omega)
   have j3:(l.map qe)[(IntKind.i64.wrap (((j+1:Nat):Int)-1)).toNat]?=some (qe p):=by rw [wj,Int.toNat_natCast,List.getElem?_map,hgj];rfl
   have p0:zC .i64 (qe p) 0=some p.1:=rfl
   have p1:zC .i64 (qe p) 1=some p.2.1:=rfl
   have h5:=ha p.1 p.2.1 c.1 c.2.1
   have ep:qLu l (j+1) c=qJE p.1 p.2.1 c.1 c.2.1:=by unfold qLu;simp only [hgj]
   rw [ep]
   by_cases hA:qJE p.1 p.2.1 c.1 c.2.1=true
   ·rw [hA,Bool.true_and]
    rw [qT (v':=(l.map qe,((j+1+1:Nat):Int))) (by
     refine qD g1 (qD g2 (qA g3 (qD k3 (qA cs (qA S.i1 (qD g2 (qA g3 (qD k3 (qA c0 (qA c1 (qA S.r1 (qO (qAt hR) (qO (qAt hI) (qD g2 (qA g3 (qD k3 (qA cs (qO (qE1 hE) (qD g2 (qA g3 (qD k3 (qA cs (qO (qAt (beq_iff_eq.2 hQ)) (qD a1 (qD j2 (qA j3 (qD rfl (qA p0 (qA p1 (qD g2 (qA g3 (qD k3 (qA c0 (qA c1 (qA h5 (qO (qAt hA) ?_))))))))))))))))))))))))))))))))))))
     rw [qC,hw])]
    exact ih
   ·have hA:qJE p.1 p.2.1 c.1 c.2.1=false:=by rw [Bool.eq_false_iff];exact hA
    rw [hA,Bool.false_and,if_neg (by simp)]
    exact qP (qD g1 (qD g2 (qA g3 (qD k3 (qA cs (qA S.i1 (qD g2 (qA g3 (qD k3 (qA c0 (qA c1 (qA S.r1 (qO (qAt hR) (qO (qAt hI) (qD g2 (qA g3 (qD k3 (qA cs (qO (qE1 hE) (qD g2 (qA g3 (qD k3 (qA cs (qO (qAt (beq_iff_eq.2 hQ)) (qD a1 (qD j2 (qA j3 (qD rfl (qA p0 (qA p1 (qD g2 (qA g3 (qD k3 (qA c0 (qA c1 (qA h5 (qD (qCm hA) rfl)))))))))))))))))))))))))))))))))))))
theorem qOn (l:List Cl) (hb:l.length≤140737488351232) (hs:∀c∈l,c.2.2.size≤140737488351232):Ev (qGX · (l.map qe)) (qHC l):=by
 obtain ⟨n1,h1⟩:=qRk l hs
 refine ⟨n1+l.length+3,fun n hn=>?_⟩
 obtain ⟨m,rfl,hm⟩:=up1 hn
 have ha:∀a b c d,qDe m a b c d=some (qJE a b c d):=fun a b c d=>by
  obtain ⟨q,rfl⟩:∃q,m=q+1:=⟨m-1,by omega⟩
  simp only [qDe,qGW,qC,qE,qH,qJ,qK,qM,Option.bind_some,qF,qG,qN]
  unfold qJE
  by_cases h:b<d
  ·simp [h]
  ·by_cases h':b=d
   ·subst h';simp
   ·simp [h,h']
 have h:=qMf m l hb (h1 m (by omega)) ha l.length 0 m (by omega) (by omega)
 simp only [Int.natCast_zero,List.drop_zero] at h
 unfold qHC
 by_cases h0:(l.length:Int)>120
 ·refine qD (decide_eq_true (by rw [List.length_map];exact h0)) ?_
  rw [qC,decide_eq_false (by omega),Bool.and_false]
 ·refine qO (decide_eq_false (by rw [List.length_map];exact h0)) (qA h ?_)
  rw [decide_eq_true (show (l.length:Int)≤120 by omega),Bool.and_true]
  cases qKR l 0 l<;>rfl
theorem qMg (n:Nat) (l:List Cl) (hb:l.length≤140737488351232) (hs:∀c∈l,SrcAt n c) (ha:∀p∈l,∀c∈l,qBh n p.1 p.2.1 c.1 c.2.1=some (qDM [qLm p.2.1 c.2.1,qLm p.1 c.1])):
  ∀(m i M:Nat),l.length=i+m→m+1≤M→zD (qEq n) M (l.map qe,l.map qe,(l.length:Int),(i:Int))=some (if qKR l i (l.drop i)=true then .inr (l.map qe) else .inl false)
 |m,i,0,h1,h2=>by omega
 |0,i,M+1,h1,h2=>by
  rw [List.drop_eq_nil_of_le (by omega)]
  exact qP (qO (decide_eq_false (show ¬((i:Int)<(l.length:Int)) by omega)) rfl)
 |m+1,i,M+1,h1,h2=>by
  have hl:i<l.length:=by omega
  have hg:=List.getElem?_eq_getElem hl
  have hm:=List.getElem_mem hl
  rw [qDV hg]
  generalize l[i]=c at hg hm
  have S:=hs c hm
  have hw:IntKind.i64.wrap ((i:Int)+1)=((i+1:Nat):Int):=by rw [qU (by omega)];omega
  have g1:decide ((i:Int)<(l.length:Int))=true:=decide_eq_true (by omega)
  have g2:decide (0≤(i:Int)∧(i:Int)<((l.map qe).length:Int))=true:=decide_eq_true ⟨by omega,by rw [List.length_map];omega⟩
  have g3:(l.map qe)[((i:Int)).toNat]?=some (qe c):=by rw [Int.toNat_natCast,List.getElem?_map,hg];rfl
  have k3:decide ((qe c).length=3)=true:=rfl
  have cs:zZ (qe c) 2=some c.2.2:=rfl
  have c0:zC .i64 (qe c) 0=some c.1:=rfl
  have c1:zC .i64 (qe c) 1=some c.2.1:=rfl
  have ih:=qMg n l hb hs ha m (i+1) M (by omega) (by omega)
  unfold qKR
  by_cases hR:qBG c.1 c.2.1=true
  rotate_left
  ·have hR:qBG c.1 c.2.1=false:=by rw [Bool.eq_false_iff];exact hR
   rw [hR,Bool.false_and,Bool.false_and,if_neg (by simp)]
   exact qP (qD g1 (qD g2 (qA g3 (qD k3 (qA c0 (qA c1 (qA cs (qA S.r2 (qD (qCm hR) rfl)))))))))
  rw [hR,Bool.true_and]
  cases i with
  |zero=>
   rw [show qLu l 0 c=true from rfl,Bool.and_true]
   by_cases hS:qKz c.2.2=true
   ·rw [hS,Bool.true_and]
    rw [qT (v':=(l.map qe,l.map qe,(l.length:Int),((0+1:Nat):Int))) (by
     refine qD g1 (qD g2 (qA g3 (qD k3 (qA c0 (qA c1 (qA cs (qA S.r2 (qO (qAt hR) (qO rfl (qA S.i2 (qO (qAt hS) ?_)))))))))))
     rw [qC,hw])]
    exact ih
   ·have hS:qKz c.2.2=false:=by rw [Bool.eq_false_iff];exact hS
    rw [hS,Bool.false_and,if_neg (by simp)]
    exact qP (qD g1 (qD g2 (qA g3 (qD k3 (qA c0 (qA c1 (qA cs (qA S.r2 (qO (qAt hR) (qO rfl (qA S.i2 (qD (qCm hS) rfl))))))))))))
  |succ j=>
   have hj:j<l.length:=by omega
   have hgj:=List.getElem?_eq_getElem hj
   have hmj:=List.getElem_mem hj
   generalize l[j]=p at hgj hmj
   have wj:IntKind.i64.wrap (((j+1:Nat):Int)-1)=(j:Int):=by rw [qU (by omega)];omega
   have a1:decide (((j+1:Nat):Int)>0)=true:=decide_eq_true (by omega)
   have j2:decide (0≤IntKind.i64.wrap (((j+1:Nat):Int)-1)∧IntKind.i64.wrap (((j+1:Nat):Int)-1)<((l.map qe).length:Int))=true:=decide_eq_true (by rw [wj,List.length_map];omega)
   have j3:(l.map qe)[(IntKind.i64.wrap (((j+1:Nat):Int)-1)).toNat]?=some (qe p):=by rw [wj,Int.toNat_natCast,List.getElem?_map,hgj];rfl
   have p0:zC .i64 (qe p) 0=some p.1:=rfl
   have p1:zC .i64 (qe p) 1=some p.2.1:=rfl
   have h5:=ha p hmj c hm
   have h6:=qTA p.1 p.2.1 c.1 c.2.1
   have ep:qLu l (j+1) c=qJE p.1 p.2.1 c.1 c.2.1:=by unfold qLu;simp only [hgj]
   rw [ep]
   by_cases hA:qJE p.1 p.2.1 c.1 c.2.1=true
   ·rw [hA] at h6
    rw [hA,Bool.and_true]
    by_cases hS:qKz c.2.2=true
    ·rw [hS,Bool.true_and]
     rw [qT (v':=(l.map qe,l.map qe,(l.length:Int),((j+1+1:Nat):Int))) (by
      refine qD g1 (qD g2 (qA g3 (qD k3 (qA c0 (qA c1 (qA cs (qA S.r2 (qO (qAt hR) (qD a1 (qD j2 (qA j3 (qD rfl (qA p0 (qA p1 (qA h5 (qO h6 (qA S.i2 (qO (qAt hS) ?_))))))))))))))))))
      rw [qC,hw])]
     exact ih
    ·have hS:qKz c.2.2=false:=by rw [Bool.eq_false_iff];exact hS
     rw [hS,Bool.false_and,if_neg (by simp)]
     exact qP (qD g1 (qD g2 (qA g3 (qD k3 (qA c0 (qA c1 (qA cs (qA S.r2 (qO (qAt hR) (qD a1 (qD j2 (qA j3 (qD rfl (qA p0 (qA p1 (qA h5 (qO h6 (qA S.i2 (qD (qCm hS) rfl)))))))))))))))))))
   ·have hA:qJE p.1 p.2.1 c.1 c.2.1=false:=by rw [Bool.eq_false_iff];exact hA
    rw [hA] at h6
    rw [hA,Bool.and_false,Bool.false_and,if_neg (by simp)]
    exact qP (qD g1 (qD g2 (qA g3 (qD k3 (qA c0 (qA c1 (qA cs (qA S.r2 (qO (qAt hR) (qD a1 (qD j2 (qA j3 (qD rfl (qA p0 (qA p1 (qA h5 (qD h6 rfl)))))))))))))))))
theorem qOo (l:List Cl) (hb:l.length≤140737488351232) (hs:∀c∈l,c.2.2.size≤140737488351232):Ev (qGz · (l.map qe)) (qHC l):=by
 obtain ⟨n1,h1⟩:=qRk l hs
 obtain ⟨n3,h3⟩:=qBc (F:=fun (pc:Cl×Cl) n=>qBh n pc.1.1 pc.1.2.1 pc.2.1 pc.2.2.1) (f:=fun pc=>qDM [qLm pc.1.2.1 pc.2.2.1,qLm pc.1.1 pc.2.1]) (l.flatMap fun p=>l.map fun c=>(p,c)) fun pc _=>qKv pc.1.1 pc.1.2.1 pc.2.1 pc.2.2.1
 refine ⟨n1+n3+l.length+3,fun n hn=>?_⟩
 obtain ⟨m,rfl,hm⟩:=up1 hn
 have h:=qMg m l hb (h1 m (by omega)) (fun p hp c hc=>h3 m (by omega) (p,c) (List.mem_flatMap.2 ⟨p,hp,List.mem_map.2 ⟨c,hc,rfl⟩⟩)) l.length 0 m (by omega) (by omega)
 simp only [Int.natCast_zero,List.drop_zero] at h
 rw [show (l.length:Int)=((l.map qe).length:Int) by rw [List.length_map]] at h
 unfold qHC
 refine qA h ?_
 cases qKR l 0 l with
 |true=>
  rw [if_pos rfl,Bool.true_and]
  show some (decide (((l.map qe).length:Int)≤120))=_
  rw [List.length_map]
 |false=>rfl
theorem qQA (n:Nat) (a b:Int) (s:ByteArray) (left:Int):∃r,qFJ (n+1) a b s left=some r:=by
 simp only [qFJ,qHa,qC,qE,qH,qJ,qK,qM,Option.bind_some,qF,qG,qN]
 by_cases h:IntKind.i64.wrap (left-s.size)<0
 ·exact ⟨-1,by simp [h]⟩
 ·exact ⟨IntKind.i64.wrap (left-s.size),by simp [h]⟩
theorem qOp (l:List Cl) (hb:l.length≤140737488351232) (left:Int):∀n,l.length+5≤n→∃r,qEY n (l.map qe) left=some r:=by
 intro n hn
 obtain ⟨m,rfl,hm⟩:=up1 hn
 obtain ⟨q,rfl⟩:∃q,m=q+2:=⟨m-2,by omega⟩
 simp only [qEY,qGI,qC,qE,qH,qJ,qK,qM,Option.bind_some,qF,qG,qN]
 obtain ⟨r,h⟩:=qSl (B:=qB1 (q+2)) (rows:=l.map qe)
  (fun i e x he=>by
   obtain ⟨c,hc,rfl⟩:=qSj he
   have hi:i<l.length:=(List.getElem?_eq_some_iff.1 hc).1
   have hi':(i:Int)<l.length:=by omega
   have hw:IntKind.i64.wrap ((i:Int)+1)=(i:Int)+1:=qU (by omega)
   obtain ⟨r,hr⟩:=qQA (q+1) c.1 c.2.1 c.2.2 x
   by_cases h0:r<0
   ·exact .inr ⟨.inl (-1),by simp [qB1,qC,qE,qH,qJ,qK,qM,Option.bind_some,qF,qG,qN,hi',hc,qe,zC,zZ,hr,h0]⟩
   ·exact .inl ⟨r,by simp [qB1,qC,qE,qH,qJ,qK,qM,Option.bind_some,qF,qG,qN,hi',hc,qe,zC,zZ,hr,h0,hw]⟩)
  (fun x=>⟨.inr x,by simp [qB1,qC,qE,qH,qJ,qK,qM,Option.bind_some,qF,qG,qN]⟩) l.length 0 (q+2) (IntKind.i64.wrap (left-l.length)) (by simp) (by omega)
 simp only [Int.natCast_zero] at h
 by_cases h0:IntKind.i64.wrap (left-l.length)<0
 ·exact ⟨-1,by simp [h0]⟩
 ·rcases r with r|r
  ·exact ⟨r,by simp [h0,h,qC,qE,qH,qJ,qK,qM,Option.bind_some,qF,qG,qN]⟩
  ·exact ⟨r,by simp [h0,h,qC,qE,qH,qJ,qK,qM,Option.bind_some,qF,qG,qN]⟩
theorem qQB (n:Nat) (a b:Int) (s:ByteArray):qFK (n+2) a b s=some (a,b,s):=by
 simp only [qFK,qHb,qCZ,qF9,qC,qE,qH,qJ,qK,qM,Option.bind_some,qF,qG,qN]
theorem qOq (l:List Cl) (hb:l.length*32≤140737488351232):Ev (qCI · (l.map qe)) (l.length,l.map qe):=by
 refine ⟨l.length+5,fun n hn=>?_⟩
 obtain ⟨m,rfl,hm⟩:=up1 hn
 simp only [qCI,qGJ,qC,qE,qH,qJ,qK,qM,Option.bind_some,qF,qG,qN]
 have h:=qTR (B:=qCa m) (rows:=l.map qe) (z:= [.i .i64 0,.i .i64 0,.s ⟨#[]⟩]) (r:=fun acc=>((l.map qe).length,acc)) (M:=m)
  (fun i acc e he ha hz=>by
   obtain ⟨c,hc,rfl⟩:=qSj he
   have hi:i<l.length:=(List.getElem?_eq_some_iff.1 hc).1
   have hi':(i:Int)<l.length:=by omega
   obtain ⟨q,rfl⟩:∃q,m=q+2:=⟨m-2,by omega⟩
   have hw:IntKind.i64.wrap ((i:Int)+1)=(i:Int)+1:=qU (by omega)
   have ha':acc.length=l.length:=by simpa using ha
   simp [qCa,qC,qE,qH,qJ,qK,qM,Option.bind_some,qF,qG,qN,hi',hc,qe,zC,zZ,qQB,hz,ha',hw,zK])
  (fun acc ha=>by
   have ha':acc.length=l.length:=by simpa using ha
   simp [qCa,qC,qE,qH,qJ,qK,qM,Option.bind_some,qF,qG,qN])
  (by simp;omega)
 simp only [List.length_map,Int.toNat_natCast] at h⊢
 rw [h]
 have h1:(32:Int)*(l.length:Int)≤140737488355328:=by omega
 have h2:(l.length:Int)≤9223372036854775807:=by omega
 simp [qC,qE,qH,qJ,qK,qM,Option.bind_some,qF,qG,qN,h1,h2]
theorem qQC (n:Nat) (a b:Int) (s:ByteArray):qFR (n+2) a b s a b s=some true:=by
 simp only [qFR,qHx,qDt,qGC,qC,qE,qH,qJ,qK,qM,Option.bind_some,qF,qG,qN]
 simp [qC,qE,qH,qJ,qK,qM,Option.bind_some,qF,qG,qN]
theorem qOr (l:List Cl) (hb:l.length≤140737488351232):Ev (qEs · (l.map qe) (l.map qe)) true:=by
 refine ⟨l.length+5,fun n hn=>?_⟩
 obtain ⟨m,rfl,hm⟩:=up1 hn
 simp only [qEs,qG2,qC,qE,qH,qJ,qK,qM,Option.bind_some,qF,qG,qN]
 have h:=qRQ (B:=qCi m) (rows:=l.map qe) (r:= .inr ())
  (fun i e he=>by
   obtain ⟨c,hc,rfl⟩:=qSj he
   have hi:i<l.length:=(List.getElem?_eq_some_iff.1 hc).1
   have hi':(i:Int)<l.length:=by omega
   obtain ⟨q,rfl⟩:∃q,m=q+2:=⟨m-2,by omega⟩
   have hw:IntKind.i64.wrap ((i:Int)+1)=(i:Int)+1:=qU (by omega)
   simp [qCi,qC,qE,qH,qJ,qK,qM,Option.bind_some,qF,qG,qN,hi',hc,qe,zC,zZ,qQC,hw])
  (by simp [qCi,qC,qE,qH,qJ,qK,qM,Option.bind_some,qF,qG,qN]) l.length 0 m (by simp) (by omega)
 simp only [Int.natCast_zero] at h
 simp [h,qC,qE,qH,qJ,qK,qM,Option.bind_some,qF,qG,qN]
def Fo (r:List UInt8):Prop:=∀c,r.head?=some c→c∈([38,43,45,42,47,60,61,62,41,44]:List UInt8)
def Sta (r:List UInt8):Prop:=∃c,r.head?=some c∧(wch c=true∨c=45∨c=40∨c=34∨c=35)
def lo (l:List Nd) (i:Int):Int:=qCs (qV l) (i.toNat+1) i
def tx (l:List Nd) (g:Nat) (i t:Int):List UInt8:=(qt l g i t).toList
structure RT (l:List Nd) (g:Nat) (i:Int):Prop where
 s:∀t,Sta (tx l g i t)
 c:∀(t:Int) (r:List UInt8),Fo r→∀d:UInt8,(d=58∨d=32)→(wr (tx l g i t++r)).head?≠some d
 u:∀(r:List UInt8) (deep:Int) (f:Nat),Fo r→0≤deep→deep+g≤400→20*(tx l g i 5++r).length+4≤f→pP f (.un deep) (tx l g i 5++r,false,l.take (lo l i).toNat)=(i,r,false,l.take (i.toNat+1))
 b:∀(t t':Int) (r:List UInt8) (deep:Int) (f:Nat),1≤t→t≤t'→t'≤5→Fo r→(qAq r=0∨lvl (qAq r)≤t')→0≤deep→deep+g≤400→20*(tx l g i t'++r).length+6≤f→
  ∃f2,20*r.length+5≤f2∧pP f (.bin t deep) (tx l g i t'++r,false,l.take (lo l i).toNat)=pP f2 (.loop t deep i) (r,false,l.take (i.toNat+1))
theorem qSk {s:ByteArray} (h:(qA1 s).2=true):qES (qA1 s).1=true:=by
 unfold qA1 at h⊢
 split at h
 ·rename_i hc
  rw [if_pos hc]
  exact hc.2.2.2
 ·cases h
def Dwx {β:Type} (Q:β→Prop) (R:Nat→Tr β):Prop:=∃x,Q x∧Ev (fun n=>(R n).run) x
theorem qBI {α β:Type} {Q:β→Prop} {F:Nat→Option α} {r:α} {K:Nat→α→Tr β} (h:Ev F r) (hk:Dwx Q fun n=>K n r):Dwx Q fun n=> .opt (F n) (K n):=by
 obtain ⟨x,q,n1,h1⟩:=hk
 obtain ⟨n0,h0⟩:=h
 exact ⟨x,q,n0+n1,fun n hn=>qA (h0 n (by omega)) (h1 n (by omega))⟩
theorem qDB {β:Type} {Q:β→Prop} {b:Bool} {t e:Nat→Tr β} (h:b=true) (hk:Dwx Q t):Dwx Q fun n=> .ask b (t n) (e n):=by
 obtain ⟨x,q,n1,h1⟩:=hk
 exact ⟨x,q,n1,fun n hn=>qD h (h1 n hn)⟩
theorem qIs {β:Type} {Q:β→Prop} {b:Bool} {t e:Nat→Tr β} (h:b=false) (hk:Dwx Q e):Dwx Q fun n=> .ask b (t n) (e n):=by
 obtain ⟨x,q,n1,h1⟩:=hk
 exact ⟨x,q,n1,fun n hn=>qO h (h1 n hn)⟩
theorem qRl {α β:Type} {Q:β→Prop} {o:Option α} {r:α} {K:Nat→α→Tr β} (h:o=some r) (hk:Dwx Q fun n=>K n r):Dwx Q fun n=> .opt o (K n):=by
 obtain ⟨x,q,n1,h1⟩:=hk
 exact ⟨x,q,n1,fun n hn=>qA h (h1 n hn)⟩
theorem qBF {β:Type} {Q:β→Prop} {x:β} (h:Q x):Dwx Q fun _=> .done x:=⟨x,h,0,fun _ _=>rfl⟩
theorem qEQ {β:Type} {Q:β→Prop} {F:Nat→Option β} {R:Nat→Tr β} (h:Dwx Q R) (hF:∀n,F (n+1)=(R n).run):∃x,Q x∧Ev F x:=by
 obtain ⟨x,q,n1,h1⟩:=h
 refine ⟨x,q,n1+1,fun n hn=>?_⟩
 obtain ⟨m,rfl,hm⟩:=up1 hn
 rw [hF]
 exact h1 m hm
theorem qHD {β:Type} {F:Nat→Option β} {x:β} (h:∃y,y=x∧Ev F y):Ev F x:=by
 obtain ⟨y,rfl,h⟩:=h
 exact h
def qKS {α R:Type} (f:Nat→α→Option R):Nat→List α→Option R
 |_,[]=>none
 |i,a::r=>match f i a with
  |some x=>some x
  |none=>qKS f (i+1) r
theorem qSR {V R α:Type} {B:V→Tr (V⊕R)} (st:Nat→V) (l:List α) (f:Nat→α→Option R) (z:R) (hs:∀i a,l[i]?=some a→(B (st i)).run=some (match f i a with|some r=> .inr r|none=> .inl (st (i+1))))
  (he:(B (st l.length)).run=some (.inr z)):∀(M:Nat),l.length+1≤M→zD B M (st 0)=some ((qKS f 0 l).getD z):=by
 have key:∀(r:List α) (i M:Nat),l.drop i=r→i+r.length=l.length→r.length+1≤M→zD B M (st i)=some ((qKS f i r).getD z):=by
  intro r
  induction r with
  |nil=>
   intro i M h1 h2 h3
   obtain ⟨M,rfl⟩:∃q,M=q+1:=⟨M-1,by omega⟩
   have e:i=l.length:=by simpa using h2
   subst e
   rw [qP he]
   rfl
  |cons a r ih=>
   intro i M h1 h2 h3
   obtain ⟨M,rfl⟩:∃q,M=q+1:=⟨M-1,by omega⟩
   have hg:l[i]?=some a:=by rw [←List.head?_drop,h1];rfl
   have hd:l.drop (i+1)=r:=by rw [←List.tail_drop,h1];rfl
   have h4:=hs i a hg
   simp only [List.length_cons] at h2 h3
   unfold qKS
   cases hf:f i a with
   |some x=>rw [hf] at h4;rw [qP h4];rfl
   |none=>rw [hf] at h4;rw [qT h4];exact ih (i+1) M hd (by omega) (by omega)
 exact fun M h=>key l 0 M rfl (by omega) h
theorem qIt {i:Nat} {k:Int} {l:List (List PV)} {e:List PV} (hk:k=(i:Int)) (h:l[i]?=some e):decide (0≤k∧k<l.length)=true∧l[k.toNat]?=some e:=by
 subst hk
 have:=(List.getElem?_eq_some_iff.1 h).1
 exact ⟨decide_eq_true (by omega),by rw [Int.toNat_natCast];exact h⟩
def qOs (l:List Cl) (c r:Int):ByteArray:=((l.find? fun e=>e.1==c&&e.2.1==r).map (·.2.2)).getD ⟨#[]⟩
theorem qQD {R:Type} (c r:Int) (g:ByteArray→R):∀(l:List Cl) (i:Nat),qKS (fun _ (e:Cl)=>if (e.1==c&&e.2.1==r)=true then some (g e.2.2) else none) i l=(l.find? fun e=>e.1==c&&e.2.1==r).map fun e=>g e.2.2
 | [],i=>rfl
 |a::l,i=>by
  unfold qKS
  rw [List.find?_cons]
  cases a.1==c&&a.2.1==r with
  |true=>rfl
  |false=>exact qQD c r g l (i+1)
theorem qNg (l:List Cl) (c r:Int) (hb:l.length≤140737488351232):Ev (qFn · (l.map qe) c r) (qOs l c r):=by
 refine ⟨l.length+3,fun n hn=>?_⟩
 obtain ⟨m,rfl,hm⟩:=up1 hn
 have h:=qSR (B:=qEN m) (fun i=>(l.map qe,((l.map qe).length:Int),(i:Int),c,r)) l (fun _ e=>if (e.1==c&&e.2.1==r)=true then some (.inl e.2.2) else none) (.inr ())
  (fun i e he=>by
   have hi:=(List.getElem?_eq_some_iff.1 he).1
   have hg:(l.map qe)[i]?=some (qe e):=by rw [List.getElem?_map,he];rfl
   obtain ⟨a1,a2⟩:=qIt rfl hg
   refine qD (decide_eq_true (by simpa using hi)) (qD a1 (qA a2 (qD rfl (qA rfl (qA rfl (qA rfl ?_))))))
   rw [Bool.and_true]
   cases hc:e.1==c&&e.2.1==r with
   |true=>exact qD rfl rfl
   |false=>
    refine qO rfl ?_
    dsimp only
    rw [qU (by omega)]
    rfl)
  (qO (decide_eq_false (by simp)) rfl) m (by omega)
 refine qA h ?_
 rw [qQD]
 unfold qOs
 cases l.find? fun e=>e.1==c&&e.2.1==r<;>rfl
theorem qRm (l:List Cl) (c r:Int) (hb:l.length≤140737488351232):Ev (qJk · (l.map qe) c r) (qOs l c r):=by
 refine ⟨l.length+3,fun n hn=>?_⟩
 obtain ⟨m,rfl,hm⟩:=up1 hn
 have h:=qSR (B:=qGY m) (fun i=>(l.map qe,(i:Int),c,r)) l (fun _ e=>if (e.1==c&&e.2.1==r)=true then some (.inl e.2.2) else none) (.inr ())
  (fun i e he=>by
   have hi:=(List.getElem?_eq_some_iff.1 he).1
   have hg:(l.map qe)[i]?=some (qe e):=by rw [List.getElem?_map,he];rfl
   obtain ⟨a1,a2⟩:=qIt rfl hg
   refine qD (decide_eq_true (by simpa using hi)) (qD a1 (qA a2 (qD rfl (qA rfl (qA rfl ?_)))))
   rw [Bool.and_true]
   cases hc:e.1==c&&e.2.1==r with
   |true=>exact qD rfl (qD a1 (qA a2 (qD rfl (qA rfl rfl))))
   |false=>
    refine qO rfl ?_
    dsimp only
    rw [qU (by omega)]
    rfl)
  (qO (decide_eq_false (by simp)) rfl) m (by omega)
 refine qA h ?_
 rw [qQD]
 unfold qOs
 cases l.find? fun e=>e.1==c&&e.2.1==r<;>rfl
theorem qU3 {F:Nat→Option Int} {T:Nat→Tr Bool} (h:∃N,∀n,N≤n→∃r,F n=some r) (hk:Dwx (· =true) T):Dwx (· =true) fun n=> .opt (F n) fun r=> .ask (decide (r<0)) (.done true) (T n):=by
 obtain ⟨x,rfl,n1,h1⟩:=hk
 obtain ⟨n0,h0⟩:=h
 refine ⟨true,rfl,n0+n1,fun n hn=>?_⟩
 obtain ⟨r,hr⟩:=h0 n (by omega)
 refine qA hr ?_
 by_cases h2:r<0
 ·exact qD (decide_eq_true h2) rfl
 ·exact qO (decide_eq_false h2) (h1 n (by omega))
theorem nb {a b:Int} (h:¬a=b):(a==b)=false:=beq_eq_false_iff_ne.2 h
theorem qUl {α β γ:Type} {Q:α→Prop} {x:γ} {K:Nat→β→Tr α} {L:Nat→γ→Tr α} (h:Dwx Q fun n=>L n x):Dwx Q fun n=> .alt (Sum.inr x) (K n) (L n):=h
theorem qUm {α β γ:Type} {Q:α→Prop} {x:β} {K:Nat→β→Tr α} {L:Nat→γ→Tr α} (h:Dwx Q fun n=>K n x):Dwx Q fun n=> .alt (Sum.inl x) (K n) (L n):=h
theorem qGH {α R:Type}:∀(l:List α) (i:Nat),qKS (fun (_:Nat) (_:α)=>(none:Option R)) i l=none
 | [],i=>rfl
 |a::l,i=>qGH l (i+1)
def plB (c:Nd):Bool:=if c.1=2 then qBG c.2.2.2.2.2.1 c.2.2.2.2.2.2.1 else if c.1=3 then qFu c.2.2.2.2.2.1 c.2.2.2.2.2.2.1 c.2.2.2.2.2.2.2.2.2.1 c.2.2.2.2.2.2.2.2.2.2.1 else true
structure PlaceCh (f:Nd→Nd):Prop where
 k:∀c,(f c).1=c.1
 n:∀c,qE3 c=true→c.1=2∨c.1=3→qE3 (f c)=plB (f c)
 kd:∀c,kd (f c)=kd c
def qEX (c:Nd):Bool:=decide (c.1=2∨c.1=3)
def qH3 (c:Nd):List PV:=if c.1=2 then [.i .i64 c.2.2.2.2.2.1,.i .i64 c.2.2.2.2.2.2.1,.i .i64 c.2.2.2.2.2.1,.i .i64 c.2.2.2.2.2.2.1] else [.i .i64 c.2.2.2.2.2.1,.i .i64 c.2.2.2.2.2.2.1,.i .i64 c.2.2.2.2.2.2.2.2.2.1,.i .i64 c.2.2.2.2.2.2.2.2.2.2.1]
theorem qFe {α:Type} {P:α→Bool} {l:List α} {i:Nat} {a:α} (h:l[i]?=some a):(l.take (i+1)).filter P=(l.take i).filter P++(if P a=true then [a] else []):=by
 rw [List.take_add_one,h,List.filter_append]
 simp only [Option.toList_some,List.filter_cons,List.filter_nil]
theorem qO0 {m:Nat} {acc:List (List PV)} {e:List PV} (hm:m=acc.length) (hb:m≤1000) (he:e.length=4):decide (m=acc.length∧0<4∧0<32∧(m+ [e].length)*32≤140737488355328∧ [e].all (fun e=>e.length==4)=true)=true:=decide_eq_true ⟨hm,by decide,by decide,by simp;omega,by simp [he]⟩
theorem qOt (l:List Nd) (hl:l.length≤1000):Ev (qG0 · (l.map qW)) ((l.filter qEX).map qH3):=by
 obtain ⟨n1,h1⟩:=qBc (F:=fun (c:Nd) n=>qA9 n c.1 c.2.1 c.2.2.1 c.2.2.2.1 c.2.2.2.2.1 c.2.2.2.2.2.1 c.2.2.2.2.2.2.1 c.2.2.2.2.2.2.2.1 c.2.2.2.2.2.2.2.2.1 c.2.2.2.2.2.2.2.2.2.1 c.2.2.2.2.2.2.2.2.2.2.1 c.2.2.2.2.2.2.2.2.2.2.2.1 c.2.2.2.2.2.2.2.2.2.2.2.2.1 ((kd c).map qAz)) (f:=fun c=>if c.1=2 then (c.2.2.2.2.2.1,c.2.2.2.2.2.2.1,c.2.2.2.2.2.1,c.2.2.2.2.2.2.1) else (c.2.2.2.2.2.1,c.2.2.2.2.2.2.1,c.2.2.2.2.2.2.2.2.2.1,c.2.2.2.2.2.2.2.2.2.2.1)) l fun c _=>by
  refine qHD (qEQ (R:=fun n=>qDa n c.1 c.2.1 c.2.2.1 c.2.2.2.1 c.2.2.2.2.1 c.2.2.2.2.2.1 c.2.2.2.2.2.2.1 c.2.2.2.2.2.2.2.1 c.2.2.2.2.2.2.2.2.1 c.2.2.2.2.2.2.2.2.2.1 c.2.2.2.2.2.2.2.2.2.2.1 c.2.2.2.2.2.2.2.2.2.2.2.1 c.2.2.2.2.2.2.2.2.2.2.2.2.1 ((kd c).map qAz)) ?_ fun n=>rfl)
  by_cases h2:c.1=2
  ·rw [if_pos h2];exact qDB (beq_iff_eq.2 h2) (qBF rfl)
  ·rw [if_neg h2];exact qIs (beq_eq_false_iff_ne.2 h2) (qBF rfl)
 refine ⟨n1+l.length+3,fun n hn=>?_⟩
 obtain ⟨m,rfl,hm⟩:=up1 hn
 have h:=qSR (B:=qEr m) (fun i=>(((l.take i).filter qEX).length,l.map qW,((l.map qW).length:Int),(i:Int),((l.take i).filter qEX).map qH3)) l (fun _ _=>none) ((l.filter qEX).length,(l.filter qEX).map qH3)
  (fun i c he=>by
   have hi:=(List.getElem?_eq_some_iff.1 he).1
   have hg:(l.map qW)[i]?=some (qW c):=by rw [List.getElem?_map,he];rfl
   obtain ⟨a1,a2⟩:=qIt rfl hg
   have h1:=h1 m (by omega) c (List.mem_of_getElem? he)
   have hle:((l.take i).filter qEX).length≤1000:=Nat.le_trans (List.length_filter_le _ _) (by simp;omega)
   have w:IntKind.i64.wrap ((i:Int)+1)=((i+1:Nat):Int):=by rw [qU (by omega)];omega
   have ea:((l.take i).filter qEX).length=(((l.take i).filter qEX).map qH3).length:=by simp
   have fin:qEX c=true→∀(e:List PV),e=qH3 c→(some (Sum.inl (((l.take i).filter qEX).length+1,l.map qW,((l.map qW).length:Int),IntKind.i64.wrap ((i:Int)+1),((l.take i).filter qEX).map qH3++ [e])):Option ((Nat×List (List PV)×Int×Int×List (List PV))⊕(Nat×List (List PV))))=some (.inl (((l.take (i+1)).filter qEX).length,l.map qW,((l.map qW).length:Int),((i+1:Nat):Int),((l.take (i+1)).filter qEX).map qH3)):=fun hp e he2=>by
    rw [w,qFe he,if_pos hp,he2,List.length_append,List.map_append]
    rfl
   refine qD (decide_eq_true (by simpa using hi)) (qD a1 (qA a2 (qD rfl ?_)))
   iterate 14 refine qA rfl ?_
   by_cases k2:c.1=2
   ·rw [if_pos k2] at h1
    exact qD (beq_iff_eq.2 k2) (qA h1 (qD rfl (qD (qO0 ea hle rfl) (fin (decide_eq_true (.inl k2)) _ (by unfold qH3;rw [if_pos k2])))))
   ·rw [if_neg k2] at h1
    refine qO (beq_eq_false_iff_ne.2 k2) ?_
    by_cases k3:c.1=3
    ·exact qD (beq_iff_eq.2 k3) (qA h1 (qD rfl (qD (qO0 ea hle rfl) (fin (decide_eq_true (.inr k3)) _ (by unfold qH3;rw [if_neg k2])))))
    ·refine qO (beq_eq_false_iff_ne.2 k3) ?_
     show some _=some _
     rw [w,qFe he,if_neg (by simp [qEX,k2,k3]),List.append_nil])
  (qO (decide_eq_false (by simp)) (by rw [List.take_length];rfl)) m (by omega)
 rw [qGH] at h
 exact qA h (qD (decide_eq_true (by simp)) rfl)
def fnL (s:ByteArray):List Nd×Bool:=if s.toList.head?=some 61 then qA1 (BR s.toList.tail) else ([],false)
theorem qTt {s:ByteArray} (h:(qA1 s).2=false):(qA1 s).1= []:=by
 unfold qA1 at h⊢
 split at h
 ·cases h
 ·rename_i hc
  rw [if_neg hc]
theorem qRn (s:ByteArray):(fnL s).1.length≤60∧∀x∈(fnL s).1,qOk x:=by
 unfold fnL
 split
 ·exact qKP _
 ·exact ⟨Nat.zero_le _,fun x hx=>by cases hx⟩
theorem qTu {s:ByteArray} (h:(fnL s).2=true):qES (fnL s).1=true:=by
 unfold fnL at h⊢
 split at h
 ·rename_i hc
  rw [if_pos hc]
  exact qSk h
 ·cases h
theorem qTv {s:ByteArray} (h:(fnL s).2=false):(fnL s).1= []:=by
 unfold fnL at h⊢
 split at h
 ·rename_i hc
  rw [if_pos hc]
  exact qTt h
 ·rename_i hc
  rw [if_neg hc]
theorem qMh (s:ByteArray) (hb:s.size≤140737488351232):Ev (qFD · s) ((fnL s).1.map qW,(fnL s).2):=by
 refine qHD (qEQ (R:=fun n=>qFC n s) (qBI (qEw s 61) ?_) fun n=>rfl)
 unfold fnL
 by_cases h:s.toList.head?=some 61
 ·rw [if_pos h,if_pos h]
  have ht:(BR s.toList.tail).size≤140737488351232:=by
   have:=qAQ s
   rw [qb]
   simp
   omega
  exact qIs rfl (qBI (qF7 (BR s.toList.tail) ht) (qBF rfl))
 ·rw [if_neg h,if_neg h]
  exact qDB rfl (qDB rfl (qBF rfl))
theorem qMi (s:ByteArray) (hb:s.size≤140737488351232):Ev (qE9 · s) ((fnL s).1.map qW,(fnL s).2):=by
 refine qHD (qEQ (R:=fun n=>qE8 n s) ?_ fun n=>rfl)
 unfold fnL
 by_cases h0:s.toList= []
 ·rw [if_neg (by rw [h0];simp)]
  exact qDB (qNv h0) (qDB rfl (qBF rfl))
 ·obtain ⟨c,t,hct⟩:∃c t,s.toList=c::t:=by
   cases h:s.toList with
   |nil=>exact absurd h h0
   |cons c t=>exact ⟨c,t,rfl⟩
  have hl:s.size=t.length+1:=by rw [←qAQ,hct];rfl
  refine qIs (qE1 h0) (qDB rfl (qRl (r:=c) (by rw [hct];rfl) ?_))
  by_cases h61:c=61
  ·subst h61
   have ext:s.extract ((1:Int)).toNat (((s.size:Nat):Int)).toNat=BR s.toList.tail:=by
    conv=>lhs;rw [←qIS s]
    rw [qFG,qb,hct]
    simp
   rw [if_pos (by rw [hct];rfl)]
   refine qIs rfl (qDB (decide_eq_true ⟨by decide,by omega,Int.le_refl _⟩) ?_)
   rw [ext]
   exact qBI (qF8 (BR s.toList.tail) (by rw [qb,hct];simp;omega)) (qBF rfl)
  ·rw [if_neg (by rw [hct];simpa using h61)]
   exact qDB (bne_iff_ne.2 fun e=>h61 (UInt8.toNat_inj.1 (show c.toNat=61 by omega))) (qDB rfl (qBF rfl))
abbrev Ar:=Int×Int×Int×Int
def qDA (a:Ar):List PV:= [.i .i64 a.1,.i .i64 a.2.1,.i .i64 a.2.2.1,.i .i64 a.2.2.2]
def arT (c:Nd):Ar:=if c.1=2 then (c.2.2.2.2.2.1,c.2.2.2.2.2.2.1,c.2.2.2.2.2.1,c.2.2.2.2.2.2.1) else (c.2.2.2.2.2.1,c.2.2.2.2.2.2.1,c.2.2.2.2.2.2.2.2.2.1,c.2.2.2.2.2.2.2.2.2.2.1)
theorem qUK (c:Nd):qH3 c=qDA (arT c):=by
 unfold qH3 arT
 split<;>rfl
def arL (s:ByteArray):List Ar:=((fnL s).1.filter qEX).map arT
theorem qSS (s:ByteArray):((fnL s).1.filter qEX).map qH3=(arL s).map qDA:=by
 unfold arL
 rw [List.map_map]
 exact List.map_congr_left fun c _=>qUK c
theorem qS6 (s:ByteArray):(arL s).length≤60:=by
 unfold arL
 rw [List.length_map]
 exact Nat.le_trans (List.length_filter_le _ _) (qRn s).1
def iaB (x y:Int) (a:Ar):Bool:=decide (a.1≤x∧x≤a.2.2.1)&&decide (a.2.1≤y∧y≤a.2.2.2)
theorem qUn {s:ByteArray} (h:(fnL s).2=false):arL s= []:=by
 unfold arL
 rw [qTv h]
 rfl
theorem qQk (l:List Nd) (hl:l.length≤1000) (hs:∀c∈l,qOk c) (hf:qES l=true):Ev (qGZ · (l.map qW)) ((l.filter qEX).map qH3):=by
 obtain ⟨n1,h1⟩:=qEx l (qIT hs)
 refine ⟨n1+l.length+3,fun n hn=>?_⟩
 obtain ⟨m,rfl,hm⟩:=up1 hn
 have h:=qSR (B:=qEh m) (fun i=>(l.map qW,((l.take i).filter qEX).length,(i:Int),((l.take i).filter qEX).map qH3)) l (fun _ _=>none) ((l.filter qEX).length,(l.filter qEX).map qH3)
  (fun i c he=>by
   have hi:=(List.getElem?_eq_some_iff.1 he).1
   have hg:(l.map qW)[i]?=some (qW c):=by rw [List.getElem?_map,he];rfl
   obtain ⟨a1,a2⟩:=qIt rfl hg
   have hle:((l.take i).filter qEX).length≤1000:=Nat.le_trans (List.length_filter_le _ _) (by simp;omega)
   have w:IntKind.i64.wrap ((i:Int)+1)=((i+1:Nat):Int):=by rw [qU (by omega)];omega
   have ea:((l.take i).filter qEX).length=(((l.take i).filter qEX).map qH3).length:=by simp
   have fin:qEX c=true→∀(e:List PV),e=qH3 c→(some (Sum.inl (l.map qW,((l.take i).filter qEX).length+1,IntKind.i64.wrap ((i:Int)+1),((l.take i).filter qEX).map qH3++ [e])):Option ((List (List PV)×Nat×Int×List (List PV))⊕(Nat×List (List PV))))=some (.inl (l.map qW,((l.take (i+1)).filter qEX).length,((i+1:Nat):Int),((l.take (i+1)).filter qEX).map qH3)):=fun hp e he2=>by
    rw [w,qFe he,if_pos hp,he2,List.length_append,List.map_append]
    rfl
   refine qD (decide_eq_true (by simpa using hi)) (qD a1 (qA a2 (qD rfl (qA rfl ?_))))
   by_cases k2:c.1=2
   ·exact qD (beq_iff_eq.2 k2) (qD a1 (qA a2 (qD rfl (qA rfl (qA rfl (qD a1 (qA a2 (qD rfl (qA rfl (qA rfl (qD rfl (qD (qO0 ea hle rfl) (fin (decide_eq_true (.inl k2)) _ (by unfold qH3;rw [if_pos k2]))))))))))))))
   ·refine qO (beq_eq_false_iff_ne.2 k2) ?_
    by_cases k3:c.1=3
    ·exact qD (beq_iff_eq.2 k3) (qD a1 (qA a2 (qD rfl (qA rfl (qA rfl (qD a1 (qA a2 (qD rfl (qA rfl (qA rfl (qD rfl (qD (qO0 ea hle rfl) (fin (decide_eq_true (.inr k3)) _ (by unfold qH3;rw [if_neg k2]))))))))))))))
    ·refine qO (beq_eq_false_iff_ne.2 k3) ?_
     show some _=some _
     rw [w,qFe he,if_neg (by simp [qEX,k2,k3]),List.append_nil])
  (qO (decide_eq_false (by simp)) (by rw [List.take_length];rfl)) m (by omega)
 rw [qGH] at h
 have h1:=h1 m (by omega)
 rw [hf] at h1
 exact qA h1 (qO rfl (qA h (qD (decide_eq_true (by simp)) rfl)))
theorem qOu (s:ByteArray) (hb:s.size≤140737488351232):Ev (qGb · s) ((arL s).map qDA):=by
 refine qHD (qEQ (R:=fun n=>qGa n s) (qBI (qMi s hb) ?_) fun n=>rfl)
 rw [←qSS]
 dsimp only
 cases h:(fnL s).2 with
 |false=>rw [qTv h];exact qDB rfl (qDB rfl (qBF rfl))
 |true=>exact qIs rfl (qBI (qQk _ (by have:=(qRn s).1;omega) (qRn s).2 (qTu h)) (qBF rfl))
theorem qNh (x y:Int) (a:Ar):Ev (qEE · x y a.1 a.2.1 a.2.2.1 a.2.2.2) (iaB x y a):=by
 refine qHD (qEQ (R:=fun n=>qFj n x y a.1 a.2.1 a.2.2.1 a.2.2.2) (qBI (qBt x a.1 a.2.2.1) ?_) fun n=>rfl)
 unfold iaB
 by_cases h:a.1≤x∧x≤a.2.2.1
 ·rw [decide_eq_true h];exact qDB rfl (qBI (qBt y a.2.1 a.2.2.2) (qBF rfl))
 ·rw [decide_eq_false h];exact qIs rfl (qBF rfl)
theorem qTP (x y:Int) (a:Ar):Ev (qFQ · a.1 a.2.1 a.2.2.1 a.2.2.2 x y) (iaB x y a):=by
 refine qHD (qEQ (R:=fun n=>qHv n a.1 a.2.1 a.2.2.1 a.2.2.2 x y) (qRl rfl (qRl rfl (qBI (qHD (x:=iaB x y a) (qEQ (F:=fun n=>qFp n a.1 a.2.1 a.2.2.1 a.2.2.2 x y) (Q:=fun z=>z=iaB x y a) (R:=fun n=>qFo n a.1 a.2.1 a.2.2.1 a.2.2.2 x y) (qBI (qAG x a.1 a.2.2.1) ?_) fun n=>rfl)) (qBF rfl)))) fun n=>rfl)
 unfold iaB
 by_cases h:a.1≤x∧x≤a.2.2.1
 ·rw [decide_eq_true h];exact qDB rfl (qBI (qAG y a.2.1 a.2.2.2) (qBF rfl))
 ·rw [decide_eq_false h];exact qIs rfl (qBF rfl)
theorem qS7 {α R:Type} (p:α→Bool) (g:Int→R):∀(l:List α) (i:Nat),(l.any p=true∧∃k:Nat,qKS (fun i a=>if p a=true then some (g (i:Int)) else none) i l=some (g (k:Int)))∨(l.any p=false∧qKS (fun i a=>if p a=true then some (g (i:Int)) else none) i l=none)
 | [],i=> .inr ⟨rfl,rfl⟩
 |a::l,i=>by
  unfold qKS
  rw [List.any_cons]
  cases p a with
  |true=>exact .inl ⟨rfl,i,rfl⟩
  |false=>exact qS7 p g l (i+1)
theorem qRo (l:List Ar) (hl:l.length≤1000) (x y:Int):Ev (qHS · (l.map qDA) x y) (l.any (iaB x y)):=by
 have ix:∃k:Int,decide (k≥0)=l.any (iaB x y)∧Ev (qAF · (l.map qDA) x y) k:=by
  obtain ⟨n1,h1⟩:=qBc (F:=fun (a:Ar) n=>qFQ n a.1 a.2.1 a.2.2.1 a.2.2.2 x y) (f:=fun a=>iaB x y a) l fun a _=>qTP x y a
  have h:∀m,n1+l.length+3≤m→zD (qh m) m (l.map qDA,x,y,((l.map qDA).length:Int),0)=some ((qKS (fun i a=>if iaB x y a=true then some (Sum.inl (β:=Unit) (i:Int)) else none) 0 l).getD (.inr ())):=fun m hm=>by
   have h:=qSR (B:=qh m) (fun i=>(l.map qDA,x,y,((l.map qDA).length:Int),(i:Int))) l (fun i a=>if iaB x y a=true then some (Sum.inl (β:=Unit) (i:Int)) else none) (.inr ())
    (fun i c he=>by
     have hi:=(List.getElem?_eq_some_iff.1 he).1
     have hg:(l.map qDA)[i]?=some (qDA c):=by rw [List.getElem?_map,he];rfl
     obtain ⟨a1,a2⟩:=qIt rfl hg
     have h1:=h1 m (by omega) c (List.mem_of_getElem? he)
     have w:IntKind.i64.wrap ((i:Int)+1)=((i+1:Nat):Int):=by rw [qU (by omega)];omega
     refine qD (decide_eq_true (by simpa using hi)) (qD a1 (qA a2 (qD rfl (qA rfl (qA rfl (qA rfl (qA rfl (qA h1 ?_))))))))
     cases iaB x y c with
     |true=>exact qD rfl rfl
     |false=>
      refine qO rfl ?_
      dsimp only
      rw [w]
      rfl)
    (qO (decide_eq_false (by simp)) rfl) m (by omega)
   exact h
  rcases qS7 (iaB x y) (fun k=>(Sum.inl k:Int⊕Unit)) l 0 with ⟨e1,k,e2⟩|⟨e1,e2⟩
  ·refine ⟨(k:Int),by rw [e1];exact decide_eq_true (by omega),qHD (qEQ (R:=fun n=>qm n (l.map qDA) x y) (qBI ⟨_,h⟩ ?_) fun n=>rfl)⟩
   rw [e2]
   exact qUm (qBF rfl)
  ·refine ⟨-1,by rw [e1];rfl,qHD (qEQ (R:=fun n=>qm n (l.map qDA) x y) (qBI ⟨_,h⟩ ?_) fun n=>rfl)⟩
   rw [e2]
   exact qUl (qBF rfl)
 obtain ⟨k,e,hk⟩:=ix
 refine qHD (qEQ (R:=fun n=>qJ7 n (l.map qDA) x y) (qBI (qHD (qEQ (F:=fun n=>q8 n (l.map qDA) x y) (Q:=fun z=>z=l.any (iaB x y)) (R:=fun n=>q7 n (l.map qDA) x y) (qBI hk (qBF e)) fun n=>rfl)) (qBF rfl)) fun n=>rfl)
def qCu (r:Int×Int):List PV:= [.i .i64 r.1,.i .i64 r.2]
def clR (c:Cl):Int×Int:=(c.1,c.2.1)
def qDD (ar:List Ar) (l:List Cl):List (Int×Int):=(l.filter fun c=>ar.any (iaB c.1 c.2.1)).map clR
theorem qS8 {m:Nat} {acc:List (List PV)} {e:List PV} (hm:m=acc.length) (hb:m≤1000) (he:e.length=2):decide (m=acc.length∧0<2∧0<16∧(m+ [e].length)*16≤140737488355328∧ [e].all (fun e=>e.length==2)=true)=true:=decide_eq_true ⟨hm,by decide,by decide,by simp;omega,by simp [he]⟩
theorem qNi (ar:List Ar) (l:List Cl):(qDD ar l).length≤l.length:=by
 unfold qDD
 rw [List.length_map]
 exact List.length_filter_le _ _
theorem qQE {ar:List Ar} {l:List Cl} {i:Nat} {c:Cl} (h:l[i]?=some c):qDD ar (l.take (i+1))=qDD ar (l.take i)++(if ar.any (iaB c.1 c.2.1)=true then [clR c] else []):=by
 unfold qDD
 rw [qFe h,List.map_append]
 split<;>rfl
theorem qRC {l:List Cl} {c r:Int} (hs:∀c∈l,c.2.2.size≤140737488351232):(qOs l c r).size≤140737488351232:=by
 unfold qOs
 cases h:l.find? fun e=>e.1==c&&e.2.1==r with
 |none=>show (⟨#[]⟩:ByteArray).size≤_;decide
 |some e=>exact hs e (List.mem_of_find?_eq_some h)
theorem qQl (ar:List Ar) (ha:ar.length≤1000) (l:List Cl) (hl:l.length≤120):∃n0,∀m,n0≤m→zD (qDL m) m (ar.map qDA,0,l.map qe,((l.map qe).length:Int),0,[])=some ((qDD ar l).length,(qDD ar l).map qCu):=by
 obtain ⟨n1,h1⟩:=qBc (F:=fun (c:Cl) n=>qHS n (ar.map qDA) c.1 c.2.1) (f:=fun c=>ar.any (iaB c.1 c.2.1)) l fun c _=>qRo ar ha c.1 c.2.1
 refine ⟨n1+l.length+3,fun m hm=>?_⟩
 have h:=qSR (B:=qDL m) (fun i=>(ar.map qDA,(qDD ar (l.take i)).length,l.map qe,((l.map qe).length:Int),(i:Int),(qDD ar (l.take i)).map qCu)) l (fun _ _=>none) ((qDD ar l).length,(qDD ar l).map qCu)
  (fun i c he=>by
   have hi:=(List.getElem?_eq_some_iff.1 he).1
   have hg:(l.map qe)[i]?=some (qe c):=by rw [List.getElem?_map,he];rfl
   obtain ⟨a1,a2⟩:=qIt rfl hg
   have h1:=h1 m (by omega) c (List.mem_of_getElem? he)
   have hle:(qDD ar (l.take i)).length≤1000:=Nat.le_trans (qNi _ _) (by simp;omega)
   have ea:(qDD ar (l.take i)).length=((qDD ar (l.take i)).map qCu).length:=by simp
   have w:IntKind.i64.wrap ((i:Int)+1)=((i+1:Nat):Int):=by rw [qU (by omega)];omega
   refine qD (decide_eq_true (by simpa using hi)) (qD a1 (qA a2 (qD rfl (qA rfl (qA rfl (qA rfl (qA h1 ?_)))))))
   dsimp only
   rw [qQE he,w]
   cases ar.any (iaB c.1 c.2.1) with
   |true=>
    refine qD rfl (qD rfl (qD (qS8 ea hle rfl) ?_))
    simp [Tr.run,qCu,clR]
   |false=>
    refine qO rfl ?_
    simp [Tr.run])
  (qO (decide_eq_false (by simp)) (by rw [List.take_length];rfl)) m (by omega)
 rw [qGH] at h
 exact h
def qIu (l:List Cl) (x y:Int):List (Int×Int):=qDD (arL (qOs l x y)) l
theorem qOv (l:List Cl) (x y:Int) (hb:l.length≤140737488351232) (hs:∀c∈l,c.2.2.size≤140737488351232):Ev (qDl · (l.map qe) x y) (if qHC l=true then ((qIu l x y).length,(qIu l x y).map qCu) else (0,[])):=by
 refine qHD (qEQ (R:=fun n=>qG1 n (l.map qe) x y) (qBI (qOo l hb hs) ?_) fun n=>rfl)
 cases hB:qHC l with
 |false=>exact qDB rfl (qBF rfl)
 |true=>
  have h120:l.length≤120:=by
   unfold qHC at hB
   simp only [Bool.and_eq_true,decide_eq_true_eq] at hB
   omega
  refine qIs rfl (qBI (qNg l x y hb) (qBI (qMh _ (qRC hs)) ?_))
  dsimp only
  unfold qIu
  cases h:(fnL (qOs l x y)).2 with
  |false=>
   rw [qUn h]
   have e:qDD [] l= []:=by unfold qDD;simp
   rw [e]
   exact qDB rfl (qBF rfl)
  |true=>
   have hA:=qOt (fnL (qOs l x y)).1 (by have:=(qRn (qOs l x y)).1;omega)
   rw [qSS] at hA
   exact qIs rfl (qBI hA (qBI (qQl _ (by have:=qS6 (qOs l x y);omega) l h120) (qBF rfl)))
theorem qTw {α:Type} {p:α→Bool} {l:List α} {i:Nat} {a:α} (h:l[i]?=some a):(l.take (i+1)).any p=((l.take i).any p||p a):=by
 rw [List.take_add_one,h,List.any_append]
 simp
theorem qQm (ar:List Ar) (ha:ar.length≤1000) (l:List Cl) (hl:l.length≤120):∃n0,∀m,n0≤m→zD (qDZ m) m (l.map qe,0,ar.map qDA,0,[])=some ((qDD ar l).length,(qDD ar l).map qCu):=by
 obtain ⟨n1,h1⟩:=qBc (F:=fun (q:Cl×Ar) n=>qEE n q.1.1 q.1.2.1 q.2.1 q.2.2.1 q.2.2.2.1 q.2.2.2.2) (f:=fun q=>iaB q.1.1 q.1.2.1 q.2) (l.flatMap fun c=>ar.map fun a=>(c,a)) fun q _=>qNh q.1.1 q.1.2.1 q.2
 refine ⟨n1+l.length+ar.length+5,fun m hm=>?_⟩
 have inner:∀(i:Nat) (c:Cl) (k:Nat) (acc:List (List PV)),l[i]?=some c→zD (qCv m) m (l.map qe,k,ar.map qDA,(i:Int),false,0,acc)=some (l.map qe,k,ar.map qDA,(i:Int),ar.any (iaB c.1 c.2.1),acc):=fun i c k acc he=>by
  have hg:(l.map qe)[i]?=some (qe c):=by rw [List.getElem?_map,he];rfl
  obtain ⟨a1,a2⟩:=qIt rfl hg
  have h:=qSR (B:=qCv m) (fun j=>(l.map qe,k,ar.map qDA,(i:Int),(ar.take j).any (iaB c.1 c.2.1),(j:Int),acc)) ar (fun _ _=>none) (l.map qe,k,ar.map qDA,(i:Int),ar.any (iaB c.1 c.2.1),acc)
   (fun j a hj=>by
    have hji:=(List.getElem?_eq_some_iff.1 hj).1
    have hga:(ar.map qDA)[j]?=some (qDA a):=by rw [List.getElem?_map,hj];rfl
    obtain ⟨b1,b2⟩:=qIt rfl hga
    have w:IntKind.i64.wrap ((j:Int)+1)=((j+1:Nat):Int):=by rw [qU (by omega)];omega
    have h1:=h1 m (by omega) (c,a) (List.mem_flatMap.2 ⟨c,List.mem_of_getElem? he,List.mem_map.2 ⟨a,List.mem_of_getElem? hj,rfl⟩⟩)
    refine qD (decide_eq_true (by simpa using hji)) ?_
    dsimp only
    rw [qTw hj,w]
    cases (ar.take j).any (iaB c.1 c.2.1) with
    |true=>exact qD rfl rfl
    |false=>
     refine qO rfl (qD a1 (qA a2 (qD rfl (qA rfl (qA rfl (qD b1 (qA b2 (qD rfl (qA rfl (qA rfl (qA rfl (qA rfl (qA h1 ?_)))))))))))))
     rw [Bool.false_or]
     rfl)
   (qO (decide_eq_false (by simp)) (by rw [List.take_length];rfl)) m (by omega)
  rw [qGH] at h
  exact h
 have h:=qSR (B:=qDZ m) (fun i=>(l.map qe,(qDD ar (l.take i)).length,ar.map qDA,(i:Int),(qDD ar (l.take i)).map qCu)) l (fun _ _=>none) ((qDD ar l).length,(qDD ar l).map qCu)
  (fun i c he=>by
   have hi:=(List.getElem?_eq_some_iff.1 he).1
   have hg:(l.map qe)[i]?=some (qe c):=by rw [List.getElem?_map,he];rfl
   obtain ⟨a1,a2⟩:=qIt rfl hg
   have hle:(qDD ar (l.take i)).length≤1000:=Nat.le_trans (qNi _ _) (by simp;omega)
   have ea:(qDD ar (l.take i)).length=((qDD ar (l.take i)).map qCu).length:=by simp
   have w:IntKind.i64.wrap ((i:Int)+1)=((i+1:Nat):Int):=by rw [qU (by omega)];omega
   refine qD (decide_eq_true (by simpa using hi)) (qA (inner i c _ _ he) ?_)
   dsimp only
   rw [qQE he,w]
   cases ar.any (iaB c.1 c.2.1) with
   |true=>
    refine qD rfl (qD a1 (qA a2 (qD rfl (qA rfl (qA rfl (qD rfl (qD (qS8 ea hle rfl) ?_)))))))
    simp [Tr.run,qCu,clR]
   |false=>
    refine qO rfl ?_
    simp [Tr.run])
  (qO (decide_eq_false (by simp)) (by rw [List.take_length];rfl)) m (by omega)
 rw [qGH] at h
 exact h
theorem qOw (l:List Cl) (x y:Int) (hl:l.length≤120) (hs:∀c∈l,c.2.2.size≤140737488351232):Ev (qGd · (l.map qe) x y) ((qIu l x y).length,(qIu l x y).map qCu):=
 qHD (qEQ (R:=fun n=>qGc n (l.map qe) x y) (qBI (qRm l x y (by omega)) (qBI (qOu _ (qRC hs)) (qBI (qQm _ (by have:=qS6 (qOs l x y);omega) l hl) (qBF rfl)))) fun n=>rfl)
theorem qOx (l:List Cl) (x y:Int) (hb:l.length≤140737488351232) (hs:∀c∈l,c.2.2.size≤140737488351232):Ev (qEi · (l.map qe) x y) (if qHC l=true then ((qIu l x y).length,(qIu l x y).map qCu) else (0,[])):=by
 refine qHD (qEQ (R:=fun n=>qGf n (l.map qe) x y) (qBI (qOn l hb hs) ?_) fun n=>rfl)
 cases hB:qHC l with
 |false=>exact qDB rfl (qBF rfl)
 |true=>
  have h120:l.length≤120:=by
   unfold qHC at hB
   simp only [Bool.and_eq_true,decide_eq_true_eq] at hB
   omega
  exact qIs rfl (qBI (qOw l x y h120 hs) (qBF rfl))
theorem qQF (l:List (Int×Int)) (hb:l.length≤140737488351232):Ev (qDU · (l.map qCu) (l.map qCu)) true:=by
 refine ⟨l.length+5,fun n hn=>?_⟩
 obtain ⟨m,rfl,hm⟩:=up1 hn
 simp only [qDU,qHw,qC,qE,qH,qJ,qK,qM,Option.bind_some,qF,qG,qN]
 have h:=qRQ (B:=qC9 m) (rows:=l.map qCu) (r:= .inr ())
  (fun i e he=>by
   rw [List.getElem?_map] at he
   obtain ⟨c,hc,rfl⟩:=Option.map_eq_some_iff.1 he
   have hi:i<l.length:=(List.getElem?_eq_some_iff.1 hc).1
   have hi':(i:Int)<l.length:=by omega
   obtain ⟨q,rfl⟩:∃q,m=q+1:=⟨m-1,by omega⟩
   have hw:IntKind.i64.wrap ((i:Int)+1)=(i:Int)+1:=qU (by omega)
   have un:∀(a b:Int),qDt (q+1) a b a b=some true:=fun a b=>by simp [qDt,qGC,qC,qE,qH,qJ,qK,qM,Option.bind_some,qF,qG,qN]
   simp [qC9,qC,qE,qH,qJ,qK,qM,Option.bind_some,qF,qG,qN,hi',hc,qCu,zC,un,hw])
  (by simp [qC9,qC,qE,qH,qJ,qK,qM,Option.bind_some,qF,qG,qN]) l.length 0 m (by simp) (by omega)
 simp only [Int.natCast_zero] at h
 simp [h,qC,qE,qH,qJ,qK,qM,Option.bind_some,qF,qG,qN]
def qLv (k:Int):List (Int×Int)→List (Int×Int)
 | []=> []
 |_::r=>(k,k+1)::qLv (k+2) r
theorem qMj:∀(l:List (Int×Int)) (k:Int),(qLv k l).length=l.length
 | [],k=>rfl
 |_::r,k=>by simp [qLv,qMj r]
theorem qQG (n:Nat) (len:Nat) (hb:len≤140737488351232):∀(r pre:List (Int×Int)) (k:Int) (M:Nat),pre.length+r.length=len→1≤k→k+2*r.length≤1000000000000000→r.length+1≤M→
  zD (qCO n) M (len,k,(pre.length:Int),(pre++r).map qCu)=some (k+2*r.length,(pre++qLv k r).map qCu)
 | [],pre,k,M,h1,h2,h3,h4=>by
  obtain ⟨M,rfl⟩:∃q,M=q+1:=⟨M-1,by simp at h4;omega⟩
  have hp:pre.length=len:=by simpa using h1
  rw [qP (r:=(k,pre.map qCu)) (by simp [qCO,qC,qE,qH,qJ,qK,qM,Option.bind_some,qF,qG,qN,hp])]
  simp [qLv]
 |c::r,pre,k,M,h1,h2,h3,h4=>by
  obtain ⟨M,rfl⟩:∃q,M=q+1:=⟨M-1,by simp at h4;omega⟩
  simp only [List.length_cons] at h1 h3 h4
  have hi:(pre.length:Int)<len:=by omega
  have hl:((pre++c::r).map qCu).length=len:=by simp;omega
  have hg:((pre++c::r).map qCu)[pre.length]?=some (qCu c):=by simp
  have hlt:pre.length<((pre++c::r).map qCu).length:=by rw [hl];omega
  have w1:IntKind.i64.wrap (k+1)=k+1:=qU (by omega)
  have w2:IntKind.i64.wrap (k+1+1)=k+2:=by rw [qU (by omega)];omega
  have wi:IntKind.i64.wrap ((pre.length:Int)+1)=(pre.length:Int)+1:=qU (by omega)
  have e1:((pre++c::r).map qCu).set pre.length (qCu (k,k+1))=((pre++ [(k,k+1)])++r).map qCu:=by
   rw [List.map_append,List.map_cons,List.set_append_right (h:=by simp)]
   simp
  rw [qT (v':=(len,k+2,((pre++ [(k,k+1)]).length:Int),((pre++ [(k,k+1)])++r).map qCu)) (by
   rw [←e1]
   generalize ((pre++c::r).map qCu)=acc at hl hg hlt
   have hset:∀x,(acc.set pre.length x)[pre.length]?=some x:=fun x=>List.getElem?_set_self hlt
   simp [qCO,qC,qE,qH,qJ,qK,qM,Option.bind_some,qF,qG,qN,hi,hl,hg,hset,qCu,zK,w1,w2,wi])]
  rw [qQG n len hb r (pre++ [(k,k+1)]) (k+2) M (by simp;omega) (by omega) (by omega) (by omega)]
  simp [qLv]
  omega
theorem qNj (l:List (Int×Int)) (hb:l.length≤100000000000000):Ev (qEG · l.length 1 (l.map qCu)) (1+2*l.length,(qLv 1 l).map qCu):=by
 refine ⟨l.length+30,fun n hn=>?_⟩
 obtain ⟨m,rfl,hm⟩:=up1 hn
 have h:=qQG m l.length (by omega) l [] 1 m (by simp) (by decide) (by omega) (by omega)
 simp only [qEG,qFr,qC,qE,qH,qJ,qK,qM,Option.bind_some,qF,qG,qN]
 simp only [List.length_nil,Int.natCast_zero,List.nil_append] at h
 rw [h]
 simp [qC,qE,qH,qJ,qK,qM,Option.bind_some,qF,qG,qN]
theorem qQH (n:Nat):∀(r pre all:List (Int×Int)) (k:Int) (M:Nat),all=pre++qLv k r→all.length≤140737488351232→1≤k→k+2*r.length≤1000000000000000→r.length+1≤M→
  zD (qCP n) M (all.map qCu,k,(pre.length:Int))=some (.inr (k+2*r.length))
 | [],pre,all,k,M,h1,hb,h2,h3,h4=>by
  obtain ⟨M,rfl⟩:∃q,M=q+1:=⟨M-1,by simp at h4;omega⟩
  have hp:all.length=pre.length:=by rw [h1];simp [qLv]
  rw [qP (r:= .inr k) (by simp [qCP,qC,qE,qH,qJ,qK,qM,Option.bind_some,qF,qG,qN,hp])]
  simp
 |c::r,pre,all,k,M,h1,hb,h2,h3,h4=>by
  obtain ⟨M,rfl⟩:∃q,M=q+1:=⟨M-1,by simp at h4;omega⟩
  simp only [List.length_cons] at h3 h4
  have hlen:all.length=pre.length+(r.length+1):=by rw [h1];simp [qLv,qMj]
  have hg:all[pre.length]?=some (k,k+1):=by rw [h1];simp [qLv]
  have hi:(pre.length:Int)<all.length:=by omega
  have w1:IntKind.i64.wrap (k+1)=k+1:=qU (by omega)
  have w2:IntKind.i64.wrap (k+1+1)=k+2:=by rw [qU (by omega)];omega
  have wi:IntKind.i64.wrap ((pre.length:Int)+1)=(pre.length:Int)+1:=qU (by omega)
  rw [qT (v':=(all.map qCu,k+2,((pre++ [(k,k+1)]).length:Int))) (by
   simp [qCP,qC,qE,qH,qJ,qK,qM,Option.bind_some,qF,qG,qN,hi,hg,qCu,zC,w1,w2,wi])]
  rw [qQH n r (pre++ [(k,k+1)]) all (k+2) M (by rw [h1];simp [qLv]) hb (by omega) (by omega) (by omega)]
  simp
  omega
theorem qNk (l:List (Int×Int)) (hb:l.length≤100000000000000):Ev (qDR · ((qLv 1 l).map qCu) 1) (1+2*l.length):=by
 refine ⟨l.length+5,fun n hn=>?_⟩
 obtain ⟨m,rfl,hm⟩:=up1 hn
 have h:=qQH m l [] (qLv 1 l) 1 m (by simp) (by rw [qMj];omega) (by decide) (by omega) (by omega)
 simp only [List.length_nil,Int.natCast_zero] at h
 simp only [qDR,qFs,qC,qE,qH,qJ,qK,qM,Option.bind_some,qF,qG,qN]
 rw [h]
 simp [qC,qE,qH,qJ,qK,qM,Option.bind_some,qF,qG,qN]
noncomputable def mkX:Nat→Int→Nat→List (List PV)→List (List PV)
 |0,_,_,rows=>rows
 |r+1,k,i,rows=>mkX r (k+3) (i+1) (((rows.set i (zK ((rows[i]?).getD []) 0 [.i .i64 k])).set i (zK (zK ((rows[i]?).getD []) 0 [.i .i64 k]) 1 [.i .i64 (k+1)])).set i (zK (zK (zK ((rows[i]?).getD []) 0 [.i .i64 k]) 1 [.i .i64 (k+1)]) 2 [.s (mtx (k+2))]))
theorem qQI (n:Nat) (hn:25≤n) (len:Nat) (hb:len≤140737488351232):∀(r i:Nat) (rows:List (List PV)) (k:Int) (M:Nat),i+r=len→rows.length=len→(∀e∈rows,e.length=3)→1≤k→k+3*r≤1000000000000000→r+1≤M→
  zD (qD6 n) M (len,k,(i:Int),rows)=some (k+3*r,mkX r k i rows)
 |0,i,rows,k,M,h1,hl,h3,h2,h5,h4=>by
  obtain ⟨M,rfl⟩:∃q,M=q+1:=⟨M-1,by omega⟩
  rw [qP (r:=(k,rows)) (qO (decide_eq_false (by dsimp only;omega)) rfl)]
  simp [mkX]
 |r+1,i,rows,k,M,h1,hl,h3,h2,h5,h4=>by
  obtain ⟨M,rfl⟩:∃q,M=q+1:=⟨M-1,by omega⟩
  have hlt:i<rows.length:=by omega
  have w1:IntKind.i64.wrap (k+1)=k+1:=qU (by omega)
  have w2:IntKind.i64.wrap (k+1+1)=k+2:=by rw [qU (by omega)];omega
  have w3:IntKind.i64.wrap (k+2+1)=k+3:=by rw [qU (by omega)];omega
  have wi:IntKind.i64.wrap ((i:Int)+1)=((i+1:Nat):Int):=by rw [qU (by omega)];omega
  have m2:=qUR (k:=k+2) (by omega) hn
  obtain ⟨e,he⟩:∃e,rows[i]?=some e:=⟨_,List.getElem?_eq_getElem hlt⟩
  have hel:e.length=3:=h3 e (List.mem_of_getElem? he)
  have sl:∀(e:List PV) (o:Nat) (x:PV),e.length=3→o<3→(zK e o [x]).length=3:=fun e o x h ho=>by unfold zK;simp;omega
  have set3:∀(R:List (List PV)) (x:List PV),R.length=len→(∀e∈R,e.length=3)→x.length=3→(R.set i x).length=len∧(∀e∈R.set i x,e.length=3)∧(R.set i x)[i]?=some x:=fun R x h h' hx=>⟨by simp [h],fun e he=>by
   rcases List.mem_or_eq_of_mem_set he with he|rfl
   ·exact h' e he
   ·exact hx,List.getElem?_set_self (by omega)⟩
  have ix:∀(R:List (List PV)),R.length=len→decide (len=R.length∧0≤(i:Int)∧(i:Int)<((len:Nat):Int))=true:=fun R h=>decide_eq_true ⟨h.symm,by omega,by omega⟩
  have s1:=set3 rows (zK e 0 [.i .i64 k]) hl h3 (sl e 0 _ hel (by decide))
  have s2:=set3 _ (zK (zK e 0 [.i .i64 k]) 1 [.i .i64 (k+1)]) s1.1 s1.2.1 (sl _ 1 _ (sl e 0 _ hel (by decide)) (by decide))
  have s3:=set3 _ (zK (zK (zK e 0 [.i .i64 k]) 1 [.i .i64 (k+1)]) 2 [.s (mtx (k+2))]) s2.1 s2.2.1 (sl _ 2 _ (sl _ 1 _ (sl e 0 _ hel (by decide)) (by decide)) (by decide))
  have hX:=qQI n hn len hb r (i+1) _ (k+3) M (by omega) s3.1 s3.2.1 (by omega) (by omega) (by omega)
  rw [qT (v':=(len,k+3,((i+1:Nat):Int),((rows.set i (zK e 0 [.i .i64 k])).set i (zK (zK e 0 [.i .i64 k]) 1 [.i .i64 (k+1)])).set i (zK (zK (zK e 0 [.i .i64 k]) 1 [.i .i64 (k+1)]) 2 [.s (mtx (k+2))]))) (by
   have tn:((i:Nat):Int).toNat=i:=Int.toNat_natCast i
   refine qD (decide_eq_true (by dsimp only;omega)) (qD (ix rows hl) (qA (by dsimp only;rw [tn];exact he) (qD (decide_eq_true (by omega)) ?_)))
   dsimp only
   rw [tn,w1,w2,w3,wi]
   exact qD (ix _ s1.1) (qA s1.2.2 (qD (decide_eq_true (by rw [sl e 0 _ hel (by decide)];decide)) (qA m2 (qD (ix _ s2.1) (qA s2.2.2 (qD (decide_eq_true (by rw [sl _ 1 _ (sl e 0 _ hel (by decide)) (by decide)];decide)) rfl))))))),hX]
  rw [mkX,he,Option.getD_some]
  congr 2
  omega
theorem qMk (l:List Cl) (hb:l.length≤100000000000000):Ev (qFE · l.length 1 (l.map qe)) (1+3*l.length,mkX l.length 1 0 (l.map qe)):=by
 refine ⟨l.length+31,fun n hn=>?_⟩
 obtain ⟨m,rfl,hm⟩:=up1 hn
 have h:=qQI m (by omega) l.length (by omega) l.length 0 (l.map qe) 1 m (by omega) (by simp) (fun e he=>by obtain ⟨c,_,rfl⟩:=List.mem_map.1 he;rfl) (by decide) (by omega) (by omega)
 exact qA h rfl
theorem qUL (m sz ty:Nat) (l:List (Int×Int)):zl (⟨(.c (.own 0 0 0 m)),[],[⟨0,sz,ty,(.row (l.map qCu))⟩]⟩:Res)=true:=by
 simp [zl,AV.cvs,zGj,zFR,qCu,CV.flat]
theorem law (rows:List (List PV)) (c r:Int) (w:rows.length*32≤140737488351232∧∀r∈rows,okR [.i .i64,.i .i64,.s] r) (w1:(Lit.int .i64 c).wf=true) (w2:(Lit.int .i64 r).wf=true):Ev (qE2 · rows c r) true:=by
 obtain ⟨l,rfl,hs⟩:=qUJ w.2
 have hl:l.length*32≤140737488351232:=by simpa using w.1
 have t1:=qOq l hl
 have t2:=qQg c r
 refine qHD (qEQ (R:=fun n=>qDY n (l.map qe) c r) (qU3 ⟨_,qOp l (by omega) 1048576⟩ ?_) fun n=>rfl)
 have eL:decide ((l.length:Nat)=(l.map qe).length)=true:=decide_eq_true (by simp)
 obtain ⟨g,hg,hi,hp⟩:∃g:List (Int×Int),g.length≤100000000000000∧Ev (qDl · (l.map qe) c r) (g.length,g.map qCu)∧Ev (qEi · (l.map qe) c r) (g.length,g.map qCu):=by
  have h1:=qOv l c r (by omega) hs
  have h2:=qOx l c r (by omega) hs
  cases hB:qHC l with
  |false=>rw [hB] at h1 h2;exact ⟨[],by decide,h1,h2⟩
  |true=>rw [hB] at h1 h2;exact ⟨qIu l c r,by have:(qIu l c r).length≤l.length:=qNi _ _;omega,h1,h2⟩
 have eG:decide ((g.length:Nat)=(g.map qCu).length)=true:=decide_eq_true (by simp)
 have eM:decide ((g.length:Nat)=((qLv 1 g).map qCu).length)=true:=decide_eq_true (by rw [List.length_map,qMj])
 have hq:=qQF g (by omega)
 have hk:=qNj g (by omega)
 have hh:=qNk g (by omega)
 have ap:=qUL g.length 2 29 g
 refine qBI t1 (qBI t2 (qDB eL (qBI hp (qDB ap (qBI t1 (qBI t2 (qDB eL (qBI hi (qDB ap (qDB eG (qDB eG (qBI hq (qDB (qF _) (qIs rfl ?_))))))))))))))
 refine qBI t1 (qDB eL (qDB eL (qBI (qOr l (by omega)) (qDB (qF _) (qIs rfl (qDB eL (qBI (qMk l (by omega)) (qIs (decide_eq_false (by dsimp only;omega)) ?_))))))))
 refine qDB eG (qDB eG (qBI hq (qDB (qF _) (qIs rfl (qDB eG (qBI hk (qDB eM (qBI hh (qDB (qG _) (qIs (decide_eq_false (by omega)) (qIs (bne_self_eq_false' _) ?_)))))))))))
 refine qBI t1 (qBI t2 (qDB eL (qBI hi (qDB ap (qDB eG (qDB eG (qBI hq (qDB (qF _) (qIs rfl ?_)))))))))
 exact qDB eM (qBI hh (qDB (qG _) (qIs (decide_eq_false (by omega)) (qIs (bne_self_eq_false' _) (qBF rfl)))))
end Go.Proofs.YtkkkfjgagjdcoaaGreatDoor.KFnExactLeansOn

