import Derived.Test.YtkkkfjgagjdcoaaGreatDoorTFnExactMacroText
import Derived.Test.YtkkkfjgagjdcoaaGreatDoorE32
import Derived.Lib.Strings
import Derived.Test.YtkkkfjgagjdcoaaGreatDoorSFnExactMacroTextp1
namespace Go.Proofs.YtkkkfjgagjdcoaaGreatDoor.KFnExactMacroText
open Go.Eng
set_option linter.unusedVariables false
set_option linter.unusedSimpArgs false
theorem qO4 {G:Nat} {l:Nat} (hl0:1≤l) {g:Nat} (hg:G≤g):∀(m:Nat) {x y:Int×PS},l≤m→qIh G ((l:Int)+1) m x y→qIh G (l:Int) m x (sP g (.rl (l:Int) y.1) y.2)
 |0,x,y,hl,ht=>by omega
 |m+1,x,y,hl,ht=>by
  unfold qIh at ht⊢
  rw [if_neg (by omega)]
  by_cases e:l=m+1
  ·subst e
   rw [if_pos (by omega)] at ht
   subst ht
   refine ⟨g,hg,?_⟩
   have key:∀{z:Int×PS},qIh G ((m+1:Nat):Int) m z z:=fun {z}=>by
    cases m with
    |zero=>rfl
    |succ k=>unfold qIh;rw [if_pos (by omega)]
   exact key
  ·rw [if_neg (by omega)] at ht
   obtain ⟨g',h1,h2⟩:=ht
   exact ⟨g',h1,qO4 hl0 hg m (by omega) h2⟩
theorem qP2 {G:Nat} {q:PS} (hq:q.2.1=false):∀(k:Nat),k≤4→∀g,G+k≤g→∃g5,G≤g5∧qIh G (5-(k:Int)) 4 (sP g5 (.row 5) q) (sP g (.row (5-(k:Int))) q)
 |0,_,g,hg=>⟨g,hg,by
  unfold qIh
  rw [if_pos (by decide)]
  simp⟩
 |k+1,hk,0,hg=>by omega
 |k+1,hk,g+1,hg=>by
  obtain ⟨g5,h1,h2⟩:=qP2 (G:=G) hq k (by omega) g (by omega)
  refine ⟨g5,h1,?_⟩
  have e:(5-((k+1:Nat):Int))=((4-k:Nat):Int):=by omega
  have e1:(5-(k:Int))=((4-k:Nat):Int)+1:=by omega
  rw [e1] at h2
  rw [e]
  have:=qO4 (G:=G) (l:=4-k) (by omega) (g:=g) (by omega) 4 (by omega) h2
  have e2:sP (g+1) (.row ((4-k:Nat):Int)) q=sP g (.rl ((4-k:Nat):Int) (sP g (.row (((4-k:Nat):Int)+1)) q).1) (sP g (.row (((4-k:Nat):Int)+1)) q).2:=by
   simp only [sP]
   rw [if_neg (by rw [hq];simp),if_neg (by omega)]
  rw [e2]
  exact this
theorem qRZ (H:RdOK) {r:List UInt8} (h:r.head?=some 35):∀(k:Nat) (n:Int),1≤n→n+k≤6→qPz r.tail n k=qIV r n k
 |0,n,_,_=>rfl
 |k+1,n,h1,h2=>by
  obtain ⟨t,ht⟩:=H.n n ⟨h1,by omega⟩
  cases r with
  |nil=>cases h
  |cons c r=>
   simp only [List.head?_cons,Option.some.injEq] at h
   subst h
   simp only [qPz,qIV,ht,List.tail_cons]
   have ih:=qRZ H (r:=35::r) rfl k (n+1) (by omega) (by omega)
   simp only [List.tail_cons] at ih
   rw [ih]
   simp [List.isPrefixOf]
theorem qP3 {r:List UInt8}:∀(k:Nat) (n:Int) {m:Int},qIV r n k=some m→n≤m∧m<n+k
 |0,n,m,h=>by cases h
 |k+1,n,m,h=>by
  simp only [qIV] at h
  split at h
  ·simp only [Option.some.injEq] at h;omega
  ·have:=qP3 k (n+1) h;omega
theorem qET (c:UInt8) (r:List UInt8):([c].isPrefixOf r=true)↔r.head?=some c:=by
 cases r with
 |nil=>simp [List.isPrefixOf]
 |cons d t=>simp [List.isPrefixOf];exact eq_comm
theorem qLO {c:UInt8} {q:PS} (hb:q.2.1=false):(sIs [c] q).1=true↔(tb q.1).head?=some c:=by
 unfold sIs
 rw [if_neg (by rw [hb];simp)]
 split
 ·rename_i h;exact ⟨fun _=>(qET c _).1 h,fun _=>rfl⟩
 ·rename_i h;exact ⟨fun e=>(by cases e),fun e=>absurd ((qET c _).2 e) h⟩
theorem qQT (r:List UInt8):(wd r).all wch=true:=by
 unfold wd
 induction r with
 |nil=>rfl
 |cons c r ih=>
  by_cases h:wch c=true
  ·simp only [List.takeWhile_cons,h,if_true,List.all_cons,Bool.true_and];exact ih
  ·simp [List.takeWhile_cons,h]
def qRz (N:Nat):Prop:=∀(p q:PS) (deep:Int) (f g:Nat),Lk p q→(tb p.1).length=N→0≤deep→deep+N≤400→20*N+4≤f→20*N+5≤g→Sim (pP f (.un deep) p) (sP g (.row 5) q)
def qR0 (N:Nat):Prop:=∀(m:Nat),m≤4→∀(p q:PS) (deep least a:Int) (f:Nat) (res:Int×PS),Lk p q→(tb p.1).length=N→1≤least→0≤deep→deep+N≤400→20*N+5≤f→
 (qAq (tb p.1)=0∨lvl (qAq (tb p.1))≤m)→qIh (20*N+5) least m (a,q) res→SimP least (pP f (.loop least deep a) p) res
def qRa (N:Nat):Prop:=∀(p q:PS) (deep:Int) (k f g:Nat),k≤4→Lk p q→(tb p.1).length=N→0≤deep→deep+N≤400→20*N+6≤f→20*N+10≤g→SimP (5-(k:Int)) (pP f (.bin (5-(k:Int)) deep) p) (sP g (.row (5-(k:Int))) q)
def qR1 (N:Nat):Prop:=∀(p q:PS) (deep op:Int) (kids:List Int) (f g:Nat),Lk p q→(tb p.1).length=N→0≤deep→deep+N+1≤400→20*N+8≤f→20*N+12≤g→Sim (pP f (.args op deep kids) p) (sP g (.call op kids) q)
theorem qS0 (N:Nat) (hB:∀M,M<N→qRa M) (hT:∀M,M<N→qR0 M):qR0 N:=by
 intro m
 induction m with
 |zero=>
  intro hm p q deep least a f res hl hN hle hd hdN hf hpk ht
  have h0:qAq (tb p.1)=0:=by
   rcases hpk with h|h
   ·exact h
   ·have:=(qQS (op:=qAq (tb p.1))).1
    omega
  cases f with
  |zero=>omega
  |succ f=>
   simp only [pP]
   rw [if_neg (by rw [hl.1];simp),if_pos (.inl h0)]
   unfold qIh at ht
   subst ht
   refine .inl ⟨rfl,⟨hl.1,hl.2.1,hl.2.2.1,?_⟩,.inl ?_⟩
   ·simp only;rw [qCH];exact hl.2.2.2
   ·simp only;rw [qCH];exact h0
 |succ m ih=>
  intro hm p q deep least a f res hl hN hle hd hdN hf hpk ht
  unfold qIh at ht
  by_cases hc:(m:Int)+1<least
  ·rw [if_pos hc] at ht
   subst ht
   cases f with
   |zero=>omega
   |succ f=>
    have hst:qAq (tb p.1)=0∨lvl (qAq (tb p.1))<least:=by
     rcases hpk with h|h
     ·exact .inl h
     ·right;push_cast at h;omega
    simp only [pP]
    rw [if_neg (by rw [hl.1];simp),if_pos hst]
    refine .inl ⟨rfl,⟨hl.1,hl.2.1,hl.2.2.1,?_⟩,?_⟩
    ·simp only;rw [qCH];exact hl.2.2.2
    ·unfold qSo;simp only;rw [qCH];exact hst
  ·rw [if_neg hc] at ht
   obtain ⟨g,hg,ht⟩:=ht
   cases g with
   |zero=>omega
   |succ g=>
    have hin:=qRy (m:=(m:Int)+1) (by omega) (tb q.1)
    have hpq:tb p.1=tb q.1:=hl.2.2.2
    simp only [sP] at ht
    rw [if_neg (by rw [hl.2.1];simp)] at ht
    have ho:sOp ((m:Int)+1) q=(qDS ((m:Int)+1) (tb q.1) qB1,(if qDS ((m:Int)+1) (tb q.1) qB1=0 then tb q.1 else (tb q.1).drop (qAK (qDS ((m:Int)+1) (tb q.1) qB1)).size),q.2):=by
     unfold sOp;rw [if_neg (by rw [hl.2.1];simp)]
    by_cases hop:qAq (tb q.1)≠0∧lvl (qAq (tb q.1))=(m:Int)+1
    ·rw [if_pos hop] at hin
     rw [hin,if_neg hop.1] at ho
     rw [ho] at ht
     simp only at ht
     rw [if_neg hop.1] at ht
     cases f with
     |zero=>omega
     |succ f=>
      simp only [pP]
      rw [if_neg (by rw [hl.1];simp),if_neg (by rw [hpq];exact fun e=>e.elim (fun e=>hop.1 e) (fun e=>by have:=hop.2;omega))]
      rw [hpq]
      rcases qQt (tb q.1) with h0|⟨_,_,hsg⟩
      ·exact absurd h0 hop.1
      have hsz:(sgn (tb q.1)).length=(qAK (qAq (tb q.1))).size:=by rw [hsg,qAQ]
      have hpos:0<(sgn (tb q.1)).length:=by
       cases hh:sgn (tb q.1) with
       |nil=>
        exfalso
        apply hop.1
        unfold qAq
        rw [hh]
        simp
       |cons c t=>simp
      have hdrop:(tb ((tb q.1).drop (sgn (tb q.1)).length)).length<N:=by
       have h1:=qx ((tb q.1).drop (sgn (tb q.1)).length)
       have h2:(sgn (tb q.1)).length≤(tb q.1).length∨(tb q.1).length<(sgn (tb q.1)).length:=by omega
       rw [List.length_drop] at h1
       have h3:(tb q.1).length=N:=by rw [←hpq];exact hN
       have h4:0<N:=by
        rcases Nat.eq_zero_or_pos N with h|h
        ·exfalso
         rw [h] at h3
         have:tb q.1= []:=List.eq_nil_of_length_eq_zero h3
         apply hop.1
         rw [this];rfl
        ·exact h
       omega
      have hlk:Lk ((tb q.1).drop (sgn (tb q.1)).length,p.2) ((tb q.1).drop (qAK (qAq (tb q.1))).size,q.2):=⟨hl.1,hl.2.1,hl.2.2.1,by simp only;rw [hsz]⟩
      have hb:=hB _ hdrop ((tb q.1).drop (sgn (tb q.1)).length,p.2) ((tb q.1).drop (qAK (qAq (tb q.1))).size,q.2) deep (3-m) f g (by omega) hlk rfl hd (by omega) (by omega) (by omega)
      have e5:(5-((3-m:Nat):Int))=(m:Int)+1+1:=by omega
      rw [e5] at hb
      rw [hop.2]
      have hlenA:=qDL f (.bin ((m:Int)+1+1) deep) ((tb q.1).drop (sgn (tb q.1)).length,p.2)
      generalize pP f (.bin ((m:Int)+1+1) deep) ((tb q.1).drop (sgn (tb q.1)).length,p.2)=A at hb hlenA⊢
      generalize hBB:sP g (.row ((m:Int)+1+1)) ((tb q.1).drop (qAK (qAq (tb q.1))).size,q.2)=B at hb ht
      rcases hb with ⟨b1,b2,b3⟩|⟨b1,b2⟩
      ·rw [b1]
       have hs:=qH3 (x:=ndK 5 (qAq (tb q.1)) [a,B.1]) b2
       generalize hC:qC7 (ndK 5 (qAq (tb q.1)) [a,B.1]) A.2=C at hs⊢
       generalize qDk (ndK 5 (qAq (tb q.1)) [a,B.1]) B.2=D at hs ht
       rcases hs with ⟨c1,c2⟩|⟨c1,c2⟩
       ·have hrC:C.2.1=A.2.1:=by rw [←hC];exact qAv _ _
        have hN3:(tb C.2.1).length<N:=by
         rw [hrC]
         exact Nat.lt_of_le_of_lt hlenA hdrop
        refine hT _ hN3 (m+1) hm C.2 D.2 deep least C.1 f res c2 rfl hle hd (by omega) (by omega) ?_ ?_
        ·rw [hrC]
         rcases b3 with h|h
         ·exact .inl h
         ·right;push_cast;omega
        ·rw [c1]
         unfold qIh
         rw [if_neg hc]
         exact ⟨g,by omega,qMI (by omega) m ht⟩
       ·exact .inr ⟨qLN _ (qMH g _ _ c1) ht,qCg f _ _ c2⟩
      ·exact .inr ⟨qLN _ (qMH g _ _ (qLM b1)) ht,qCg f _ _ (qCV b2)⟩
    ·rw [if_neg hop] at hin
     rw [hin,if_pos rfl] at ho
     rw [ho] at ht
     simp only at ht
     rw [if_pos trivial] at ht
     refine ih (by omega) p (tb q.1,q.2) deep least a f res ⟨hl.1,hl.2.1,hl.2.2.1,by simp only;rw [qCH];exact hpq⟩ hN hle hd hdN hf ?_ ht
     rw [hpq]
     rw [hpq] at hpk
     by_cases h0:qAq (tb q.1)=0
     ·exact .inl h0
     ·right
      rcases hpk with h|h
      ·exact absurd h h0
      ·have:lvl (qAq (tb q.1))≠(m:Int)+1:=fun e=>hop ⟨h0,e⟩
       push_cast at h
       omega
theorem qR2 (N:Nat) (hA:qRz N) (hT:∀M,M≤N→qR0 M):qRa N:=by
 intro p q deep k f g hk hl hN hd hdN hf hg
 obtain ⟨g5,hg5,ht⟩:=qP2 (G:=20*N+5) hl.2.1 k hk g (by omega)
 cases f with
 |zero=>omega
 |succ f=>
  simp only [pP]
  have ha:=hA p q deep f g5 hl hN hd hdN (by omega) hg5
  have hlen:=qDL f (.un deep) p
  generalize pP f (.un deep) p=A at ha hlen⊢
  generalize sP g5 (.row 5) q=B at ha ht
  rcases ha with ⟨h1,h2⟩|⟨h1,h2⟩
  ·have hM:(tb A.2.1).length≤N:=by omega
   refine hT _ hM 4 (by omega) A.2 B.2 deep (5-(k:Int)) A.1 f _ h2 rfl (by omega) hd (by omega) (by omega) (.inr ?_) ?_
   ·have:=(qQS (op:=qAq (tb A.2.1))).2;omega
   ·rw [h1];exact qMI (by omega) 4 ht
  ·exact .inr ⟨qLN 4 h1 ht,qCg f _ _ h2⟩
theorem qR3 (H:RdOK) (N:Nat) (hB:qRa N) (hC:∀M,M<N→qR1 M):qR1 N:=by
 intro p q deep op kids f g hl hN hd hdN hf hg
 cases f with
 |zero=>omega
 |succ f=>
 cases g with
 |zero=>omega
 |succ g=>
 cases g with
 |zero=>omega
 |succ g=>
 have hpq:=hl.2.2.2
 have hpb:¬p.2.1=true:=by rw [hl.1];simp
 have hqb:¬q.2.1=true:=by rw [hl.2.1];simp
 have harg:Sim (qD4 (qBA p) (fun p=>pP f (.bin 1 (deep+1)) p)) (sP (g+1) .arg q)∧(tb (qD4 (qBA p) (fun p=>pP f (.bin 1 (deep+1)) p)).2.1).length≤N:=by
  refine ⟨?_,?_⟩
  ·have hw:Lk (wr (tb p.1),p.2) (wr (tb q.1),q.2):=⟨hl.1,hl.2.1,hl.2.2.1,by rw [hpq]⟩
   obtain ⟨e1,e2⟩:=qJY (c:=58) (by decide) hw
   simp only [sP]
   unfold qD4 qBA
   simp only
   rw [hpq] at e1 e2⊢
   by_cases hc:(qAw (BR (wd (tb q.1)))).2.2.2.2=true∧(qW [58] (wr (tb q.1),p.2)).1=true
   ·rw [if_pos hc,if_pos ⟨hc.1,e1▸hc.2⟩]
    simp only
    rw [e2.2.2.2]
    by_cases h2:(qAw (BR (wd (tb (sIs [58] (wr (tb q.1),q.2)).2.1)))).2.2.2.2=true
    ·rw [if_pos h2,h2]
     simp only [Bool.not_true,Bool.or_false]
     exact qH3 ⟨e2.1,e2.2.1,e2.2.2.1,rfl⟩
    ·rw [if_neg h2]
     refine .inr ⟨rfl,qCV (.inl ?_)⟩
     simp only
     have h2:(qAw (BR (wd (tb (sIs [58] (wr (tb q.1),q.2)).2.1)))).2.2.2.2=false:=by simpa using h2
     rw [h2];simp
   ·rw [if_neg hc,if_neg (fun e=>hc ⟨e.1,e1.symm▸e.2⟩)]
    simp only
    have:=hB p (tb q.1,q.2) (deep+1) 4 f g (by omega) ⟨hl.1,hl.2.1,hl.2.2.1,by simp only;rw [qCH];exact hpq⟩ hN (by omega) (by omega) (by omega) (by omega)
    exact this.sim
  ·unfold qD4
   split
   ·rw [qAv];have:=qHe p;omega
   ·have h1:=qDL f (.bin 1 (deep+1)) (qBA p).2
    have h2:=qHe p
    exact Nat.le_trans h1 (by omega)
 obtain ⟨harg,hal⟩:=harg
 simp only [pP]
 rw [if_neg hpb]
 have hs:sP (g+1+1) (.call op kids) q=(if (sIs [41] (sP (g+1) .arg q).2).1=true then qDk (ndK 6 op (kids++ [(sP (g+1) .arg q).1])) (sIs [41] (sP (g+1) .arg q).2).2
  else sP (g+1) (.call op (kids++ [(sP (g+1) .arg q).1])) (if (sIs [44] (sIs [41] (sP (g+1) .arg q).2).2).1=true then (sIs [44] (sIs [41] (sP (g+1) .arg q).2).2).2 else qKl (sIs [44] (sIs [41] (sP (g+1) .arg q).2).2).2)):=by
  rw [sP]
  rw [if_neg hqb]
 rw [hs]
 generalize qD4 (qBA p) (fun p=>pP f (.bin 1 (deep+1)) p)=Q at harg hal⊢
 generalize sP (g+1) .arg q=A at harg⊢
 rcases harg with ⟨h1,h2⟩|⟨h1,h2⟩
 ·have hb2:=h2.2.1
  obtain ⟨c1,c2⟩:=qJY (c:=44) (by decide) h2
  have i41:=qLO (c:=41) hb2
  have i44:=qLO (c:=44) hb2
  by_cases hc:(qW [44] Q.2).1=true
  ·rw [if_pos hc]
   have hh:=i44.1 (c1▸hc)
   have n41:¬(sIs [41] A.2).1=true:=fun e=>by rw [i41.1 e] at hh;cases hh
   rw [if_neg n41]
   have e41:(sIs [41] A.2).2=(tb A.2.1,A.2.2):=by
    unfold sIs at n41⊢
    rw [if_neg (by rw [hb2];simp)] at n41⊢
    split
    ·rename_i hx;rw [if_pos hx] at n41;exact absurd rfl n41
    ·rfl
   rw [e41]
   have e44:sIs [44] (tb A.2.1,A.2.2)=sIs [44] A.2:=by unfold sIs;simp only [qCH]
   rw [e44,if_pos (c1▸hc),h1]
   have hlt:=qDK (w:= [44]) (by simp) hc
   have htb:=qx (qW [44] Q.2).2.1
   exact hC _ (by omega) (qW [44] Q.2).2 (sIs [44] A.2).2 deep op _ f (g+1) c2 rfl hd (by omega) (by omega) (by omega)
  ·rw [if_neg hc]
   have et:(qW [44] Q.2).2=(tb Q.2.1,Q.2.2):=by
    unfold qW at hc⊢
    split
    ·rename_i hx;rw [if_pos hx] at hc;exact absurd rfl hc
    ·rfl
   rw [et]
   have hl2:Lk (tb Q.2.1,Q.2.2) A.2:=⟨h2.1,h2.2.1,h2.2.2.1,by simp only;rw [qCH];exact h2.2.2.2⟩
   have hm:=qP1 (c:=41) (by decide) (a:=(A.1,(tb Q.2.1,Q.2.2))) (b:=(A.1,A.2)) (.inl ⟨rfl,hl2⟩)
   by_cases h41:(sIs [41] A.2).1=true
   ·rw [if_pos h41]
    simp only [h41,if_true] at hm
    have:=qP0 (fun _=>ndK 6 op (kids++ [A.1])) hm
    rw [h1]
    exact this
   ·rw [if_neg h41]
    have e41:(sIs [41] A.2).2=(tb A.2.1,A.2.2):=by
     unfold sIs at h41⊢
     rw [if_neg (by rw [hb2];simp)] at h41⊢
     split
     ·rename_i hx;rw [if_pos hx] at h41;exact absurd rfl h41
     ·rfl
    have e44:sIs [44] (tb A.2.1,A.2.2)=sIs [44] A.2:=by unfold sIs;simp only [qCH]
    rw [e41,e44,if_neg (c1▸hc)]
    refine .inr ⟨qMH _ _ _ rfl,qCV ?_⟩
    simp only [if_neg h41] at hm
    rcases hm with ⟨_,_,hb,_⟩|⟨_,hdm⟩
    ·simp [qKl] at hb
    ·exact hdm
 ·have e41:sIs [41] A.2=(false,tb A.2.1,A.2.2):=qH2 h1
  have e44:sIs [44] (tb A.2.1,A.2.2)=(false,tb (tb A.2.1),A.2.2):=qH2 h1
  rw [e41]
  simp only [Bool.false_eq_true,if_false]
  rw [e44]
  simp only [Bool.false_eq_true,if_false]
  refine .inr ⟨qMH _ _ _ rfl,?_⟩
  split
  ·exact qCg f _ _ (qD5 h2)
  ·exact qCV (qHd (qD5 h2))
theorem qP4 {c d:UInt8} (h:c≠d) {r:List UInt8} (hr:r.head?=some c):¬r.head?=some d:=by rw [hr];simpa using h
theorem qR4 (H:RdOK) (N:Nat) (hA:∀M,M<N→qRz M) (hB:∀M,M<N→qRa M) (hC:∀M,M<N→qR1 M):qRz N:=by
 intro p q deep f g hl hN hd hdN hf hg
 cases f with
 |zero=>omega
 |succ f=>
 cases f with
 |zero=>omega
 |succ f=>
 cases g with
 |zero=>omega
 |succ g=>
 cases g with
 |zero=>omega
 |succ g=>
 have hpq:=hl.2.2.2
 have hpb:¬p.2.1=true:=by rw [hl.1];simp
 have hqb:¬q.2.1=true:=by rw [hl.2.1];simp
 have hq0:=hl.2.1
 have hs:sP (g+1+1) (.row 5) q=sP (g+1) .one q:=by
  rw [sP,if_neg hqb,if_pos rfl]
 rw [hs]
 obtain ⟨e1,e2⟩:=qJY (c:=45) (by decide) hl
 rw [pP]
 rw [if_neg (by intro e;rcases e with e|e;omega;exact hpb e)]
 by_cases hc:(qW [45] p).1=true
 ·rw [if_pos hc]
  simp only [sP]
  rw [if_pos (e1▸hc)]
  have hlt:=qDK (w:= [45]) (by simp) hc
  have htb:=qx (qW [45] p).2.1
  exact qP0 (fun k=>ndK 4 0 [k]) (hA _ (by omega) _ _ (deep+1) (f+1) g e2 rfl (by omega) (by omega) (by omega) (by omega))
 ·rw [if_neg hc]
  have hp':(qW [45] p).2=(tb p.1,p.2):=by
   unfold qW at hc⊢
   split
   ·rename_i hx;rw [if_pos hx] at hc;exact absurd rfl hc
   ·rfl
  have hq':(sIs [45] q).2=(tb q.1,q.2):=by
   have hc:¬(sIs [45] q).1=true:=e1▸hc
   unfold sIs at hc⊢
   rw [if_neg hqb] at hc⊢
   split
   ·rename_i hx;rw [if_pos hx] at hc;exact absurd rfl hc
   ·rfl
  rw [hp']
  simp only [sP]
  rw [if_neg (e1▸hc),hq']
  simp only [pP,qCH]
  have hl2:Lk (tb p.1,p.2) (tb q.1,q.2):=⟨hl.1,hl.2.1,hl.2.2.1,by simp only [qCH];exact hpq⟩
  obtain ⟨f1,f2⟩:=qJY (c:=40) (by decide) hl2
  have i40:=qLO (c:=40) (q:=(tb q.1,q.2)) hq0
  have i34:=qLO (c:=34) (q:=(tb q.1,q.2)) hq0
  have i35:=qLO (c:=35) (q:=(tb q.1,q.2)) hq0
  simp only [qCH] at i40 i34 i35
  rw [hpq] at hN f1 f2⊢
  by_cases h34:(tb q.1).head?=some 34
  ·rw [if_pos h34,if_neg (fun e=>qP4 (by decide) h34 (i40.1 e)),if_pos (i34.2 h34)]
   have es:(sIs [34] (tb q.1,q.2)).2.1=(tb q.1).tail:=by
    have:=i34.2 h34
    unfold sIs at this⊢
    rw [if_neg hqb] at this⊢
    simp only [qCH] at this⊢
    split
    ·simp
    ·rename_i hx;rw [if_neg hx] at this;cases this
   rw [es]
   cases hqr:qBy [] (tb q.1).tail with
   |none=>exact .inr ⟨rfl,.inl rfl⟩
   |some st=>
    obtain ⟨s,t⟩:=st
    exact qH3 ⟨hl.1,hl.2.1,hl.2.2.1,rfl⟩
  ·rw [if_neg h34]
   by_cases h35:(tb q.1).head?=some 35
   ·rw [if_pos h35,if_neg (fun e=>qP4 (by decide) h35 (i40.1 e)),if_neg (fun e=>h34 (i34.1 e)),if_pos (i35.2 h35)]
    have es:(sIs [35] (tb q.1,q.2)).2.1=(tb q.1).tail:=by
     have:=i35.2 h35
     unfold sIs at this⊢
     rw [if_neg hqb] at this⊢
     simp only [qCH] at this⊢
     split
     ·simp
     ·rename_i hx;rw [if_neg hx] at this;cases this
    rw [es,qRZ H h35 5 1 (by omega) (by omega)]
    cases he:qIV (tb q.1) 1 5 with
    |some n=>
     simp only
     obtain ⟨t,ht⟩:=H.n n (by have:=qP3 5 1 he;omega)
     have hsz:(qf n).size=t.length+1:=by rw [←qAQ,ht];rfl
     refine qH3 ⟨hl.1,hl.2.1,hl.2.2.1,?_⟩
     simp only
     rw [hsz]
     cases hr:tb q.1 with
     |nil=>rw [hr] at h35;cases h35
     |cons c r=>rfl
    |none=>
     simp only
     rw [if_neg (fun e=>e.1 h35)]
     have hw:wd (tb q.1)= []:=by
      cases hr:tb q.1 with
      |nil=>rw [hr] at h35;cases h35
      |cons c r=>
       rw [hr] at h35
       simp only [List.head?_cons,Option.some.injEq] at h35
       subst h35
       rfl
     rw [hw,if_neg (fun e=>H.v0 e.2),if_neg (by rw [H.p0];simp),H.f0]
     exact .inr ⟨rfl,qE9 _⟩
   ·rw [if_neg h35]
    simp only
    by_cases h40:(qW [40] (tb q.1,p.2)).1=true
    ·rw [if_pos ⟨h35,h40⟩,if_pos (f1▸h40)]
     have hlt:=qDK (w:= [40]) (by simp) h40
     simp only [qCH] at hlt
     have htb:=qx (qW [40] (tb q.1,p.2)).2.1
     have hb:=(hB _ (by omega) _ _ (deep+1) 4 f g (by omega) f2 rfl (by omega) (by omega) (by omega) (by omega)).sim
     have e5:(5-((4:Nat):Int))=1:=by omega
     rw [e5] at hb
     exact qP1 (by decide) hb
    ·have n40:¬(sIs [40] (tb q.1,q.2)).1=true:=f1▸h40
     have n34:¬(sIs [34] (tb q.1,q.2)).1=true:=fun e=>h34 (i34.1 e)
     have n35:¬(sIs [35] (tb q.1,q.2)).1=true:=fun e=>h35 (i35.1 e)
     rw [if_neg (fun e=>h40 e.2),if_neg n40,if_neg n34,if_neg n35]
     have hl3:Lk (wr (tb q.1),p.2) (wr (tb q.1),q.2):=⟨hl.1,hl.2.1,hl.2.2.1,rfl⟩
     cases hfn:qFX (wd (tb q.1)) 1 10 with
     |some op=>
      simp only
      obtain ⟨z1,z2⟩:=H.f _ _ hfn
      rw [if_neg (by rw [z1];simp),if_neg (by rw [z2];simp)]
      have hne:1≤(wd (tb q.1)).length:=by
       cases hw:wd (tb q.1) with
       |nil=>rw [hw,H.f0] at hfn;cases hfn
       |cons c t=>simp
      have hlen:(wr (tb q.1)).length+1≤N:=by
       have:=congrArg List.length (wdr (tb q.1))
       simp only [List.length_append] at this
       omega
      obtain ⟨k1,k2⟩:=qJY (c:=40) (by decide) hl3
      cases f with
      |zero=>omega
      |succ f=>
       simp only [pP]
       by_cases ht:(sIs [40] (wr (tb q.1),q.2)).1=true
       ·rw [if_pos ht]
        have em:qCB [40] (wr (tb q.1),p.2)=(qW [40] (wr (tb q.1),p.2)).2:=by
         unfold qCB
         rw [if_neg hpb,if_pos (k1▸ht)]
        rw [em]
        have hlt:=qDK (w:= [40]) (by simp) (k1.symm▸ht)
        have h2:=qx (wr (tb q.1))
        have h3:=qx (qW [40] (wr (tb q.1),p.2)).2.1
        simp only at hlt
        exact hC _ (by omega) _ _ deep op [] f g k2 rfl hd (by omega) (by omega) (by omega)
       ·rw [if_neg ht]
        have em:qCB [40] (wr (tb q.1),p.2)=qQR (qW [40] (wr (tb q.1),p.2)).2:=by
         unfold qCB
         rw [if_neg hpb,if_neg (k1▸ht)]
        rw [em]
        exact .inr ⟨rfl,qCg f _ _ (qE9 _)⟩
     |none=>
      simp only
      by_cases hw0:wd (tb q.1)= []
      ·rw [hw0,if_neg (fun e=>H.v0 e.2),if_neg (by rw [H.p0];simp),if_neg (fun e=>e.2 rfl),if_neg (by rw [H.p0];simp)]
       exact .inr ⟨rfl,qE9 _⟩
      ·by_cases hv:(qh (BR (wd (tb q.1)))).2.2.2=true
       ·rw [if_pos ⟨hv,H.v _ (qQT _) hw0 hv⟩,if_pos ⟨hv,hw0⟩]
        exact qH3 hl3
       ·have nv1:¬((qh (BR (wd (tb q.1)))).2.2.2=true∧((qh (BR (wd (tb q.1)))).1=1∨(qh (BR (wd (tb q.1)))).1=3)):=fun e=>hv e.1
        have nv2:¬((qh (BR (wd (tb q.1)))).2.2.2=true∧wd (tb q.1)≠ []):=fun e=>hv e.1
        rw [if_neg nv1,if_neg nv2]
        by_cases hp:(qAw (BR (wd (tb q.1)))).2.2.2.2=true
        ·rw [if_pos hp,if_pos hp]
         exact qH3 hl3
        ·rw [if_neg hp,if_neg hp]
         exact .inr ⟨rfl,qE9 _⟩
theorem qR5 (H:RdOK) (N:Nat):qRz N∧qR0 N∧qRa N∧qR1 N:=by
 induction N using Nat.strongRecOn with
 |ind N ih=>
  have hA:=qR4 H N (fun M h=>(ih M h).1) (fun M h=>(ih M h).2.2.1) (fun M h=>(ih M h).2.2.2)
  have hT:=qS0 N (fun M h=>(ih M h).2.2.1) (fun M h=>(ih M h).2.1)
  have hB:=qR2 N hA (fun M h=>(Nat.lt_or_eq_of_le h).elim (fun h=>(ih M h).2.1) (fun h=>h▸hT))
  exact ⟨hA,hT,hB,qR3 H N hB (fun M h=>(ih M h).2.2.2)⟩
theorem qAL (r:List UInt8):(BR r).toList=r:=qBr r
theorem qc (r:List UInt8):(BR r).size=r.length:=by rw [←qAQ,qAL]
theorem qIW (s:ByteArray):BR s.toList=s:=qER (qAL _)
theorem qFK (r:List UInt8) (a b:Nat):(BR r).extract a b=BR ((r.take b).drop a):=by
 refine qER ?_
 rw [qAL,Go.Lib.toList_data,ByteArray.data_extract,Array.toList_extract]
 simp [BR,List.extract_eq_take_drop,List.drop_take]
theorem qMJ (a b:List UInt8):BR a++BR b=BR (a++b):=by
 refine qER ?_
 rw [qAL,Go.Lib.toList_data]
 simp [BR]
theorem qSK:∀i:Fin 256,((⟨#[32]⟩:ByteArray).data.toList.contains (UInt8.ofNat i.val))=(UInt8.ofNat i.val==32):=by decide+kernel
def wcS:ByteArray:=⟨#[65,66,67,68,69,70,71,72,73,74,75,76,77,78,79,80,81,82,83,84,85,86,87,88,89,90,48,49,50,51,52,53,54,55,56,57,36]⟩
theorem qSL:∀i:Fin 256,(wcS.data.toList.contains (UInt8.ofNat i.val))=wch (UInt8.ofNat i.val):=by decide+kernel
theorem qQU {f g:UInt8→Bool} (h:∀i:Fin 256,f (UInt8.ofNat i.val)=g (UInt8.ofNat i.val)) (c:UInt8):f c=g c:=by
 have h:=h ⟨c.toNat,UInt8.toNat_lt c⟩
 have e:UInt8.ofNat c.toNat=c:=by simp
 simp only [e] at h
 exact h
theorem qRA (r:List UInt8):Ev (qBE · (BR r) ⟨#[32]⟩) (BR (tb r)):=by
 refine ⟨1,fun n hn=>?_⟩
 obtain ⟨m,rfl,hm⟩:=up1 hn
 show zQ (BR r) ⟨#[32]⟩=_
 unfold zQ
 rw [if_pos ⟨by decide,by decide+kernel⟩]
 unfold Lib.trimLeftS tb
 have:(fun c=>(⟨#[32]⟩:ByteArray).data.toList.contains c)=(fun c=>c==32):=funext (qQU qSK)
 rw [this]
 rfl
theorem qRB (r:List UInt8):Ev (qBE · (BR r) ⟨#[65,66,67,68,69,70,71,72,73,74,75,76,77,78,79,80,81,82,83,84,85,86,87,88,89,90,48,49,50,51,52,53,54,55,56,57,36]⟩) (BR (wr r)):=by
 refine ⟨1,fun n hn=>?_⟩
 obtain ⟨m,rfl,hm⟩:=up1 hn
 show zQ (BR r) wcS=_
 unfold zQ
 rw [if_pos ⟨by decide,by decide+kernel⟩]
 unfold Lib.trimLeftS wr
 have:(fun c=>wcS.data.toList.contains c)=wch:=funext (qQU qSL)
 rw [this]
 rfl
theorem qGi (r:List UInt8) (m:Nat) (b:Bool) (rows:List (List PV)):Ev (qAs · (BR r) m b rows) (BR (tb r),m,b,rows):=by
 obtain ⟨n1,h1⟩:=qRA r
 refine ⟨n1+1,fun n hn=>?_⟩
 obtain ⟨m,rfl,hm⟩:=up1 hn
 have h1:=h1 m (by omega)
 dsimp only at h1
 simp only [qAs,qDC,qC,qE,qG,qH,qJ,qK,Option.bind_some,qF,qM,qN,h1]
theorem qBV (m:Nat) (s w:List UInt8):qk (m+2) (BR s) (BR w)=some (w.isPrefixOf s):=by
 simp only [qk,qBv,qz,qAr,qC,qE,qG,qH,qJ,qK,Option.bind_some,qF,qM,qN,qc,qFK,qAL]
 by_cases h:w.length≤s.length
 ·have h1:((s.length:Nat):Int)≥((w.length:Nat):Int):=by omega
  simp [h1,h,List.isPrefixOf_iff_prefix,List.prefix_iff_eq_take]
  by_cases e:w=s.take w.length
  ·simp [←e,List.isPrefixOf_iff_prefix.2 (List.prefix_iff_eq_take.2 e)]
  ·have e2:¬s.take w.length=w:=fun h=>e h.symm
   have e3:w.isPrefixOf s=false:=by
    rw [Bool.eq_false_iff]
    intro hp
    exact e (List.prefix_iff_eq_take.1 (List.isPrefixOf_iff_prefix.1 hp))
   simp [e2,e3]
 ·have h1:¬((s.length:Nat):Int)≥((w.length:Nat):Int):=by omega
  have e3:w.isPrefixOf s=false:=by
   rw [Bool.eq_false_iff]
   intro hp
   exact h (List.isPrefixOf_iff_prefix.1 hp).length_le
  simp [h1,e3]
theorem qQV (s w:List UInt8):Ev (qk · (BR s) (BR w)) (w.isPrefixOf s):=by
 refine ⟨2,fun n hn=>?_⟩
 obtain ⟨m,rfl,hm⟩:=up1 hn
 obtain ⟨m,rfl,hm⟩:=up1 hm
 exact qBV m s w
def qP5:List (List PV):=qD1.map fun w=> [PV.s (BR w)]
theorem qO5 {n:Nat} {r:List UInt8} (m:Nat) (b:Bool) (rows:List (List PV)) (h:∀w∈qD1,qk n (BR r) (BR w)=some (w.isPrefixOf r)):
  ∀(k i M:Nat),i+k=15→k+1≤M→zC (qCD n) M (15,15,(i:Int),qP5,BR r,m,b,rows)=some (match (qD1.drop i).find? (fun w=>w.isPrefixOf r) with|some w=> .inl (BR w,BR r,m,b,rows)|none=> .inr (BR r,m,b,rows))
 |k,i,0,h1,h2=>by omega
 |0,i,M+1,h1,h2=>by
  have hi:i=15:=by omega
  subst hi
  rw [qP (r:= .inr (BR r,m,b,rows)) (by simp [qCD,qC,qE,qG,qH,qJ,qK,Option.bind_some,qF,qM,qN])]
  rfl
 |k+1,i,M+1,h1,h2=>by
  have hi:i<qD1.length:=by simp [qD1];omega
  obtain ⟨w,hw⟩:∃w,qD1[i]?=some w:=⟨_,List.getElem?_eq_getElem hi⟩
  have hR:qP5[i]?=some [PV.s (BR w)]:=by simp [qP5,List.getElem?_map,hw]
  have hl:qP5.length=15:=rfl
  have hc:zh [PV.s (BR w)] 0=some (BR w):=rfl
  have hp:=h w (List.mem_of_getElem? hw)
  have hd:qD1.drop i=w::qD1.drop (i+1):=qEm hw
  have w5:IntKind.i64.wrap ((i:Int)+1)=((i+1:Nat):Int):=by rw [qa (by omega)];omega
  rw [hd]
  simp only [List.find?_cons]
  cases hq:w.isPrefixOf r with
  |true=>
   rw [qP (r:= .inl (BR w,BR r,m,b,rows)) (by
    refine qD (by simp;omega) (qD (by simp [hl];omega) (qA hR (qA hc (qA (hp.trans (congrArg some hq)) (qD rfl rfl))))))]
  |false=>
   rw [qX (v':=(15,15,((i+1:Nat):Int),qP5,BR r,m,b,rows)) (by
    refine qD (by simp;omega) (qD (by simp [hl];omega) (qA hR (qA hc (qA (hp.trans (congrArg some hq)) (qO rfl ?_)))))
    rw [w5];rfl)]
   exact qO5 m b rows h k (i+1) M (by omega) (by omega)
theorem qMK (r:List UInt8) (m:Nat) (b:Bool) (rows:List (List PV)):Ev (qBf · (BR r) m b rows) (BR (sgn (tb r)),BR (tb r),m,b,rows):=by
 obtain ⟨n1,h1⟩:=qGi r m b rows
 obtain ⟨n2,h2⟩:=qBI (F:=fun w n=>qk n (BR (tb r)) (BR w)) (f:=fun w=>w.isPrefixOf (tb r)) qD1 (fun w _=>qQV (tb r) w)
 refine ⟨n1+n2+30,fun n hn=>?_⟩
 obtain ⟨k,rfl,hm⟩:=up1 hn
 have h1:=h1 k (by omega)
 have lp:=qO5 m b rows (h2 k (by omega)) 15 0 k rfl (by omega)
 refine qA h1 (qA lp ?_)
 simp only [List.drop_zero]
 unfold sgn
 cases hq:qD1.find? (fun w=>w.isPrefixOf (tb r)) with
 |some w=>rfl
 |none=>rfl
theorem qQu (r:List UInt8):sgn r<+:r:=by
 unfold sgn
 split
 ·rename_i w hw
  have:=List.find?_some hw
  exact List.isPrefixOf_iff_prefix.1 (by simpa using this)
 ·exact List.nil_prefix
theorem qO6 (w r:List UInt8) (m:Nat) (b:Bool) (rows:List (List PV)):Ev (qm · (BR w) (BR r) m b rows) (decide (sgn (tb r)=w),BR (if sgn (tb r)=w then (tb r).drop w.length else tb r),m,b,rows):=by
 obtain ⟨n1,h1⟩:=qMK r m b rows
 refine ⟨n1+1,fun n hn=>?_⟩
 obtain ⟨k,rfl,hm⟩:=up1 hn
 refine qA (h1 k (by omega)) ?_
 by_cases h:sgn (tb r)=w
 ·have hp:=(qQu (tb r)).length_le
  rw [h] at hp
  refine qO (by simp [qAL,h]) (qD (by simp [qc];omega) ?_)
  rw [qC,qc,qc,qFK]
  simp [h]
 ·refine qD (by simp [qAL,h]) ?_
  rw [qC]
  simp [h]
theorem qRC (r:List UInt8) (m:Nat) (b:Bool) (rows:List (List PV)) (hr:r.length≤1000):Ev (qBF · (BR r) m b rows) (BR (wd (tb r)),BR (wr (tb r)),m,b,rows):=by
 obtain ⟨n1,h1⟩:=qGi r m b rows
 obtain ⟨n2,h2⟩:=qRB (tb r)
 refine ⟨n1+n2+1,fun n hn=>?_⟩
 obtain ⟨k,rfl,hm⟩:=up1 hn
 have hb:=qx r
 have hw:=qGH (tb r)
 have hsum:=congrArg List.length (wdr (tb r))
 simp only [List.length_append] at hsum
 have e:IntKind.i64.wrap (((tb r).length:Int)-((wr (tb r)).length:Int))=((wd (tb r)).length:Int):=by rw [qa (by omega)];omega
 refine qA (h1 k (by omega)) (qA (h2 k (by omega)) ?_)
 simp only [qc,e]
 refine qD (by simp;omega) (qD (by simp;omega) ?_)
 rw [qC]
 have t1:(wd (tb r)++wr (tb r)).take (wd (tb r)).length=wd (tb r):=List.take_left ..
 have t2:(wd (tb r)++wr (tb r)).drop (wd (tb r)).length=wr (tb r):=List.drop_left ..
 rw [wdr] at t1 t2
 simp [qFK,t1,t2]
def qFA (p:PS):ByteArray×Nat×Bool×List (List PV):=(BR p.1,p.2.2.length,p.2.1,p.2.2.map qb)
def qGO (r:Int×PS):Int×ByteArray×Nat×Bool×List (List PV):=(r.1,BR r.2.1,r.2.2.2.length,r.2.2.1,r.2.2.2.map qb)
def qOm (c:Nd):Prop:=(kd c).length≤2000∧c.2.2.2.2.1.size≤2000
structure Gd (p:PS):Prop where
 r:p.1.length≤1000
 n:p.2.2.length≤60
 s:∀x∈p.2.2,qOm x
theorem qML (x:Nd) (p:PS) (h:p.2.2.length≤60):Ev (qn · x.1 x.2.1 x.2.2.1 x.2.2.2.1 x.2.2.2.2.1 x.2.2.2.2.2.1 x.2.2.2.2.2.2.1 x.2.2.2.2.2.2.2.1 x.2.2.2.2.2.2.2.2.1 x.2.2.2.2.2.2.2.2.2.1 x.2.2.2.2.2.2.2.2.2.2.1 x.2.2.2.2.2.2.2.2.2.2.2.1 x.2.2.2.2.2.2.2.2.2.2.2.2.1 ((kd x).map qA3) (BR p.1) p.2.2.length p.2.1 (p.2.2.map qb)) (qGO (qC7 x p)):=by
 obtain ⟨r,b,l⟩:=p
 refine ⟨1,fun n hn=>?_⟩
 obtain ⟨m,rfl,hm⟩:=up1 hn
 replace h:l.length≤60:=h
 show qn (m+1) _ _ _ _ _ _ _ _ _ _ _ _ _ _ (BR r) l.length b (l.map qb)=_
 unfold qC7
 have w1:IntKind.i64.wrap (((l.length:Nat):Int)-1)=(l.length:Int)-1:=qa (by omega)
 have w2:IntKind.i64.wrap ((((l.length+1):Nat):Int)-1)=(l.length:Int):=by rw [qa (by omega)];omega
 cases b with
 |true=>
  rw [if_pos (.inl rfl)]
  refine qD rfl (qO rfl ?_)
  rw [qC,w1]
  rfl
 |false=>
  by_cases h6:60≤l.length
  ·rw [if_pos (.inr h6)]
   have d:decide (((l.length:Nat):Int)≥60)=true:=decide_eq_true (by omega)
   refine qO rfl (qO (by rw [d];rfl) ?_)
   rw [qC,w1,d]
   rfl
  ·have hn:¬(((r,false,l):PS).2.1=true∨60≤((r,false,l):PS).2.2.length):=by
    intro hh
    rcases hh with hh|hh
    ·exact absurd hh (by simp)
    ·exact h6 hh
   rw [if_neg hn]
   have d:decide (((l.length:Nat):Int)≥60)=false:=decide_eq_false (by omega)
   refine qO rfl (qD (by rw [d];rfl) (qD rfl (qD (decide_eq_true ⟨by simp,by decide,by decide,by simp;omega,rfl⟩) ?_)))
   rw [qC,w2,d]
   simp only [qGO,List.map_append,List.length_append]
   rfl
theorem qJP (v:V3) (p:PS) (h:p.2.2.length≤60):Ev (qi · v.1 v.2.1 v.2.2 (BR p.1) p.2.2.length p.2.1 (p.2.2.map qb)) (qGO (qC7 (nd1 v) p)):=by
 obtain ⟨n1,h1⟩:=qML (nd1 v) p h
 refine ⟨n1+1,fun n hn=>?_⟩
 obtain ⟨k,rfl,hm⟩:=up1 hn
 exact qA (h1 k (by omega)) rfl
theorem qGI {x:Nd} {p:PS} (h:Gd p) (hx:qOm x):Gd (qC7 x p).2:=by
 unfold qC7
 split
 ·exact ⟨h.r,h.n,h.s⟩
 ·rename_i hh
  refine ⟨h.r,?_,fun y hy=>?_⟩
  ·have:¬60≤p.2.2.length:=fun e=>hh (.inr e)
   simp;omega
  ·simp at hy
   rcases hy with hy|rfl
   ·exact h.s _ hy
   ·exact hx
theorem qCW {w:List UInt8} {p:PS} (h:Gd p):Gd (qW w p).2:=by
 have:=qH1 w p
 have h2:=qx p.1
 have h3:=h.r
 refine ⟨by omega,?_,?_⟩
 ·unfold qW;split<;>exact h.n
 ·unfold qW;split<;>exact h.s
theorem qFY (w:List UInt8) (p:PS):Ev (qm · (BR w) (BR p.1) p.2.2.length p.2.1 (p.2.2.map qb)) ((qW w p).1,qFA (qW w p).2):=by
 obtain ⟨n1,h1⟩:=qO6 w p.1 p.2.2.length p.2.1 (p.2.2.map qb)
 refine ⟨n1,fun n hn=>?_⟩
 have h1:=h1 n hn
 unfold qW
 by_cases h:sgn (tb p.1)=w
 ·simp only [h,if_true,decide_true] at h1
  rw [if_pos h];exact h1
 ·simp only [h,if_false,decide_false] at h1
  rw [if_neg h];exact h1
theorem qPb (p:PS) (h:p.1.length≤1000):Ev (qBF · (BR p.1) p.2.2.length p.2.1 (p.2.2.map qb)) (BR (wd (tb p.1)),qFA (wr (tb p.1),p.2)):=qRC p.1 _ _ _ h
theorem qPc (r:List UInt8):(wd r).length≤r.length:=by
 have:=congrArg List.length (wdr r)
 simp only [List.length_append] at this
 omega
theorem qRb (r:List UInt8) (h:r.length≤1000):Ev (qAf · (BR (wd (tb r)))) (qAw (BR (wd (tb r)))):=qLH _ (by rw [qc];have:=qPc (tb r);have:=qx r;omega)
theorem qSp (r:List UInt8) (h:r.length≤1000):Ev (qe · (BR (wd (tb r)))) (qh (BR (wd (tb r)))):=qGe _ (by rw [qc];have:=qPc (tb r);have:=qx r;omega)
theorem qP6 (c:UInt8) (t:List UInt8):Lib.cut (c::t) [34]=if c=34 then ([],t,true) else (c::(Lib.cut t [34]).1,(Lib.cut t [34]).2.1,(Lib.cut t [34]).2.2):=by
 by_cases h:c=34
 ·subst h
  rw [if_pos rfl]
  simp [Lib.cut,Lib.index,List.isPrefixOf]
 ·rw [if_neg h]
  have h':¬34=c:=fun e=>h e.symm
  have g:=Lib.index_ge t [34]
  unfold Lib.cut
  by_cases e:Lib.index t [34]= -1
  ·have:Lib.index (c::t) [34]= -1:=by simp [Lib.index,List.isPrefixOf,h',e]
   simp [this,e]
  ·have:Lib.index (c::t) [34]=Lib.index t [34]+1:=by simp [Lib.index,List.isPrefixOf,h',e]
   have p:0≤Lib.index t [34]:=by omega
   have p1:0≤Lib.index t [34]+1:=by omega
   have q:(Lib.index t [34]+1).toNat=(Lib.index t [34]).toNat+1:=by omega
   simp [this,p,p1,q]
theorem qSM (acc t:List UInt8):qBy acc (34::34::t)=qBy (acc++ [34]) t:=(qBy.eq_def acc _).trans (by simp)
theorem qSN (acc t:List UInt8) (h:t.head?≠some 34):qBy acc (34::t)=some (acc,t):=by
 refine (qBy.eq_def acc _).trans ?_
 cases t with
 |nil=>simp
 |cons d t=>
  have:¬d=34:=fun e=>h (by rw [e];rfl)
  simp [this]
theorem qSO (acc t:List UInt8) {c:UInt8} (h:¬c=34):qBy acc (c::t)=qBy (acc++ [c]) t:=(qBy.eq_def acc _).trans (by simp only [if_neg h])
theorem up3 {n n0:Nat} (h:n0+3≤n):∃m,n=m+3∧n0≤m:=⟨n-3,by omega,by omega⟩
theorem qO7:∀(r acc:List UInt8),qBy acc r=if (Lib.cut r [34]).2.2=true then (if (Lib.cut r [34]).2.1.head?=some 34 then qBy (acc++(Lib.cut r [34]).1++ [34]) (Lib.cut r [34]).2.1.tail else some (acc++(Lib.cut r [34]).1,(Lib.cut r [34]).2.1)) else none
 | [],acc=>by simp [qBy,Lib.cut,Lib.index]
 |c::t,acc=>by
  rw [qP6]
  by_cases h:c=34
  ·subst h
   rw [if_pos rfl]
   by_cases e:t.head?=some 34
   ·obtain ⟨u,rfl⟩:∃u,t=34::u:=by
     cases t with
     |nil=>cases e
     |cons d u=>simp at e;subst e;exact ⟨u,rfl⟩
    rw [qSM];simp
   ·rw [qSN acc t e];simp [e]
  ·simp only [if_neg h]
   rw [qSO acc t h,qO7 t (acc++ [c])]
   simp
theorem qQv:∀r:List UInt8,(Lib.cut r [34]).1.length+(Lib.cut r [34]).2.1.length≤r.length∧((Lib.cut r [34]).2.2=true→(Lib.cut r [34]).2.1.length<r.length)
 | []=>by simp [Lib.cut,Lib.index]
 |c::t=>by
  rw [qP6]
  have ih:=qQv t
  split
  ·simp
  ·simp only [List.length_cons]
   exact ⟨by omega,fun h=>by have:=ih.2 h;omega⟩
theorem qGJ:∀(k:Nat) (acc r:List UInt8) {s t:List UInt8},r.length≤k→qBy acc r=some (s,t)→s.length≤acc.length+r.length+1
 |k,acc,[],s,t,hk,h=>by simp [qBy] at h
 |0,acc,c::r,s,t,hk,h=>by simp at hk
 |k+1,acc,c::r,s,t,hk,h=>by
  simp only [List.length_cons] at hk
  unfold qBy at h
  split at h
  ·cases r with
   |nil=>
    simp at h
    rw [←h.1];simp;omega
   |cons d r'=>
    simp only at h
    split at h
    ·have:=qGJ k _ r' (by simp at hk;omega) h
     simp at this⊢;omega
    ·simp at h
     rw [←h.1];simp;omega
  ·have:=qGJ k _ r (by omega) h
   simp at this⊢;omega
theorem qSP (m:Nat) (r:List UInt8) (h:r.length≤1000):qGz (m+1) (BR r) ⟨#[34]⟩=some (BR (Lib.cut r [34]).1,BR (Lib.cut r [34]).2.1,(Lib.cut r [34]).2.2):=by
 show zAe (BR r) ⟨#[34]⟩=_
 unfold zAe
 rw [if_pos (by rw [qc];omega),←Go.Lib.toList_data (BR r),qAL]
 rfl
theorem qMW (n:Nat) (orig:ByteArray) (m:Nat) (b:Bool) (rows:List (List PV)):∀(k:Nat) (r acc:List UInt8) (M:Nat),r.length≤k→acc.length+r.length≤1000→k+1≤M→
  zC (qCq (n+2)) M (BR acc,BR r,orig,m,b,rows)=some (match qBy acc r with
   |none=> .inl (-1,orig,m,true,rows)
   |some (s,t)=> .inr (BR s,BR t,orig,m,b,rows))
 |k,r,acc,0,h1,h2,h3=>by omega
 |k,r,acc,M+1,h1,h2,h3=>by
  have hc:=qSP (n+1) r (by omega)
  have hl:=qQv r
  have hp:=qBV n (Lib.cut r [34]).2.1 [34]
  rw [qO7]
  cases hf:(Lib.cut r [34]).2.2 with
  |false=>
   rw [if_neg (by simp)]
   refine (qP (r:= .inl (-1,orig,m,true,rows)) ?_).trans rfl
   refine qA hc (qD (by simp [hf]) rfl)
  |true=>
   rw [if_pos rfl]
   have hlt:=hl.2 hf
   by_cases hh:(Lib.cut r [34]).2.1.head?=some 34
   ·rw [if_pos hh]
    have hb:List.isPrefixOf [34] (Lib.cut r [34]).2.1=true:=(qET 34 _).2 hh
    obtain ⟨u,hu⟩:∃u,(Lib.cut r [34]).2.1=34::u:=by
     cases e:(Lib.cut r [34]).2.1 with
     |nil=>rw [e] at hh;cases hh
     |cons c u=>rw [e] at hh;simp at hh;subst hh;exact ⟨u,rfl⟩
    rw [hb] at hp
    rw [qX (v':=(BR (acc++(Lib.cut r [34]).1++ [34]),BR (Lib.cut r [34]).2.1.tail,orig,m,b,rows)) (by
     refine qA hc (qO (by simp [hf]) (qD (decide_eq_true (by rw [qc,qc];omega)) (qA hp (qO rfl (qD (decide_eq_true (by rw [qMJ,qc,List.length_append];show _+1≤9223372036854775807;omega)) (qD (decide_eq_true ⟨by decide,by simp only [qc];rw [hu];simp;omega,by simp [qc]⟩) ?_))))))
     rw [qC]
     simp only [qMJ,qc,qFK]
     rw [hu]
     simp
     exact (qMJ (acc++(Lib.cut r [34]).1) [34]).trans (by rw [List.append_assoc]))]
    rw [hu] at hl hlt⊢
    simp only [List.length_cons] at hl hlt
    refine qMW n orig m b rows (k-1) _ _ M (by simp;omega) (by simp;omega) (by omega)
   ·rw [if_neg hh]
    have hb:List.isPrefixOf [34] (Lib.cut r [34]).2.1=false:=by
     rw [Bool.eq_false_iff];intro e;exact hh ((qET 34 _).1 e)
    rw [hb] at hp
    refine (qP (r:= .inr (BR (acc++(Lib.cut r [34]).1),BR (Lib.cut r [34]).2.1,orig,m,b,rows)) ?_).trans rfl
    refine qA hc (qO (by simp [hf]) (qD (decide_eq_true (by rw [qc,qc];omega)) (qA hp (qD rfl ?_))))
    rw [qC,qMJ]
theorem qRD (t:List UInt8) (b:Bool) (l:List Nd) (h:t.length≤999) (hl:l.length≤60):Ev (qDD · (BR (34::t)) l.length b (l.map qb)) (qGO (match qBy [] t with
   |none=>(-1,34::t,true,l)
   |some (s,t')=>qC7 (nd1 (2,0,BR s)) (t',b,l))):=by
 have lp:=fun n M (hM:t.length+1≤M)=>qMW n (BR (34::t)) l.length b (l.map qb) t.length t [] M (Nat.le_refl _) (by simp;omega) hM
 cases hq:qBy [] t with
 |none=>
  refine ⟨t.length+1+3,fun n hn=>?_⟩
  obtain ⟨m,rfl,hm⟩:=up3 hn
  have lp:=lp m (m+2) (by omega)
  rw [hq] at lp
  refine qD (decide_eq_true ⟨by decide,by rw [qc];simp;omega,Int.le_refl _⟩) ?_
  have e:(BR (34::t)).extract ((1:Int)).toNat ((((BR (34::t)).size:Nat):Int)).toNat=BR t:=by rw [qFK,qc];simp
  rw [e]
  exact qA lp rfl
 |some st=>
  obtain ⟨s,t'⟩:=st
  obtain ⟨n1,h1⟩:=qJP (2,0,BR s) (t',b,l) hl
  refine ⟨n1+t.length+1+3,fun n hn=>?_⟩
  obtain ⟨m,rfl,hm⟩:=up3 hn
  have lp:=lp m (m+2) (by omega)
  rw [hq] at lp
  refine qD (decide_eq_true ⟨by decide,by rw [qc];simp;omega,Int.le_refl _⟩) ?_
  have e:(BR (34::t)).extract ((1:Int)).toNat ((((BR (34::t)).size:Nat):Int)).toNat=BR t:=by rw [qFK,qc];simp
  rw [e]
  exact qA lp (qA (h1 (m+2) (by omega)) rfl)
theorem qR6 (m:Nat) (r:List UInt8) (w:ByteArray):qAC (m+1) (BR r) w=some (BR (if w.toList.isPrefixOf r=true then r.drop w.size else r),w.toList.isPrefixOf r):=by
 show za (BR r) w=_
 unfold za Lib.trimPrefix Lib.hasPrefix
 rw [←Go.Lib.toList_data (BR r),←Go.Lib.toList_data w,qAL,qAQ]
 rfl
theorem qP7 {n:Nat} (deep:Int) (r:List UInt8) (b:Bool) (l:List Nd)
  (h1:∀i,0≤i∧i≤5→qAd n i=some (qf i)) (h2:∀i,1≤i∧i≤5→qBl n i=some (4,i,em))
  (h3:∀w,qAC n (BR r) w=some (BR (if w.toList.isPrefixOf r=true then r.drop w.size else r),w.toList.isPrefixOf r))
  (h4:∀i,1≤i∧i≤5→qi n 4 i em (BR (r.drop (qf i).size)) l.length b (l.map qb)=some (qGO (qC7 (nd1 (4,i,em)) (r.drop (qf i).size,b,l)))):
  ∀(k:Nat) (i:Int) (M:Nat),1≤i→i+k=6→k+1≤M→zC (qBz n) M (deep,i,BR r,l.length,b,l.map qb)=some (match qIV r i k with
   |some e=> .inl (qGO (qC7 (nd1 (4,e,em)) (r.drop (qf e).size,b,l)))
   |none=> .inr (deep,BR r,l.length,b,l.map qb))
 |k,i,0,_,_,h=>by omega
 |0,i,M+1,hi,hk,h=>by
  rw [qP (r:= .inr (deep,BR r,l.length,b,l.map qb)) (by exact qO (decide_eq_false (show ¬i≤5 by omega)) rfl)]
  rfl
 |k+1,i,M+1,hi,hk,h=>by
  have hi5:1≤i∧i≤5:=⟨hi,by omega⟩
  have c:=h3 (qf i)
  cases hq:(qf i).toList.isPrefixOf r with
  |true=>
   rw [hq,if_pos rfl] at c
   unfold qIV
   rw [if_pos hq]
   refine qP (qD (decide_eq_true (show i≤5 by omega)) (qA (h1 i ⟨by omega,by omega⟩) (qA c (qD rfl (qA (h2 i hi5) (qA (h4 i hi5) rfl))))))
  |false=>
   rw [hq,if_neg (by simp)] at c
   unfold qIV
   rw [if_neg (by rw [hq];simp)]
   have w1:IntKind.i64.wrap (i+1)=i+1:=qa (by omega)
   rw [qX (v':=(deep,i+1,BR r,l.length,b,l.map qb)) (by refine qD (decide_eq_true (show i≤5 by omega)) (qA (h1 i ⟨by omega,by omega⟩) (qA c (qO rfl ?_)));rw [qC,w1])]
   exact qP7 deep r b l h1 h2 h3 h4 k (i+1) M (by omega) (by omega) (by omega)
theorem qSQ (deep:Int) (r:List UInt8) (b:Bool) (l:List Nd) (hl:l.length≤60):∃n0,∀n,n0≤n→∀M,n0≤M→zC (qBz n) M (deep,1,BR r,l.length,b,l.map qb)=some (match qIV r 1 5 with
   |some e=> .inl (qGO (qC7 (nd1 (4,e,em)) (r.drop (qf e).size,b,l)))
   |none=> .inr (deep,BR r,l.length,b,l.map qb)):=by
 obtain ⟨n1,h1⟩:=qFV (F:=qAd) (f:=qf) (lo:=0) (by decide) qES
 obtain ⟨n2,h2⟩:=qFV (F:=qBl) (f:=fun i=>(4,i,em)) (lo:=1) (by decide) (fun i _=>qJ9 i)
 obtain ⟨n4,h4⟩:=qFV (F:=fun n i=>qi n 4 i em (BR (r.drop (qf i).size)) l.length b (l.map qb)) (f:=fun i=>qGO (qC7 (nd1 (4,i,em)) (r.drop (qf i).size,b,l))) (lo:=1) (by decide) (fun i _=>qJP (4,i,em) (r.drop (qf i).size,b,l) hl)
 refine ⟨n1+n2+n4+7,fun n hn M hM=>?_⟩
 exact qP7 deep r b l (h1 n (by omega)) (h2 n (by omega)) (fun w=>by
  obtain ⟨m,rfl,_⟩:=up1 (show n1+1≤n by omega)
  exact qR6 m r w) (h4 n (by omega)) 5 1 M (by omega) (by omega) (by omega)
theorem qQw {g:G_impl_reader_binary} {n:Nat} (deep:Int) (w:List UInt8) (p:PS) (res:Int→Int×PS) (h1:∀i,1≤i∧i≤10→qB2 n i=some (fnS i)):
  ∀(k:Nat) (i:Int) (M:Nat),1≤i→i+k=11→k+1≤M→(∀op,qFX w i k=some op→g.impl_reader_call op deep (BR p.1) p.2.2.length p.2.1 (p.2.2.map qb)=some (qGO (res op)))→
   zC (qAi g n) M (deep,BR w,i,BR p.1,p.2.2.length,p.2.1,p.2.2.map qb)=some (match qFX w i k with
   |some op=> .inl (qGO (res op))
   |none=> .inr (qFA p))
 |k,i,0,_,_,h,_=>by omega
 |0,i,M+1,hi,hk,h,_=>by
  rw [qP (r:= .inr (qFA p)) (by exact qO (decide_eq_false (show ¬i≤10 by omega)) rfl)]
  rfl
 |k+1,i,M+1,hi,hk,h,hc=>by
  unfold qFX at hc⊢
  by_cases hq:(fnS i).toList=w
  ·rw [if_pos hq] at hc⊢
   refine qP (qD (decide_eq_true (show i≤10 by omega)) (qA (h1 i ⟨hi,by omega⟩) (qD (by simp [qAL,hq]) (qA (hc i rfl) rfl))))
  ·rw [if_neg hq] at hc⊢
   have w1:IntKind.i64.wrap (i+1)=i+1:=qa (by omega)
   have hq':¬w=(fnS i).toList:=fun e=>hq e.symm
   rw [qX (v':=(deep,BR w,i+1,BR p.1,p.2.2.length,p.2.1,p.2.2.map qb)) (by refine qD (decide_eq_true (show i≤10 by omega)) (qA (h1 i ⟨hi,by omega⟩) (qO (by simp [qAL,hq']) ?_));rw [qC,w1])]
   exact qQw deep w p res h1 k (i+1) M (by omega) (by omega) (by omega) hc
theorem qSR:∃n0,∀n,n0≤n→∀i,1≤i∧i≤10→qB2 n i=some (fnS i):=by
 obtain ⟨n1,h1⟩:=qBI (F:=fun (i:Nat) n=>qB2 n ((i:Int)+1)) (f:=fun i=>fnS ((i:Int)+1)) (List.range 10) (fun i hi=>qJM _ (by have:=List.mem_range.1 hi;omega))
 refine ⟨n1,fun n hn i hi=>?_⟩
 have:=h1 n hn (i-1).toNat (List.mem_range.2 (by omega))
 rwa [show (((i-1).toNat:Nat):Int)+1=i by omega] at this
theorem qSS:∃n0,∀n,n0≤n→∀i,1≤i∧i≤11→qBL n i=some (qAK i):=by
 obtain ⟨n1,h1⟩:=qBI (F:=fun (i:Nat) n=>qBL n ((i:Int)+1)) (f:=fun i=>qAK ((i:Int)+1)) (List.range 11) (fun i hi=>qGG _ (by have:=List.mem_range.1 hi;omega))
 refine ⟨n1,fun n hn i hi=>?_⟩
 have:=h1 n hn (i-1).toNat (List.mem_range.2 (by omega))
 rwa [show (((i-1).toNat:Nat):Int)+1=i by omega] at this
def opF (s:List UInt8):Int→Int→Nat→Int
 |op,_,0=>op
 |op,i,k+1=>opF s (if s=(qAK i).toList then i else op) (i+1) k
theorem qST (r:List UInt8):opF (sgn r) 0 1 11=qAq r:=by
 unfold qAq
 generalize sgn r=s
 by_cases h1:s= [43]; · subst h1;decide+kernel
 by_cases h2:s= [45]; · subst h2;decide+kernel
 by_cases h3:s= [42]; · subst h3;decide+kernel
 by_cases h4:s= [47]; · subst h4;decide+kernel
 by_cases h5:s= [38]; · subst h5;decide+kernel
 by_cases h6:s= [61]; · subst h6;decide+kernel
 by_cases h7:s= [60,62]; · subst h7;decide+kernel
 by_cases h8:s= [60]; · subst h8;decide+kernel
 by_cases h9:s= [60,61]; · subst h9;decide+kernel
 by_cases h10:s= [62]; · subst h10;decide+kernel
 by_cases h11:s= [62,61]; · subst h11;decide+kernel
 rw [if_neg h1,if_neg h2,if_neg h3,if_neg h4,if_neg h5,if_neg h6,if_neg h7,if_neg h8,if_neg h9,if_neg h10,if_neg h11]
 rw [←sg1] at h1;rw [←sg2] at h2;rw [←sg3] at h3;rw [←sg4] at h4;rw [←sg5] at h5;rw [←sg6] at h6;rw [←sg7] at h7;rw [←sg8] at h8;rw [←sg9] at h9;rw [←qRX] at h10;rw [←qRY] at h11
 simp only [opF,if_neg h1]
 simp only [show (1:Int)+1=2 from rfl,if_neg h2,show (2:Int)+1=3 from rfl,if_neg h3,show (3:Int)+1=4 from rfl,if_neg h4,show (4:Int)+1=5 from rfl,if_neg h5,show (5:Int)+1=6 from rfl,if_neg h6,show (6:Int)+1=7 from rfl,if_neg h7,show (7:Int)+1=8 from rfl,if_neg h8,show (8:Int)+1=9 from rfl,if_neg h9,show (9:Int)+1=10 from rfl,if_neg h10,show (10:Int)+1=11 from rfl,if_neg h11]
theorem qP8 {n:Nat} (least deep a op i:Int) (r R:List UInt8) (m:Nat) (b:Bool) (rows:List (List PV)) (hi:1≤i∧i≤11)
  (h1:qBf n (BR r) m b rows=some (BR (sgn R),BR R,m,b,rows)) (h2:qBL n i=some (qAK i)):
  (qA7 n (least,deep,a,op,i,BR r,m,b,rows)).run=some (.inl (least,deep,a,if sgn R=(qAK i).toList then i else op,i+1,BR R,m,b,rows)):=by
 have w1:IntKind.i64.wrap (i+1)=i+1:=qa (by omega)
 refine qD (decide_eq_true (show i≤11 by omega)) (qA h1 (qA h2 ?_))
 by_cases hq:sgn R=(qAK i).toList
 ·rw [if_pos hq]
  exact qD (by simp [qAL,hq]) (by rw [qC,w1])
 ·rw [if_neg hq]
  exact qO (by simp [qAL,hq]) (by rw [qC,w1])
theorem qP9 {n:Nat} (least deep a:Int) (R:List UInt8) (m:Nat) (b:Bool) (rows:List (List PV))
  (h1:qBf n (BR R) m b rows=some (BR (sgn R),BR R,m,b,rows)) (h2:∀i,1≤i∧i≤11→qBL n i=some (qAK i)):
  ∀(k:Nat) (op i:Int) (M:Nat),1≤i→i+k=12→k+1≤M→zC (qA7 n) M (least,deep,a,op,i,BR R,m,b,rows)=some (least,deep,a,opF (sgn R) op i k,BR R,m,b,rows)
 |k,op,i,0,_,_,h=>by omega
 |0,op,i,M+1,hi,hk,h=>by
  rw [qP (r:=(least,deep,a,op,BR R,m,b,rows)) (by exact qO (decide_eq_false (show ¬i≤11 by omega)) rfl)]
  rfl
 |k+1,op,i,M+1,hi,hk,h=>by
  rw [qX (qP8 least deep a op i R R m b rows ⟨hi,by omega⟩ h1 (h2 i ⟨hi,by omega⟩))]
  exact qP9 least deep a R m b rows h1 h2 k _ (i+1) M (by omega) (by omega) (by omega)
theorem qR7 (least deep a:Int) (r:List UInt8) (m:Nat) (b:Bool) (rows:List (List PV)):∃n0,∀n,n0≤n→∀M,n0≤M→zC (qA7 n) M (least,deep,a,0,1,BR r,m,b,rows)=some (least,deep,a,qAq (tb r),BR (tb r),m,b,rows):=by
 obtain ⟨n1,h1⟩:=qMK r m b rows
 obtain ⟨n2,h2⟩:=qMK (tb r) m b rows
 obtain ⟨n3,h3⟩:=qSS
 refine ⟨n1+n2+n3+20,fun n hn M hM=>?_⟩
 obtain ⟨M,rfl,hM⟩:=up1 hM
 have h2:=h2 n (by omega)
 rw [qCH] at h2
 rw [qX (qP8 least deep a 0 1 r (tb r) m b rows (by omega) (h1 n (by omega)) (h3 n (by omega) 1 (by omega)))]
 rw [show (1:Int)+1=2 from rfl,qP9 least deep a (tb r) m b rows h2 (h3 n (by omega)) 10 _ 2 M (by omega) (by omega) (by omega),←qST]
 rfl
theorem qQx {p:PS} (h:Gd p):Gd (qBA p).2∧(qBA p).2.1.length≤p.1.length∧∀x,(qBA p).1=some x→qOm x:=by
 have h1:=qx p.1
 have h2:=qGH (tb p.1)
 have h0:=h.r
 unfold qBA
 simp only
 split
 ·have h3:=qH1 [58] (wr (tb p.1),p.2)
  have h4:=qx (qW [58] (wr (tb p.1),p.2)).2.1
  have h5:=qGH (tb (qW [58] (wr (tb p.1),p.2)).2.1)
  have h6:=qx (wr (tb p.1))
  have e:(qW [58] (wr (tb p.1),p.2)).2.2.2=p.2.2:=by unfold qW;split<;>rfl
  simp only at h3
  refine ⟨⟨by simp only;omega,by rw [e];exact h.n,by rw [e];exact h.s⟩,by simp only;omega,fun x hx=>?_⟩
  cases hx
  exact ⟨by simp [kd,ndA],by simp [ndA,em];decide⟩
 ·exact ⟨h,Nat.le_refl _,fun x hx=>by cases hx⟩
theorem qR8 (p:PS) (h:p.1.length≤1000):∃x:Nd,(∀y,(qBA p).1=some y→x=y)∧Ev (qCy · (BR p.1) p.2.2.length p.2.1 (p.2.2.map qb)) (x.1,x.2.1,x.2.2.1,x.2.2.2.1,x.2.2.2.2.1,x.2.2.2.2.2.1,x.2.2.2.2.2.2.1,x.2.2.2.2.2.2.2.1,x.2.2.2.2.2.2.2.2.1,x.2.2.2.2.2.2.2.2.2.1,x.2.2.2.2.2.2.2.2.2.2.1,x.2.2.2.2.2.2.2.2.2.2.2.1,x.2.2.2.2.2.2.2.2.2.2.2.2.1,(kd x).map qA3,(qBA p).1.isSome,qFA (qBA p).2):=by
 have l1:=qx p.1
 have l2:=qGH (tb p.1)
 have l3:=qH1 [58] (wr (tb p.1),p.2)
 have l6:=qx (wr (tb p.1))
 simp only at l3
 obtain ⟨n1,h1⟩:=qPb p h
 obtain ⟨n2,h2⟩:=qRb p.1 h
 obtain ⟨n3,h3⟩:=qFY [58] (wr (tb p.1),p.2)
 have hle:(qW [58] (wr (tb p.1),p.2)).2.1.length≤1000:=by omega
 obtain ⟨n4,h4⟩:=qPb (qW [58] (wr (tb p.1),p.2)).2 hle
 obtain ⟨n5,h5⟩:=qRb (qW [58] (wr (tb p.1),p.2)).2.1 hle
 have e:(qW [58] (wr (tb p.1),p.2)).2.2=p.2:=by unfold qW;split<;>rfl
 unfold qBA
 simp only
 by_cases hc:(qAw (BR (wd (tb p.1)))).2.2.2.2=true∧(qW [58] (wr (tb p.1),p.2)).1=true
 ·rw [if_pos hc]
  refine ⟨_,fun y hy=>by cases hy;rfl,n1+n2+n3+n4+n5+1,fun n hn=>?_⟩
  obtain ⟨k,rfl,hm⟩:=up1 hn
  refine qA (h1 k (by omega)) (qA (h2 k (by omega)) (qD hc.1 (qA (h3 k (by omega)) (qO (by simp only;rw [hc.2];rfl) (qA (h4 k (by omega)) (qA (h5 k (by omega)) ?_))))))
  cases hb:(qW [58] (wr (tb p.1),p.2)).2.2.1 with
  |true=>
   refine qD hb ?_
   rw [qC];rfl
  |false=>
   refine qO hb ?_
   rw [qC];rfl
 ·rw [if_neg hc]
  refine ⟨(0,0,0,0,⟨#[]⟩,0,0,false,false,0,0,false,false,[]),fun y hy=>(by cases hy),n1+n2+n3+1,fun n hn=>?_⟩
  obtain ⟨k,rfl,hm⟩:=up1 hn
  cases hr:(qAw (BR (wd (tb p.1)))).2.2.2.2 with
  |false=>exact qA (h1 k (by omega)) (qA (h2 k (by omega)) (qO hr rfl))
  |true=>
   have ht:(qW [58] (wr (tb p.1),p.2)).1=false:=by
    rw [Bool.eq_false_iff];exact fun e=>hc ⟨hr,e⟩
   refine qA (h1 k (by omega)) (qA (h2 k (by omega)) (qD hr (qA (h3 k (by omega)) (qD (by simp only;rw [ht];rfl) ?_))))
   rw [qC]
   simp only [qFA,e]
   rfl
theorem qJQ {s:ByteArray} (h:(qh s).2.2.2=true) (hk:(qh s).1=1∨(qh s).1=3):(qh s).2.2.1.size≤2000:=by
 unfold qh at h hk⊢
 split at h
 ·rename_i hc
  rw [if_pos hc] at hk⊢
  have h1:=hc.1
  unfold okV at h1
  have h2:¬(qBD s).1=2:=by
   simp only at hk
   omega
  rw [if_neg h2] at h1
  simp only [Bool.and_eq_true,beq_iff_eq] at h1
  have:=congrArg List.length h1.1
  rw [qAQ] at this
  have h0:(qBD s).2.2.size=0:=this
  show (qBD s).2.2.size≤2000
  omega
 ·cases h
def Kj:PJ→PS→Prop
 | .args _ _ kids,p=>kids.length+p.1.length≤1500
 |_,_=>True
theorem qJZ {w:List UInt8} {p:PS} (h:Gd p):Gd (qCB w p)∧(qCB w p).1.length≤p.1.length:=by
 have h1:=qH1 w p
 have h2:=qx p.1
 unfold qCB
 split
 ·exact ⟨h,Nat.le_refl _⟩
 ·split
  ·exact ⟨qCW h,by omega⟩
  ·exact ⟨⟨(qCW h).r,(qCW h).n,(qCW h).s⟩,by show (qW w p).2.1.length≤_;omega⟩
theorem qLP {p:PS} {r:List UInt8} (h:Gd p) (hr:r.length≤p.1.length):Gd (r,p.2):=⟨by have:=h.r;simp only;omega,h.n,h.s⟩
theorem qEY:∀(f:Nat) (j:PJ) (p:PS),Gd p→Kj j p→Gd (pP f j p).2∧(pP f j p).2.1.length≤p.1.length
 |0,j,p,h,_=>⟨h,Nat.le_refl _⟩
 |f+1,.bin least deep,p,h,_=>by
  unfold pP
  have a:=qEY f (.un deep) p h trivial
  have b:=qEY f (.loop least deep (pP f (.un deep) p).1) (pP f (.un deep) p).2 a.1 trivial
  exact ⟨b.1,Nat.le_trans b.2 a.2⟩
 |f+1,.loop least deep a,p,h,_=>by
  have h1:=qx p.1
  unfold pP
  split
  ·exact ⟨h,Nat.le_refl _⟩
  ·split
   ·exact ⟨qLP h h1,h1⟩
   ·have l1:((tb p.1).drop (sgn (tb p.1)).length).length≤p.1.length:=by simp;omega
    have b:=qEY f (.bin (lvl (qAq (tb p.1))+1) deep) ((tb p.1).drop (sgn (tb p.1)).length,p.2) (qLP h l1) trivial
    simp only
    have c:=qGI (x:=ndK 5 (qAq (tb p.1)) [a,(pP f (.bin (lvl (qAq (tb p.1))+1) deep) ((tb p.1).drop (sgn (tb p.1)).length,p.2)).1]) b.1 ⟨by simp [kd,ndK],by simp [ndK,em];decide⟩
    have d:=qEY f (.loop least deep (qC7 (ndK 5 (qAq (tb p.1)) [a,(pP f (.bin (lvl (qAq (tb p.1))+1) deep) ((tb p.1).drop (sgn (tb p.1)).length,p.2)).1]) (pP f (.bin (lvl (qAq (tb p.1))+1) deep) ((tb p.1).drop (sgn (tb p.1)).length,p.2)).2).1) _ c trivial
    refine ⟨d.1,Nat.le_trans d.2 ?_⟩
    rw [qAv]
    exact Nat.le_trans b.2 l1
 |f+1,.un deep,p,h,_=>by
  have h1:=qx p.1
  have h2:=qH1 [45] p
  unfold pP
  split
  ·exact ⟨⟨h.r,h.n,h.s⟩,Nat.le_refl _⟩
  ·split
   ·simp only
    have b:=qEY f (.un (deep+1)) (qW [45] p).2 (qCW h) trivial
    refine ⟨qGI b.1 ⟨by simp [kd,ndK],by simp [ndK,em];decide⟩,?_⟩
    rw [qAv]
    exact Nat.le_trans b.2 (by omega)
   ·have b:=qEY f (.at deep) (qW [45] p).2 (qCW h) trivial
    exact ⟨b.1,Nat.le_trans b.2 (by omega)⟩
 |f+1,.at deep,p,h,_=>by
  have h1:=qx p.1
  have h2:=qH1 [40] p
  have h3:=qGH (tb p.1)
  have h4:=h.r
  have g2:Gd (wr (tb p.1),p.2):=qLP h (by omega)
  unfold pP
  simp only
  split
  ·split
   ·exact ⟨⟨by simp only;omega,h.n,h.s⟩,h1⟩
   ·rename_i hh _ s t hq
    have a:=qJX _ _ hq
    have b:=qGJ _ _ _ (Nat.le_refl _) hq
    simp only [List.length_tail,List.length_nil] at a b
    refine ⟨qGI (qLP h (by omega)) ⟨by simp [kd,nd1],by simp only [nd1,qc];omega⟩,?_⟩
    rw [qAv];simp only;omega
  ·split
   ·refine ⟨qGI (qLP h (by simp;omega)) ⟨by simp [kd,nd1],by simp [nd1,em];decide⟩,?_⟩
    rw [qAv];simp;omega
   ·split
    ·have b:=qEY f (.bin 1 (deep+1)) (qW [40] p).2 (qCW h) trivial
     have c:=qJZ (w:= [41]) b.1
     exact ⟨c.1,Nat.le_trans c.2 (Nat.le_trans b.2 (by omega))⟩
    ·split
     ·rename_i hv
      refine ⟨qGI g2 ⟨by simp [kd,nd1],qJQ hv.1 hv.2⟩,?_⟩
      rw [qAv];simp only;omega
     ·split
      ·refine ⟨qGI g2 ⟨by simp [kd,ndC],by simp [ndC,em];decide⟩,?_⟩
       rw [qAv];simp only;omega
      ·split
       ·rename_i op _
        have b:=qEY f (.call op deep) (wr (tb p.1),p.2) g2 trivial
        exact ⟨b.1,Nat.le_trans b.2 (by simp only;omega)⟩
       ·exact ⟨⟨g2.r,g2.n,g2.s⟩,by show (wr (tb p.1)).length≤_;omega⟩
 |f+1,.call op deep,p,h,_=>by
  unfold pP
  have a:=qJZ (w:= [40]) h
  have b:=qEY f (.args op deep []) (qCB [40] p) a.1 (by have:=a.1.r;show 0+_≤_;omega)
  exact ⟨b.1,Nat.le_trans b.2 a.2⟩
 |f+1,.args op deep kids,p,h,hk=>by
  replace hk:kids.length+p.1.length≤1500:=hk
  unfold pP
  split
  ·refine ⟨qGI h ⟨by simp [kd,ndK];omega,by simp [ndK,em];decide⟩,?_⟩
   rw [qAv];exact Nat.le_refl _
  ·simp only
   have a:=qQx h
   have qg:Gd (qD4 (qBA p) (fun p=>pP f (.bin 1 (deep+1)) p)).2∧(qD4 (qBA p) (fun p=>pP f (.bin 1 (deep+1)) p)).2.1.length≤p.1.length:=by
    unfold qD4
    split
    ·rename_i x hx
     refine ⟨qGI a.1 (a.2.2 x hx),?_⟩
     rw [qAv];exact a.2.1
    ·have b:=qEY f (.bin 1 (deep+1)) (qBA p).2 a.1 trivial
     exact ⟨b.1,Nat.le_trans b.2 a.2.1⟩
   generalize qD4 (qBA p) (fun p=>pP f (.bin 1 (deep+1)) p)=q at qg⊢
   have t0:=qg.2
   have t1:=qx q.2.1
   have t2:=qH1 [44] q.2
   split
   ·rename_i ht
    have t3:=qDK (by simp) ht
    have b:=qEY f (.args op deep (kids++ [q.1])) (qW [44] q.2).2 (qCW qg.1) (by show (kids++ [q.1]).length+_≤_;simp;omega)
    exact ⟨b.1,Nat.le_trans b.2 (by omega)⟩
   ·have c:=qJZ (w:= [41]) (qCW (w:= [44]) qg.1)
    refine ⟨qGI c.1 ⟨by simp [kd,ndK];omega,by simp [ndK,em];decide⟩,?_⟩
    rw [qAv]
    exact Nat.le_trans c.2 (by omega)
def Ad (f:Nat):PJ→PS→Prop
 | .bin _ _,p=>20*(tb p.1).length+6≤f
 | .loop _ _ _,p=>20*(tb p.1).length+5≤f
 | .un _,p=>20*(tb p.1).length+4≤f
 | .at _,p=>20*(tb p.1).length+3≤f∧p.2.1=false
 | .call _ _,p=>20*(tb p.1).length+9≤f
 | .args _ _ _,p=>20*(tb p.1).length+8≤f
def Jd:PJ→Prop
 | .bin _ d=>0≤d∧d≤401
 | .loop _ d _=>0≤d∧d≤401
 | .un d=>0≤d∧d≤401
 | .at d=>0≤d∧d≤400
 | .call _ d=>0≤d∧d≤400
 | .args _ d _=>0≤d∧d≤400
def Wk:PJ→PS→Int×PS→Prop
 | .bin least deep,p,r=>Ev (qCQ · least deep (BR p.1) p.2.2.length p.2.1 (p.2.2.map qb)) (qGO r)
 | .loop least deep a,p,r=>∃n0,∀n,n0≤n→∀M,n0≤M→zC (qCr (qR n) n) M (least,deep,a,qFA p)=some (qGO r)
 | .un deep,p,r=>Ev (qFQ · deep (BR p.1) p.2.2.length p.2.1 (p.2.2.map qb)) (qGO r)
 | .at deep,p,r=>Ev (qF2 · deep (BR p.1) p.2.2.length p.2.1 (p.2.2.map qb)) (qGO r)
 | .call op deep,p,r=>Ev (qCA · op deep (BR p.1) p.2.2.length p.2.1 (p.2.2.map qb)) (qGO r)
 | .args op deep kids,p,r=>∃(ks:List Int) (p':PS),r=qC7 (ndK 6 op ks) p'∧Gd p'∧ks.length≤1501∧∃n0,∀n,n0≤n→∀M,n0≤M→
   zC (qCE (qR n) n) M (op,deep,kids.length,kids.map qA3,qFA p)=some (op,ks.length,ks.map qA3,qFA p')
theorem qLQ (w:List UInt8) {p:PS} (h:p.2.1=false):(BR (qW w p).2.1,(qW w p).2.2.2.length,!(qW w p).1,(qW w p).2.2.2.map qb)=qFA (qCB w p):=by
 have e:(qW w p).2.2=p.2:=by unfold qW;split<;>rfl
 unfold qCB
 rw [if_neg (by rw [h];simp)]
 cases hc:(qW w p).1 with
 |true=>rw [if_pos rfl];simp only [qFA,e,h];rfl
 |false=>rw [if_neg (by simp)];rfl
theorem qPd {r w:List UInt8} (hw:w≠ []) (h:w<+:r):(tb (r.drop w.length)).length<r.length:=by
 have h1:=qx (r.drop w.length)
 have h2:=h.length_le
 have h3:0<w.length:=List.length_pos_iff.2 hw
 simp only [List.length_drop] at h1
 omega
theorem qSq {r:List UInt8} (h:qAq r≠0):1≤qAq r∧qAq r≤11∧sgn r=(qAK (qAq r)).toList∧sgn r≠ []:=by
 rcases qQt r with e|⟨a,b,c⟩
 ·exact absurd e h
 ·refine ⟨a,b,c,fun e=>h ?_⟩
  unfold qAq;rw [e];decide
def qRc (f:Nat) (deep:Int) (w:List UInt8) (p2:PS):Int×PS:=
 if (qh (BR w)).2.2.2=true∧((qh (BR w)).1=1∨(qh (BR w)).1=3) then qC7 (nd1 ((qh (BR w)).1,(qh (BR w)).2.1,(qh (BR w)).2.2.1)) p2
 else if (qAw (BR w)).2.2.2.2=true then qC7 (ndC (qAw (BR w))) p2
 else match qFX w 1 10 with
 |some op=>pP f (.call op deep) p2
 |none=>(-1,qQR p2)
def qQW (g:G_impl_reader_binary) (n:Nat) (deep:Int) (w:ByteArray) (c:ByteArray×Nat×Bool×List (List PV)):Tr (Int×ByteArray×Nat×Bool×List (List PV)):=
 (.opt (qAf n w) fun r=>(.ask r.2.2.2.2
  (.opt (qn n 2 0 0 0 ⟨#[]⟩ r.1 r.2.1 r.2.2.1 r.2.2.2.1 0 0 false false [] c.1 c.2.1 c.2.2.1 c.2.2.2) fun s=> .done (s.1,s.2.1,s.2.2.1,s.2.2.2.1,s.2.2.2.2))
  (.opt (zC (qAi g n) n (deep,w,1,c.1,c.2.1,c.2.2.1,c.2.2.2)) fun s=>(.alt s (fun t=> .done (t.1,t.2.1,t.2.2.1,t.2.2.2.1,t.2.2.2.2)) (fun t=> .done (-1,t.1,t.2.1,true,t.2.2.2))))))
def qSF (g:G_impl_reader_binary) (n:Nat) (deep:Int) (w:ByteArray) (c:ByteArray×Nat×Bool×List (List PV)):Tr (Int×ByteArray×Nat×Bool×List (List PV)):=
 (.opt (qe n w) fun r=>(.ask r.2.2.2
  (.ask (r.1==1) (.opt (qi n r.1 r.2.1 r.2.2.1 c.1 c.2.1 c.2.2.1 c.2.2.2) fun s=> .done (s.1,s.2.1,s.2.2.1,s.2.2.2.1,s.2.2.2.2))
   (.ask (r.1==3) (.opt (qi n r.1 r.2.1 r.2.2.1 c.1 c.2.1 c.2.2.1 c.2.2.2) fun s=> .done (s.1,s.2.1,s.2.2.1,s.2.2.2.1,s.2.2.2.2))
    (qQW g n deep w c)))
  (qQW g n deep w c)))
theorem qRE (f:Nat) (deep:Int) (r:List UInt8) (p2:PS) (hr:r.length≤1000) (hp:p2.2.2.length≤60) (hc:∀op,qFX (wd (tb r)) 1 10=some op→Ev (qCA · op deep (BR p2.1) p2.2.2.length p2.2.1 (p2.2.2.map qb)) (qGO (pP f (.call op deep) p2))):
  ∃n0,∀n,n0≤n→(qQW (qR n) n deep (BR (wd (tb r))) (qFA p2)).run=some (qGO (if (qAw (BR (wd (tb r)))).2.2.2.2=true then qC7 (ndC (qAw (BR (wd (tb r))))) p2 else match qFX (wd (tb r)) 1 10 with
   |some op=>pP f (.call op deep) p2
   |none=>(-1,qQR p2))):=by
 obtain ⟨n1,h1⟩:=qRb r hr
 obtain ⟨n2,h2⟩:=qML (ndC (qAw (BR (wd (tb r))))) p2 hp
 obtain ⟨n3,h3⟩:=qSR
 obtain ⟨n4,h4⟩:∃n4,∀n,n4≤n→∀op,qFX (wd (tb r)) 1 10=some op→qCA n op deep (BR p2.1) p2.2.2.length p2.2.1 (p2.2.2.map qb)=some (qGO (pP f (.call op deep) p2)):=by
  cases hf:qFX (wd (tb r)) 1 10 with
  |none=>exact ⟨0,fun n _ op h=>by cases h⟩
  |some op=>obtain ⟨n4,h4⟩:=hc op hf;exact ⟨n4,fun n hn op' h=>by cases h;exact h4 n hn⟩
 refine ⟨n1+n2+n3+n4+12,fun n hn=>?_⟩
 have lp:=qQw (g:=qR n) deep (wd (tb r)) p2 (fun op=>pP f (.call op deep) p2) (h3 n (by omega)) 10 1 n (by omega) (by omega) (by omega) (h4 n (by omega))
 cases hb:(qAw (BR (wd (tb r)))).2.2.2.2 with
 |true=>
  rw [if_pos rfl]
  exact qA (h1 n (by omega)) (qD hb (qA (h2 n (by omega)) rfl))
 |false=>
  rw [if_neg (by simp)]
  refine qA (h1 n (by omega)) (qO hb (qA lp ?_))
  cases qFX (wd (tb r)) 1 10<;>rfl
theorem qRd (f:Nat) (deep:Int) (r:List UInt8) (p2:PS) (hr:r.length≤1000) (hp:p2.2.2.length≤60) (hc:∀op,qFX (wd (tb r)) 1 10=some op→Ev (qCA · op deep (BR p2.1) p2.2.2.length p2.2.1 (p2.2.2.map qb)) (qGO (pP f (.call op deep) p2))):
  ∃n0,∀n,n0≤n→(qSF (qR n) n deep (BR (wd (tb r))) (qFA p2)).run=some (qGO (qRc f deep (wd (tb r)) p2)):=by
 obtain ⟨n1,h1⟩:=qSp r hr
 obtain ⟨n2,h2⟩:=qJP ((qh (BR (wd (tb r)))).1,(qh (BR (wd (tb r)))).2.1,(qh (BR (wd (tb r)))).2.2.1) p2 hp
 obtain ⟨n3,h3⟩:=qRE f deep r p2 hr hp hc
 refine ⟨n1+n2+n3,fun n hn=>?_⟩
 have h2:=h2 n (by omega)
 have h3:=h3 n (by omega)
 unfold qRc
 refine qA (h1 n (by omega)) ?_
 by_cases ho:(qh (BR (wd (tb r)))).2.2.2=true
 ·refine qD ho ?_
  by_cases k1:(qh (BR (wd (tb r)))).1=1
  ·rw [if_pos ⟨ho,.inl k1⟩]
   exact qD (by rw [k1];rfl) (qA h2 rfl)
  ·refine qO (beq_eq_false_iff_ne.2 k1) ?_
   by_cases k3:(qh (BR (wd (tb r)))).1=3
   ·rw [if_pos ⟨ho,.inr k3⟩]
    exact qD (by rw [k3];rfl) (qA h2 rfl)
   ·rw [if_neg (fun h=>h.2.elim k1 k3)]
    exact qO (beq_eq_false_iff_ne.2 k3) h3
 ·rw [if_neg (fun h=>ho h.1)]
  exact qO (by rw [Bool.eq_false_iff];exact ho) h3
theorem qSr (w:List UInt8) (p:PS):qW w (tb p.1,p.2)=qW w p:=by unfold qW;simp only [qCH]
theorem qJa {c:UInt8} {r:List UInt8} (h:r.head?=some c):∃t,r=c::t:=by
 cases r with
 |nil=>cases h
 |cons d t=>simp at h;subst h;exact ⟨t,rfl⟩
theorem qEo:∀(f:Nat) (j:PJ) (p:PS),Ad f j p→Jd j→Gd p→Kj j p→Wk j p (pP f j p)
 |0,j,p,ha,_,_,_=>by cases j<;>simp [Ad] at ha
 |f+1,.bin least deep,p,ha,hj,hg,_=>by
  replace ha:20*(tb p.1).length+6≤f+1:=ha
  obtain ⟨n1,h1⟩:=qEo f (.un deep) p (by show 20*_+4≤f;omega) hj hg trivial
  have hl:=qDL f (.un deep) p
  obtain ⟨n2,h2⟩:=qEo f (.loop least deep (pP f (.un deep) p).1) (pP f (.un deep) p).2 (by show 20*_+5≤f;omega) hj (qEY f (.un deep) p hg trivial).1 trivial
  refine ⟨n1+n2+1,fun n hn=>?_⟩
  obtain ⟨k,rfl,hm⟩:=up1 hn
  exact qA (h1 k (by omega)) (qA (h2 k (by omega) k (by omega)) rfl)
 |f+1,.loop least deep a,(r,b,l),ha,hj,hg,_=>by
  replace ha:20*(tb r).length+5≤f+1:=ha
  have hn60:l.length≤60:=hg.n
  have hr1:r.length≤1000:=hg.r
  have ht:=qx r
  unfold pP
  cases b with
  |true=>
   rw [if_pos rfl]
   refine ⟨1,fun n hn M hM=>?_⟩
   obtain ⟨M,rfl,hM⟩:=up1 hM
   exact qP (qO rfl rfl)
  |false=>
   rw [if_neg (by simp)]
   simp only
   obtain ⟨n1,h1⟩:=qR7 least deep a r l.length false (l.map qb)
   by_cases h0:qAq (tb r)=0
   ·rw [if_pos (.inl h0)]
    refine ⟨n1+1,fun n hn M hM=>?_⟩
    obtain ⟨M,rfl,hM⟩:=up1 hM
    exact qP (qD rfl (qA (h1 n (by omega) n (by omega)) (qD (by simp only;rw [h0];rfl) rfl)))
   ·obtain ⟨o1,o2,o3,o4⟩:=qSq h0
    obtain ⟨n2,h2⟩:=qKC (qAq (tb r)) ⟨o1,o2⟩
    by_cases hl:lvl (qAq (tb r))<least
    ·rw [if_pos (.inr hl)]
     refine ⟨n1+n2+1,fun n hn M hM=>?_⟩
     obtain ⟨M,rfl,hM⟩:=up1 hM
     exact qP (qD rfl (qA (h1 n (by omega) n (by omega)) (qO (beq_eq_false_iff_ne.2 h0) (qA (h2 n (by omega)) (qD (decide_eq_true hl) rfl)))))
    ·rw [if_neg (fun h=>h.elim h0 hl)]
     have lv:=qQS (op:=qAq (tb r))
     have hlt:=qPd o4 (qQu (tb r))
     have hp1:Gd ((tb r).drop (sgn (tb r)).length,false,l):=⟨by simp;omega,hn60,hg.s⟩
     obtain ⟨n3,h3⟩:=qGG (qAq (tb r)) ⟨o1,o2⟩
     obtain ⟨n4,h4⟩:=qO6 (qAK (qAq (tb r))).toList (tb r) l.length false (l.map qb)
     obtain ⟨n5,h5⟩:=qEo f (.bin (lvl (qAq (tb r))+1) deep) ((tb r).drop (sgn (tb r)).length,false,l) (by show 20*_+6≤f;simp only;omega) hj hp1 trivial
     have g5:=qEY f (.bin (lvl (qAq (tb r))+1) deep) ((tb r).drop (sgn (tb r)).length,false,l) hp1 trivial
     have l5:=qDL f (.bin (lvl (qAq (tb r))+1) deep) ((tb r).drop (sgn (tb r)).length,false,l)
     simp only at l5
     generalize pP f (.bin (lvl (qAq (tb r))+1) deep) ((tb r).drop (sgn (tb r)).length,false,l)=q at h5 g5 l5⊢
     obtain ⟨n6,h6⟩:=qML (ndK 5 (qAq (tb r)) [a,q.1]) q.2 g5.1.n
     have g6:=qGI (x:=ndK 5 (qAq (tb r)) [a,q.1]) g5.1 ⟨by simp [kd,ndK],by simp [ndK,em];decide⟩
     have e6:=qAv (ndK 5 (qAq (tb r)) [a,q.1]) q.2
     generalize qC7 (ndK 5 (qAq (tb r)) [a,q.1]) q.2=c at h6 g6 e6⊢
     obtain ⟨n7,h7⟩:=qEo f (.loop least deep c.1) c.2 (by show 20*(tb c.2.1).length+5≤f;rw [e6];omega) hj g6 trivial
     refine ⟨n1+n2+n3+n4+n5+n6+n7+1,fun n hn M hM=>?_⟩
     obtain ⟨M,rfl,hM⟩:=up1 hM
     have w1:IntKind.i64.wrap (lvl (qAq (tb r))+1)=lvl (qAq (tb r))+1:=qa (by omega)
     have h3:=h3 n (by omega)
     have h4:=h4 n (by omega)
     have h5:=h5 n (by omega)
     rw [qIW,qCH,←o3,if_pos rfl] at h4
     rw [←w1] at h5
     rw [qX (v':=(least,deep,c.1,qFA c.2)) (by
      exact qD rfl (qA (h1 n (by omega) n (by omega)) (qO (beq_eq_false_iff_ne.2 h0) (qA (h2 n (by omega)) (qO (decide_eq_false hl) (qA h3 (qA h4 (qA (h2 n (by omega)) (qA h5 (qD rfl (qA (h6 n (by omega)) rfl)))))))))))]
     exact h7 n (by omega) M (by omega)
 |f+1,.un deep,p,ha,hj,hg,_=>by
  replace ha:20*(tb p.1).length+4≤f+1:=ha
  replace hj:0≤deep∧deep≤401:=hj
  unfold pP
  by_cases hd:deep>400
  ·rw [if_pos (.inl hd)]
   refine ⟨1,fun n hn=>?_⟩
   obtain ⟨k,rfl,hm⟩:=up1 hn
   exact qD (decide_eq_true hd) (qD rfl rfl)
  ·cases hb:p.2.1 with
   |true=>
    rw [if_pos (.inr rfl)]
    refine ⟨1,fun n hn=>?_⟩
    obtain ⟨k,rfl,hm⟩:=up1 hn
    refine qO (decide_eq_false hd) (qD hb ?_)
    rw [qC,hb];rfl
   |false=>
    rw [if_neg (fun h=>h.elim hd (by simp))]
    obtain ⟨n1,h1⟩:=qFY [45] p
    have t1:=qDT [45] p
    cases hc:(qW [45] p).1 with
    |true=>
     rw [if_pos rfl]
     simp only
     have t2:=qDK (by simp) hc
     have t3:=qx (qW [45] p).2.1
     obtain ⟨n2,h2⟩:=qEo f (.un (deep+1)) (qW [45] p).2 (by show 20*_+4≤f;omega) (by show 0≤deep+1∧deep+1≤401;omega) (qCW hg) trivial
     have g2:=qEY f (.un (deep+1)) (qW [45] p).2 (qCW hg) trivial
     generalize pP f (.un (deep+1)) (qW [45] p).2=q at h2 g2⊢
     obtain ⟨n3,h3⟩:=qML (ndK 4 0 [q.1]) q.2 g2.1.n
     refine ⟨n1+n2+n3+1,fun n hn=>?_⟩
     obtain ⟨k,rfl,hm⟩:=up1 hn
     have w1:IntKind.i64.wrap (deep+1)=deep+1:=qa (by omega)
     have h2:=h2 k (by omega)
     rw [←w1] at h2
     exact qO (decide_eq_false hd) (qO hb (qA (h1 k (by omega)) (qD hc (qA h2 (qD rfl (qA (h3 k (by omega)) rfl))))))
    |false=>
     rw [if_neg (by simp)]
     have e:(qW [45] p).2.2=p.2:=by unfold qW;split<;>rfl
     obtain ⟨n2,h2⟩:=qEo f (.at deep) (qW [45] p).2 ⟨by omega,by rw [e];exact hb⟩ (by show 0≤deep∧deep≤400;omega) (qCW hg) trivial
     refine ⟨n1+n2+1,fun n hn=>?_⟩
     obtain ⟨k,rfl,hm⟩:=up1 hn
     exact qO (decide_eq_false hd) (qO hb (qA (h1 k (by omega)) (qO hc (qA (h2 k (by omega)) rfl))))
 |f+1,.at deep,(r0,b,l),ha,hj,hg,_=>by
  obtain ⟨ha,hb⟩:=ha
  replace ha:20*(tb r0).length+3≤f+1:=ha
  replace hb:b=false:=hb
  subst hb
  replace hj:0≤deep∧deep≤400:=hj
  have hn60:l.length≤60:=hg.n
  have hr1:r0.length≤1000:=hg.r
  have ht:=qx r0
  have ett:=qCH r0
  have eit:=qSr [40] (r0,false,l)
  obtain ⟨n1,h1⟩:=qGi r0 l.length false (l.map qb)
  have wdec:∀op,qFX (wd (tb r0)) 1 10=some op→(wr (tb r0)).length<(tb r0).length:=fun op h=>by
   have e:=congrArg List.length (wdr (tb r0))
   simp only [List.length_append] at e
   have:wd (tb r0)≠ []:=fun e=>by
    rw [e,show qFX [] 1 10=none by decide+kernel] at h
    cases h
   have:=List.length_pos_iff.2 this
   omega
  unfold pP
  simp only at eit⊢
  rw [←eit]
  generalize tb r0=r at*
  have hw:=qGH r
  have wordEv:∃n0,∀n,n0≤n→(qSF (qR n) n deep (BR (wd r)) (qFA (wr r,false,l))).run=some (qGO (qRc f deep (wd r) (wr r,false,l))):=by
   have:=qRd f deep r (wr r,false,l) (by omega) hn60 (by
    rw [ett]
    intro op h
    exact qEo f (.call op deep) (wr r,false,l) (by have:=wdec op h;have:=qx (wr r);show 20*(tb (wr r)).length+9≤f;omega) hj ⟨by simp only;omega,hn60,hg.s⟩ trivial)
   rwa [ett] at this
  obtain ⟨n9,h9⟩:=wordEv
  obtain ⟨n8,h8⟩:=qPb (r,false,l) (by simp only;omega)
  simp only [ett] at h8
  by_cases hq:r.head?=some 34
  ·rw [if_pos hq]
   obtain ⟨t,rfl⟩:=qJa hq
   simp only [List.length_cons] at ht
   obtain ⟨n2,h2⟩:=qRD t false l (by omega) hn60
   refine ⟨n1+n2+3,fun n hn=>?_⟩
   obtain ⟨k,rfl,hm⟩:=up3 hn
   refine qA (h1 (k+2) (by omega)) (qA (qBV k (34::t) [34]) (qD rfl (qA (h2 (k+2) (by omega)) ?_)))
   rw [qC]
   simp only [List.tail_cons]
   all_goals (cases qBy [] t<;>rfl)
  ·rw [if_neg hq]
   have p34:List.isPrefixOf [34] r=false:=by rw [Bool.eq_false_iff];exact fun e=>hq ((qET 34 r).1 e)
   by_cases hh:r.head?=some 35
   ·have p35:List.isPrefixOf [35] r=true:=(qET 35 r).2 hh
    simp only [if_pos hh]
    obtain ⟨n2,h2⟩:=qSQ deep r false l hn60
    cases he:qIV r 1 5 with
    |some e=>
     simp only
     refine ⟨n1+n2+3,fun n hn=>?_⟩
     obtain ⟨k,rfl,hm⟩:=up3 hn
     have h2:=h2 (k+2) (by omega) (k+2) (by omega)
     rw [he] at h2
     exact qA (h1 (k+2) (by omega)) (qA (qBV k r [34]) (qO p34 (qA (qBV k r [35]) (qD p35 (qA h2 rfl)))))
    |none=>
     simp only
     rw [if_neg (fun h=>h.1 hh)]
     refine ⟨n1+n2+n8+n9+3,fun n hn=>?_⟩
     obtain ⟨k,rfl,hm⟩:=up3 hn
     have h2:=h2 (k+2) (by omega) (k+2) (by omega)
     rw [he] at h2
     exact qA (h1 (k+2) (by omega)) (qA (qBV k r [34]) (qO p34 (qA (qBV k r [35]) (qD p35 (qA h2 (qA (h8 (k+2) (by omega)) (h9 (k+2) (by omega))))))))
   ·have p35:List.isPrefixOf [35] r=false:=by rw [Bool.eq_false_iff];exact fun e=>hh ((qET 35 r).1 e)
    simp only [if_neg hh]
    obtain ⟨n2,h2⟩:=qFY [40] (r,false,l)
    cases hc:(qW [40] (r,false,l)).1 with
    |true=>
     rw [if_pos ⟨hh,rfl⟩]
     have t2:=qDK (by simp) hc
     have t3:=qx (qW [40] (r,false,l)).2.1
     simp only [ett] at t2
     have g1:Gd (r,false,l):=⟨by simp only;omega,hn60,hg.s⟩
     obtain ⟨n3,h3⟩:=qEo f (.bin 1 (deep+1)) (qW [40] (r,false,l)).2 (by show 20*_+6≤f;omega) (by show 0≤deep+1∧deep+1≤401;omega) (qCW g1) trivial
     generalize pP f (.bin 1 (deep+1)) (qW [40] (r,false,l)).2=q at h3⊢
     obtain ⟨n4,h4⟩:=qFY [41] q.2
     refine ⟨n1+n2+n3+n4+3,fun n hn=>?_⟩
     obtain ⟨k,rfl,hm⟩:=up3 hn
     have w1:IntKind.i64.wrap (deep+1)=deep+1:=qa (by omega)
     have h3:=h3 (k+2) (by omega)
     rw [←w1] at h3
     cases hbb:q.2.2.1 with
     |true=>
      refine qA (h1 (k+2) (by omega)) (qA (qBV k r [34]) (qO p34 (qA (qBV k r [35]) (qO p35 (qA (h2 (k+2) (by omega)) (qD hc (qA h3 (qD hbb ?_))))))))
      rw [qC]
      unfold qCB
      rw [if_pos hbb]
      simp only [qGO,hbb]
     |false=>
      refine qA (h1 (k+2) (by omega)) (qA (qBV k r [34]) (qO p34 (qA (qBV k r [35]) (qO p35 (qA (h2 (k+2) (by omega)) (qD hc (qA h3 (qO hbb (qA (h4 (k+2) (by omega)) ?_)))))))))
      rw [qC]
      exact congrArg (fun x=>some (q.1,x)) (qLQ [41] hbb)
    |false=>
     rw [if_neg (fun h=>by simp at h)]
     have e:(qW [40] (r,false,l)).2=(r,false,l):=by
      unfold qW at hc⊢
      split at hc
      ·cases hc
      ·rename_i hne
       rw [if_neg hne];simp only [ett]
     rw [hc,e] at h2
     refine ⟨n1+n2+n8+n9+3,fun n hn=>?_⟩
     obtain ⟨k,rfl,hm⟩:=up3 hn
     exact qA (h1 (k+2) (by omega)) (qA (qBV k r [34]) (qO p34 (qA (qBV k r [35]) (qO p35 (qA (h2 (k+2) (by omega)) (qO rfl (qA (h8 (k+2) (by omega)) (h9 (k+2) (by omega)))))))))
 |f+1,.call op deep,p,ha,hj,hg,_=>by
  replace ha:20*(tb p.1).length+9≤f+1:=ha
  unfold pP
  have gm:=qJZ (w:= [40]) hg
  have rm:=qJW [40] p
  obtain ⟨ks,p',e1,e2,e3,n2,h2⟩:=qEo f (.args op deep []) (qCB [40] p) (by show 20*_+8≤f;omega) hj gm.1 (by have:=gm.1.r;show 0+_≤_;omega)
  obtain ⟨n1,h1⟩:=qFY [40] p
  obtain ⟨n3,h3⟩:=qML (ndK 6 op ks) p' e2.n
  rw [e1]
  refine ⟨n1+n2+n3+1,fun n hn=>?_⟩
  obtain ⟨k,rfl,hm⟩:=up1 hn
  have h2:=h2 k (by omega) k (by omega)
  by_cases hb:p.2.1=true
  ·have em:qFA (qCB [40] p)=(BR p.1,p.2.2.length,true,p.2.2.map qb):=by
    unfold qCB;rw [if_pos hb];simp only [qFA,hb]
   rw [em] at h2
   exact qD hb (qA h2 (qD (decide_eq_true (by simp)) (qA (h3 k (by omega)) rfl)))
  ·have hb:p.2.1=false:=by rw [Bool.eq_false_iff];exact hb
   have em:=qLQ [40] hb
   rw [←em] at h2
   exact qO hb (qA (h1 k (by omega)) (qA h2 (qD (decide_eq_true (by simp)) (qA (h3 k (by omega)) rfl))))
 |f+1,.args op deep kids,p,ha,hj,hg,hk=>by
  replace ha:20*(tb p.1).length+8≤f+1:=ha
  replace hk:kids.length+p.1.length≤1500:=hk
  replace hj:0≤deep∧deep≤400:=hj
  unfold pP
  cases hb:p.2.1 with
  |true=>
   rw [if_pos rfl]
   refine ⟨kids,p,rfl,hg,by omega,1,fun n hn M hM=>?_⟩
   obtain ⟨M,rfl,hM⟩:=up1 hM
   exact qP (qO (by show (!p.2.1)=false;rw [hb];rfl) rfl)
  |false=>
   rw [if_neg (by simp)]
   simp only
   obtain ⟨x,hx,n1,h1⟩:=qR8 p hg.r
   have ga:=qQx hg
   have ra:=qHe p
   have tl0:=qx p.1
   have nb:∀k:Nat,(!(qFA p).2.2.1)=true:=fun _=>by show (!p.2.1)=true;rw [hb];rfl
   cases hi:(qBA p).1 with
   |some y=>
    have hxy:=hx y hi
    subst hxy
    obtain ⟨n3,h3⟩:=qML x (qBA p).2 ga.1.n
    have eo:qD4 (qBA p) (fun p=>pP f (.bin 1 (deep+1)) p)=qC7 x (qBA p).2:=by unfold qD4;rw [hi]
    rw [eo]
    have gq:Gd (qC7 x (qBA p).2).2∧(qC7 x (qBA p).2).2.1.length≤p.1.length∧(tb (qC7 x (qBA p).2).2.1).length≤(tb p.1).length:=⟨qGI ga.1 (ga.2.2 x hi),by rw [qAv];exact ga.2.1,by rw [qAv];exact ra⟩
    have n2:=0
    generalize qC7 x (qBA p).2=Q at h3 gq⊢
    obtain ⟨n4,h4⟩:=qFY [44] Q.2
    cases hc:(qW [44] Q.2).1 with
    |true=>
     obtain ⟨ks,p',e1,e2,e3,n6,h6⟩:=qEo f (.args op deep (kids++ [Q.1])) (qW [44] Q.2).2 (by have:=qDK (by simp) hc;show 20*(tb (qW [44] Q.2).2.1).length+8≤f;have:=qx (qW [44] Q.2).2.1;omega) ⟨hj.1,hj.2⟩ (qCW gq.1) (by have:=qDK (by simp) hc;have:=qx Q.2.1;show (kids++ [Q.1]).length+_≤_;simp;omega)
     refine ⟨ks,p',by rw [if_pos rfl];exact e1,e2,e3,n1+n2+n3+n4+n6+1,fun k hn M hM=>?_⟩
     obtain ⟨M,rfl,hM⟩:=up1 hM
     rw [qX (v':=(op,deep,(kids++ [Q.1]).length,(kids++ [Q.1]).map qA3,qFA (qW [44] Q.2).2)) (by
      have h1:=h1 k (by omega)
      rw [hi] at h1
      refine qD (nb 0) (qA h1 (qD rfl (qA (h3 k (by omega)) (qD rfl (qD (decide_eq_true ⟨by simp,by decide,by decide,by simp;omega,rfl⟩) (qA (h4 k (by omega)) ?_))))))
      refine qO (by simp only;rw [hc];rfl) ?_
      rw [qC]
      simp only [List.length_append,List.map_append]
      rfl)]
     exact h6 k (by omega) M (by omega)
    |false=>
     obtain ⟨n5,h5⟩:=qFY [41] (qW [44] Q.2).2
     refine ⟨kids++ [Q.1],qCB [41] (qW [44] Q.2).2,by rw [if_neg (by simp)],(qJZ (qCW gq.1)).1,by simp;omega,n1+n2+n3+n4+n5+1,fun k hn M hM=>?_⟩
     obtain ⟨M,rfl,hM⟩:=up1 hM
     cases hbb:(qW [44] Q.2).2.2.1 with
     |true=>
      rw [qP (r:=(op,(kids++ [Q.1]).length,(kids++ [Q.1]).map qA3,qFA (qCB [41] (qW [44] Q.2).2))) (by
       have h1:=h1 k (by omega)
       rw [hi] at h1
       refine qD (nb 0) (qA h1 (qD rfl (qA (h3 k (by omega)) (qD rfl (qD (decide_eq_true ⟨by simp,by decide,by decide,by simp;omega,rfl⟩) (qA (h4 k (by omega)) ?_))))))
       refine qD (by simp only;rw [hc];rfl) (qD hbb ?_)
       rw [qC]
       unfold qCB
       rw [if_pos hbb]
       simp only [List.length_append,List.map_append,qFA,hbb]
       rfl)]
     |false=>
      rw [qP (r:=(op,(kids++ [Q.1]).length,(kids++ [Q.1]).map qA3,qFA (qCB [41] (qW [44] Q.2).2))) (by
       have h1:=h1 k (by omega)
       rw [hi] at h1
       refine qD (nb 0) (qA h1 (qD rfl (qA (h3 k (by omega)) (qD rfl (qD (decide_eq_true ⟨by simp,by decide,by decide,by simp;omega,rfl⟩) (qA (h4 k (by omega)) ?_))))))
       refine qD (by simp only;rw [hc];rfl) (qO hbb (qA (h5 k (by omega)) ?_))
       rw [qC]
       simp only [List.length_append,List.map_append]
       exact congrArg (fun x=>some (Sum.inr (op,kids.length+1,kids.map qA3++ [[PV.i IntKind.i64 Q.1]],x))) (qLQ [41] hbb))]
   |none=>
    have eo:qD4 (qBA p) (fun p=>pP f (.bin 1 (deep+1)) p)=pP f (.bin 1 (deep+1)) (qBA p).2:=by unfold qD4;rw [hi]
    rw [eo]
    obtain ⟨n3,h3⟩:=qEo f (.bin 1 (deep+1)) (qBA p).2 (by show 20*_+6≤f;omega) (by show 0≤deep+1∧deep+1≤401;omega) ga.1 trivial
    have g3:=qEY f (.bin 1 (deep+1)) (qBA p).2 ga.1 trivial
    have l3:=qDL f (.bin 1 (deep+1)) (qBA p).2
    have w1:IntKind.i64.wrap (deep+1)=deep+1:=qa (by omega)
    have gq:Gd (pP f (.bin 1 (deep+1)) (qBA p).2).2∧(pP f (.bin 1 (deep+1)) (qBA p).2).2.1.length≤p.1.length∧(tb (pP f (.bin 1 (deep+1)) (qBA p).2).2.1).length≤(tb p.1).length:=⟨g3.1,Nat.le_trans g3.2 ga.2.1,Nat.le_trans l3 ra⟩
    rw [←w1] at h3
    have n2:=0
    rw [w1] at h3
    generalize pP f (.bin 1 (deep+1)) (qBA p).2=Q at h3 gq⊢
    obtain ⟨n4,h4⟩:=qFY [44] Q.2
    cases hc:(qW [44] Q.2).1 with
    |true=>
     obtain ⟨ks,p',e1,e2,e3,n6,h6⟩:=qEo f (.args op deep (kids++ [Q.1])) (qW [44] Q.2).2 (by have:=qDK (by simp) hc;show 20*(tb (qW [44] Q.2).2.1).length+8≤f;have:=qx (qW [44] Q.2).2.1;omega) ⟨hj.1,hj.2⟩ (qCW gq.1) (by have:=qDK (by simp) hc;have:=qx Q.2.1;show (kids++ [Q.1]).length+_≤_;simp;omega)
     refine ⟨ks,p',by rw [if_pos rfl];exact e1,e2,e3,n1+n2+n3+n4+n6+1,fun k hn M hM=>?_⟩
     obtain ⟨M,rfl,hM⟩:=up1 hM
     rw [qX (v':=(op,deep,(kids++ [Q.1]).length,(kids++ [Q.1]).map qA3,qFA (qW [44] Q.2).2)) (by
      have h1:=h1 k (by omega)
      rw [hi] at h1
      have h3:=h3 k (by omega)
      rw [←w1] at h3
      refine qD (nb 0) (qA h1 (qO rfl (qA h3 (qD rfl (qD (decide_eq_true ⟨by simp,by decide,by decide,by simp;omega,rfl⟩) (qA (h4 k (by omega)) ?_))))))
      refine qO (by simp only;rw [hc];rfl) ?_
      rw [qC]
      simp only [List.length_append,List.map_append]
      rfl)]
     exact h6 k (by omega) M (by omega)
    |false=>
     obtain ⟨n5,h5⟩:=qFY [41] (qW [44] Q.2).2
     refine ⟨kids++ [Q.1],qCB [41] (qW [44] Q.2).2,by rw [if_neg (by simp)],(qJZ (qCW gq.1)).1,by simp;omega,n1+n2+n3+n4+n5+1,fun k hn M hM=>?_⟩
     obtain ⟨M,rfl,hM⟩:=up1 hM
     cases hbb:(qW [44] Q.2).2.2.1 with
     |true=>
      rw [qP (r:=(op,(kids++ [Q.1]).length,(kids++ [Q.1]).map qA3,qFA (qCB [41] (qW [44] Q.2).2))) (by
       have h1:=h1 k (by omega)
       rw [hi] at h1
       have h3:=h3 k (by omega)
       rw [←w1] at h3
       refine qD (nb 0) (qA h1 (qO rfl (qA h3 (qD rfl (qD (decide_eq_true ⟨by simp,by decide,by decide,by simp;omega,rfl⟩) (qA (h4 k (by omega)) ?_))))))
       refine qD (by simp only;rw [hc];rfl) (qD hbb ?_)
       rw [qC]
       unfold qCB
       rw [if_pos hbb]
       simp only [List.length_append,List.map_append,qFA,hbb]
       rfl)]
     |false=>
      rw [qP (r:=(op,(kids++ [Q.1]).length,(kids++ [Q.1]).map qA3,qFA (qCB [41] (qW [44] Q.2).2))) (by
       have h1:=h1 k (by omega)
       rw [hi] at h1
       have h3:=h3 k (by omega)
       rw [←w1] at h3
       refine qD (nb 0) (qA h1 (qO rfl (qA h3 (qD rfl (qD (decide_eq_true ⟨by simp,by decide,by decide,by simp;omega,rfl⟩) (qA (h4 k (by omega)) ?_))))))
       refine qD (by simp only;rw [hc];rfl) (qO hbb (qA (h5 k (by omega)) ?_))
       rw [qC]
       simp only [List.length_append,List.map_append]
       exact congrArg (fun x=>some (Sum.inr (op,kids.length+1,kids.map qA3++ [[PV.i IntKind.i64 Q.1]],x))) (qLQ [41] hbb))]
def pos (s r:List UInt8):Int:=((s.length-r.length:Nat):Int)
def qCd (s:List UInt8) (q:PS):ByteArray×Int×Bool×Nat×List (List PV):=(BR s,pos s q.1,q.2.1,q.2.2.length,q.2.2.map qb)
def qCI (s:List UInt8) (r:Int×PS):Int×ByteArray×Int×Bool×Nat×List (List PV):=(r.1,qCd s r.2)
theorem qQA {s r:List UInt8} (h:r<:+s):s.drop (s.length-r.length)=r:=by
 obtain ⟨t,rfl⟩:=h
 simp
theorem qQy (s r:List UInt8):(pos s r).toNat=s.length-r.length:=by unfold pos;simp
theorem qKE (s r:List UInt8):0≤pos s r:=by unfold pos;omega
theorem qC3 {s r:List UInt8} (h:r<:+s):r.length≤s.length:=h.length_le
theorem qJb {s r t:List UInt8} {k:Nat} (h:r<:+s) (e:t=r.drop k) (hk:k≤r.length):pos s r+(k:Int)=pos s t:=by
 subst e
 have:=qC3 h
 unfold pos
 simp only [List.length_drop]
 omega
theorem qLR {s r:List UInt8} (h:r<:+s):(BR s).toList[(pos s r).toNat]?=r.head?:=by
 rw [qAL,qQy,←List.head?_drop,qQA h]
theorem qQX {s r:List UInt8} (h:r<:+s):tb r<:+s:=(List.dropWhile_suffix _).trans h
theorem qOC {s t:List UInt8} {c:UInt8} (h:(c::t)<:+s):t<:+s:=(List.suffix_cons c t).trans h
theorem qNJ {s r:List UInt8} {k:Nat} (h:r<:+s):(BR s).extract (pos s r).toNat (pos s r+(k:Int)).toNat=BR (r.take k):=by
 rw [qFK,qQy,show (pos s r+(k:Int)).toNat=(s.length-r.length)+k by unfold pos;omega,←List.take_drop,qQA h]
theorem qCu {b:Bool} (h:b=true):(!b)=false:=by rw [h];rfl
theorem qDU {b:Bool} (h:b=false):(!b)=true:=by rw [h];rfl
theorem qO8 {s:List UInt8} (hs:s.length≤1000) (n:Nat) (b:Bool) (m:Nat) (rows:List (List PV)):∀(r:List UInt8) (M:Nat),r<:+s→r.length+1≤M→zC (qDB n) M (BR s,pos s r,b,m,rows)=some (BR s,pos s (tb r),b,m,rows)
 |r,0,_,h=>by omega
 | [],M+1,h,_=>by
  exact qP (qO (decide_eq_false (show ¬pos s []<((BR s).size:Int) by rw [qc];unfold pos;simp)) rfl)
 |c::t,M+1,h,hM=>by
  have hl:=qC3 h
  simp only [List.length_cons] at hl hM
  have g:=qLR h
  have p1:pos s (c::t)<((BR s).size:Int):=by rw [qc];unfold pos;simp only [List.length_cons];omega
  by_cases hc:c=32
  ·subst hc
   have w1:IntKind.i64.wrap (pos s (32::t)+1)=pos s t:=by
    have:=qJb (k:=1) h (t:=t) rfl (by simp)
    rw [qa (by unfold pos;omega)];exact this
   rw [qX (v':=(BR s,pos s t,b,m,rows)) (by
    refine qD (decide_eq_true p1) (qD (decide_eq_true (qKE _ _)) (qA g (qD rfl ?_)))
    rw [qC,w1])]
   have e:tb (32::t)=tb t:=by simp [tb]
   rw [e]
   exact qO8 hs n b m rows t M (qOC h) (by omega)
  ·have e:tb (c::t)=c::t:=by simp [tb,hc]
   rw [e]
   refine qP (qD (decide_eq_true p1) (qD (decide_eq_true (qKE _ _)) (qA g (qO ?_ rfl))))
   rw [beq_eq_false_iff_ne]
   intro e
   exact hc (UInt8.toNat_inj.1 (show c.toNat=32 by omega))
theorem qPe {s:List UInt8} (hs:s.length≤1000) (q:PS) (h:q.1<:+s):Ev (qBa · (BR s) (pos s q.1) q.2.1 q.2.2.length (q.2.2.map qb)) (qCd s (tb q.1,q.2)):=by
 have hl:=qC3 h
 refine ⟨q.1.length+2,fun n hn=>?_⟩
 obtain ⟨k,rfl,hm⟩:=up1 hn
 exact qA (qO8 hs k q.2.1 q.2.2.length (q.2.2.map qb) q.1 k h (by omega)) rfl
theorem qGK {s:List UInt8} (hs:s.length≤1000) (w:List UInt8) (hw:w.length≤1000) (q:PS) (h:q.1<:+s):Ev (qAB · (BR w) (BR s) (pos s q.1) q.2.1 q.2.2.length (q.2.2.map qb)) ((sIs w q).1,qCd s (sIs w q).2):=by
 obtain ⟨n1,h1⟩:=qPe hs q h
 have ht:=qQX h
 have hl:=qC3 ht
 refine ⟨n1+1,fun n hn=>?_⟩
 obtain ⟨k,rfl,hm⟩:=up1 hn
 have w1:IntKind.i64.wrap (pos s (tb q.1)+((BR w).size:Int))=pos s (tb q.1)+(w.length:Int):=by rw [qc];exact qa (by unfold pos;omega)
 unfold sIs
 cases hb:q.2.1 with
 |true=>
  rw [if_pos rfl]
  have h1:=h1 k (by omega)
  rw [hb] at h1
  refine qA h1 (qD hb ?_)
  rw [qC]
 |false=>
  have h1:=h1 k (by omega)
  rw [hb] at h1
  rw [if_neg (by simp)]
  by_cases hf:pos s (tb q.1)+(w.length:Int)>(s.length:Int)
  ·have hn:¬w.isPrefixOf (tb q.1)=true:=by
    intro e
    have:=(List.isPrefixOf_iff_prefix.1 e).length_le
    unfold pos at hf
    omega
   rw [if_neg hn]
   refine qA h1 (qO hb (qD (decide_eq_true (show IntKind.i64.wrap (pos s (tb q.1)+((BR w).size:Int))>((BR s).size:Int) by rw [w1,qc];exact hf)) ?_))
   rw [qC]
  ·have hx:=qNJ (k:=w.length) ht
   have hwl:w.length≤(tb q.1).length:=by unfold pos at hf;omega
   have cmp:((BR s).extract (pos s (tb q.1)).toNat (IntKind.i64.wrap (pos s (tb q.1)+((BR w).size:Int))).toNat).toList==(BR w).toList↔w.isPrefixOf (tb q.1)=true:=by
    rw [w1,hx,qAL,qAL,beq_iff_eq,List.isPrefixOf_iff_prefix,List.prefix_iff_eq_take]
    exact ⟨fun e=>e.symm,fun e=>e.symm⟩
   refine qA h1 (qO hb (qO (decide_eq_false (show ¬IntKind.i64.wrap (pos s (tb q.1)+((BR w).size:Int))>((BR s).size:Int) by rw [w1,qc];exact hf)) (qD (decide_eq_true (show 0≤pos s (tb q.1)∧pos s (tb q.1)≤IntKind.i64.wrap (pos s (tb q.1)+((BR w).size:Int))∧IntKind.i64.wrap (pos s (tb q.1)+((BR w).size:Int))≤((BR s).size:Int) by rw [w1,qc];exact ⟨qKE _ _,by omega,by omega⟩)) ?_)))
   by_cases hp:w.isPrefixOf (tb q.1)=true
   ·rw [if_pos hp]
    refine qO (qCu (cmp.2 hp)) ?_
    rw [qC]
    show some (true,BR s,IntKind.i64.wrap (pos s (tb q.1)+((BR w).size:Int)),q.2.1,q.2.2.length,q.2.2.map qb)=_
    rw [w1,qJb ht rfl hwl]
    rfl
   ·rw [if_neg hp]
    refine qD (qDU (by rw [Bool.eq_false_iff];exact fun e=>hp (cmp.1 e))) ?_
    rw [qC]
theorem qJR {s:List UInt8} (x:Nd) (q:PS) (h:q.2.2.length≤5000) (hx:qOm x):Ev (qp · x.1 x.2.1 x.2.2.1 x.2.2.2.1 x.2.2.2.2.1 x.2.2.2.2.2.1 x.2.2.2.2.2.2.1 x.2.2.2.2.2.2.2.1 x.2.2.2.2.2.2.2.2.1 x.2.2.2.2.2.2.2.2.2.1 x.2.2.2.2.2.2.2.2.2.2.1 x.2.2.2.2.2.2.2.2.2.2.2.1 x.2.2.2.2.2.2.2.2.2.2.2.2.1 ((kd x).map qA3) (BR s) (pos s q.1) q.2.1 q.2.2.length (q.2.2.map qb)) (qCI s (qDk x q)):=by
 obtain ⟨n1,h1⟩:=qHb x (by have:=hx.2;omega)
 refine ⟨n1+1,fun n hn=>?_⟩
 obtain ⟨k,rfl,hm⟩:=up1 hn
 have w2:IntKind.i64.wrap ((((q.2.2.length+1):Nat):Int)-1)=(q.2.2.length:Int):=by rw [qa (by omega)];omega
 refine qD rfl (qD (decide_eq_true ⟨by simp,by decide,by decide,by simp;omega,rfl⟩) ?_)
 unfold qDk
 by_cases h6:60<q.2.2.length+1
 ·rw [if_pos (.inl h6)]
  refine qD (decide_eq_true (by omega)) ?_
  rw [qC,w2]
  simp only [qCI,qCd,List.map_append,List.length_append]
  rfl
 ·refine qO (decide_eq_false (by omega)) (qA (h1 k (by omega)) ?_)
  cases ho:qEX x with
  |true=>
   rw [if_neg (fun e=>e.elim h6 (by simp))]
   refine qO rfl ?_
   rw [qC,w2]
   simp only [qCI,qCd,List.map_append,List.length_append]
   rfl
  |false=>
   rw [if_pos (.inr rfl)]
   refine qD rfl ?_
   rw [qC,w2]
   simp only [qCI,qCd,List.map_append,List.length_append]
   rfl
theorem qMX {s:List UInt8} (hs:s.length≤1000) (n:Nat) (at0:Int) (b:Bool) (m:Nat) (rows:List (List PV)):∀(r:List UInt8) (M:Nat),r<:+s→r.length+1≤M→zC (qBu n) M (at0,BR s,pos s r,b,m,rows)=some (at0,BR s,pos s (wr r),b,m,rows)
 |r,0,_,h=>by omega
 | [],M+1,h,_=>by
  exact qP (qO (decide_eq_false (show ¬pos s []<((BR s).size:Int) by rw [qc];unfold pos;simp)) rfl)
 |c::t,M+1,h,hM=>by
  have hl:=qC3 h
  simp only [List.length_cons] at hl hM
  have g:=qLR h
  have p1:pos s (c::t)<((BR s).size:Int):=by rw [qc];unfold pos;simp only [List.length_cons];omega
  have p0:decide (0≤pos s (c::t))=true:=decide_eq_true (qKE _ _)
  have w1:IntKind.i64.wrap (pos s (c::t)+1)=pos s t:=by
   have:=qJb (k:=1) h (t:=t) rfl (by simp)
   rw [qa (by unfold pos;omega)];exact this
  have yes:(wch c=true)→(qBu n (at0,BR s,pos s (c::t),b,m,rows)).run=some (.inl (at0,BR s,pos s t,b,m,rows)):=fun hc=>by
   have fin:some (Sum.inl (at0,BR s,IntKind.i64.wrap (pos s (c::t)+1),b,m,rows))=(some (Sum.inl (at0,BR s,pos s t,b,m,rows)):Option (_⊕(Int×ByteArray×Int×Bool×Nat×List (List PV)))):=by rw [w1]
   refine qD (decide_eq_true p1) (qD p0 (qA g ?_))
   by_cases a1:(c.toNat:Int)≥65
   ·refine qD (decide_eq_true a1) (qD p0 (qA g ?_))
    by_cases a2:(c.toNat:Int)≤90
    ·exact qD (decide_eq_true a2) fin
    ·refine qO (decide_eq_false a2) (qD p0 (qA g ?_))
     by_cases a3:(c.toNat:Int)≥48
     ·refine qD (decide_eq_true a3) (qD p0 (qA g ?_))
      by_cases a4:(c.toNat:Int)≤57
      ·exact qD (decide_eq_true a4) fin
      ·refine qO (decide_eq_false a4) (qD p0 (qA g ?_))
       have a5:c=36:=by
        unfold wch at hc
        simp only [Bool.or_eq_true,Bool.and_eq_true,decide_eq_true_eq,beq_iff_eq] at hc
        rcases hc with hc|hc|hc
        ·omega
        ·omega
        ·exact hc
       exact qD (by rw [a5];rfl) fin
     ·omega
   ·refine qO (decide_eq_false a1) (qD p0 (qA g ?_))
    by_cases a3:(c.toNat:Int)≥48
    ·refine qD (decide_eq_true a3) (qD p0 (qA g ?_))
     by_cases a4:(c.toNat:Int)≤57
     ·exact qD (decide_eq_true a4) fin
     ·refine qO (decide_eq_false a4) (qD p0 (qA g ?_))
      have a5:c=36:=by
       unfold wch at hc
       simp only [Bool.or_eq_true,Bool.and_eq_true,decide_eq_true_eq,beq_iff_eq] at hc
       rcases hc with hc|hc|hc
       ·omega
       ·omega
       ·exact hc
      exact qD (by rw [a5];rfl) fin
    ·refine qO (decide_eq_false a3) (qD p0 (qA g ?_))
     have a5:c=36:=by
      unfold wch at hc
      simp only [Bool.or_eq_true,Bool.and_eq_true,decide_eq_true_eq,beq_iff_eq] at hc
      rcases hc with hc|hc|hc
      ·omega
      ·omega
      ·exact hc
     exact qD (by rw [a5];rfl) fin
  have no:(wch c=false)→(qBu n (at0,BR s,pos s (c::t),b,m,rows)).run=some (.inr (at0,BR s,pos s (c::t),b,m,rows)):=fun hc=>by
   have hc':¬((65≤c.toNat∧c.toNat≤90)∨(48≤c.toNat∧c.toNat≤57)∨c=36):=fun e=>by
    have:wch c=true:=by
     unfold wch
     simp only [Bool.or_eq_true,Bool.and_eq_true,decide_eq_true_eq,beq_iff_eq]
     exact e
    rw [hc] at this;cases this
   have a5:((c.toNat:Int)==36)=false:=by
    rw [beq_eq_false_iff_ne];intro e
    exact hc' (.inr (.inr (UInt8.toNat_inj.1 (show c.toNat=36 by omega))))
   refine qD (decide_eq_true p1) (qD p0 (qA g ?_))
   by_cases a1:(c.toNat:Int)≥65
   ·have a2:¬(c.toNat:Int)≤90:=fun e=>hc' (.inl ⟨by omega,by omega⟩)
    refine qD (decide_eq_true a1) (qD p0 (qA g (qO (decide_eq_false a2) ?_)))
    refine qD p0 (qA g (qD (decide_eq_true (show (c.toNat:Int)≥48 by omega)) ?_))
    exact qD p0 (qA g (qO (decide_eq_false (show ¬(c.toNat:Int)≤57 by omega)) (qD p0 (qA g (qO a5 rfl)))))
   ·refine qO (decide_eq_false a1) (qD p0 (qA g ?_))
    by_cases a3:(c.toNat:Int)≥48
    ·have a4:¬(c.toNat:Int)≤57:=fun e=>hc' (.inr (.inl ⟨by omega,by omega⟩))
     exact qD (decide_eq_true a3) (qD p0 (qA g (qO (decide_eq_false a4) (qD p0 (qA g (qO a5 rfl))))))
    ·exact qO (decide_eq_false a3) (qD p0 (qA g (qO a5 rfl)))
  cases hc:wch c with
  |true=>
   rw [qX (yes hc),show wr (c::t)=wr t by simp [wr,hc]]
   exact qMX hs n at0 b m rows t M (qOC h) (by omega)
  |false=>
   rw [qP (no hc),show wr (c::t)=c::t by simp [wr,hc]]
theorem qOD {s:List UInt8} (hs:s.length≤1000) (q:PS) (h:q.1<:+s):Ev (qCk · (BR s) (pos s q.1) q.2.1 q.2.2.length (q.2.2.map qb)) (BR (wd q.1),qCd s (wr q.1,q.2)):=by
 have hl:=qC3 h
 have hw:=qGH q.1
 have hd:=congrArg List.length (wdr q.1)
 simp only [List.length_append] at hd
 refine ⟨q.1.length+2,fun n hn=>?_⟩
 obtain ⟨k,rfl,hm⟩:=up1 hn
 refine qA (qMX hs k (pos s q.1) q.2.1 q.2.2.length (q.2.2.map qb) q.1 k h (by omega)) (qD (decide_eq_true ⟨qKE _ _,by unfold pos;simp only;omega,by rw [qc];unfold pos;simp only;omega⟩) ?_)
 rw [qC]
 have e:(pos s (wr q.1))=pos s q.1+((wd q.1).length:Int):=by unfold pos;omega
 have x:=qNJ (k:=(wd q.1).length) h
 rw [←e] at x
 have t:q.1.take (wd q.1).length=wd q.1:=by
  have:=List.take_left (l₁:=wd q.1) (l₂:=wr q.1)
  rwa [wdr] at this
 rw [t] at x
 show some ((BR s).extract (pos s q.1).toNat (pos s (wr q.1)).toNat,_)=_
 rw [x]
 rfl
theorem qGj {s:List UInt8} (hs:s.length≤1000) {n:Nat} (b:Bool) (l:List Nd) (res:Int×PS):∀(k:Nat) (r acc:List UInt8) (M:Nat),r.length≤k→r<:+s→acc.length+r.length≤1001→r.length+1≤M→
  (∀w t,qBy acc r=some (w,t)→qp n 1 0 2 0 (BR w) 0 0 false false 0 0 false false [] (BR s) (pos s t) b l.length (l.map qb)=some (qCI s res))→
  zC (qDX n) M (BR acc,BR s,pos s r,b,l.length,l.map qb)=some (match qBy acc r with
   |none=> .inr (BR s,pos s [],b,l.length,l.map qb)
   |some _=> .inl (qCI s res))
 |k,r,acc,0,_,_,_,h,_=>by omega
 |k,[],acc,M+1,_,h,_,_,_=>by
  exact qP (qO (decide_eq_false (show ¬pos s []<((BR s).size:Int) by rw [qc];unfold pos;simp)) rfl)
 |0,c::t,acc,M+1,hk,_,_,_,_=>by simp at hk
 |k+1,c::t,acc,M+1,hk,h,ha,hM,hr=>by
  have hl:=qC3 h
  simp only [List.length_cons] at hl hM hk ha
  have g:=qLR h
  have p1:pos s (c::t)<((BR s).size:Int):=by rw [qc];unfold pos;simp only [List.length_cons];omega
  have p0:decide (0≤pos s (c::t))=true:=decide_eq_true (qKE _ _)
  have pa:=qJb (k:=1) h (t:=t) rfl (by simp)
  have w1:IntKind.i64.wrap (pos s (c::t)+1)=pos s t:=by rw [qa (by unfold pos;omega)];exact pa
  by_cases hc:c=34
  ·subst hc
   have ht:=qOC h
   by_cases hq:t.head?=some 34
   ·obtain ⟨u,rfl⟩:=qJa hq
    simp only [List.length_cons] at hl hM hk ha
    rw [qSM] at hr⊢
    have g2:=qLR ht
    have pb:=qJb (k:=1) ht (t:=u) rfl (by simp)
    have w2:IntKind.i64.wrap (pos s (34::u)+1)=pos s u:=by rw [qa (by unfold pos;omega)];exact pb
    rw [qX (v':=(BR (acc++ [34]),BR s,pos s u,b,l.length,l.map qb)) (by
     refine qD (decide_eq_true p1) (qD p0 (qA g (qO rfl (qO (decide_eq_false (show ¬IntKind.i64.wrap (pos s (34::34::u)+1)≥((BR s).size:Int) by rw [w1,qc];unfold pos;simp only [List.length_cons];omega)) (qD (decide_eq_true (show 0≤IntKind.i64.wrap (pos s (34::34::u)+1) by rw [w1];exact qKE _ _)) (qA (x:=34) (by show (BR s).toList[(IntKind.i64.wrap (pos s (34::34::u)+1)).toNat]?=_;rw [w1];exact g2) (qO rfl (qD (decide_eq_true (show (BR acc).size+1≤9223372036854775807 by rw [qc];omega)) ?_))))))))
     rw [qC]
     show some (Sum.inl (BR acc++BR [34],BR s,IntKind.i64.wrap (IntKind.i64.wrap (pos s (34::34::u)+1)+1),b,l.length,l.map qb))=_
     rw [w1,w2,qMJ])]
    exact qGj hs b l res k u _ M (by omega) (qOC ht) (by simp;omega) (by omega) hr
   ·rw [qSN acc t hq] at hr⊢
    have hr:=hr acc t rfl
    refine qP (qD (decide_eq_true p1) (qD p0 (qA g (qO rfl ?_))))
    cases t with
    |nil=>
     refine qD (decide_eq_true (show IntKind.i64.wrap (pos s [34]+1)≥((BR s).size:Int) by rw [w1,qc];unfold pos;simp)) ?_
     rw [←w1] at hr
     exact qA hr rfl
    |cons d u=>
     have g2:=qLR ht
     have hd:¬d=34:=fun e=>hq (by rw [e];rfl)
     refine qO (decide_eq_false (show ¬IntKind.i64.wrap (pos s (34::d::u)+1)≥((BR s).size:Int) by rw [w1,qc];unfold pos;simp only [List.length_cons] at hl⊢;omega)) (qD (decide_eq_true (show 0≤IntKind.i64.wrap (pos s (34::d::u)+1) by rw [w1];exact qKE _ _)) (qA (x:=d) (by show (BR s).toList[(IntKind.i64.wrap (pos s (34::d::u)+1)).toNat]?=_;rw [w1];exact g2) (qD ?_ ?_)))
     ·rw [bne_iff_ne]
      intro e
      exact hd (UInt8.toNat_inj.1 (show d.toNat=34 by omega))
     ·rw [←w1] at hr
      exact qA hr rfl
  ·rw [qSO acc t hc] at hr⊢
   have hx:=qNJ (k:=1) h
   rw [show ((1:Nat):Int)=1 from rfl] at hx pa
   have hx:(BR s).extract (pos s (c::t)).toNat (IntKind.i64.wrap (pos s (c::t)+1)).toNat=BR [c]:=by
    rw [w1,←pa];exact hx
   rw [qX (v':=(BR (acc++ [c]),BR s,pos s t,b,l.length,l.map qb)) (by
    refine qD (decide_eq_true p1) (qD p0 (qA g (qD ?_ (qD (decide_eq_true (show 0≤pos s (c::t)∧pos s (c::t)≤IntKind.i64.wrap (pos s (c::t)+1)∧IntKind.i64.wrap (pos s (c::t)+1)≤((BR s).size:Int) by rw [w1,qc];exact ⟨qKE _ _,by unfold pos;simp only [List.length_cons];omega,by unfold pos;omega⟩)) (qD (decide_eq_true (show (BR acc).size+((BR s).extract (pos s (c::t)).toNat (IntKind.i64.wrap (pos s (c::t)+1)).toNat).size≤9223372036854775807 by rw [hx,qc,qc];simp;omega)) ?_)))))
    ·rw [bne_iff_ne]
     intro e
     exact hc (UInt8.toNat_inj.1 (show c.toNat=34 by omega))
    ·rw [qC]
     show some (Sum.inl (BR acc++(BR s).extract (pos s (c::t)).toNat (IntKind.i64.wrap (pos s (c::t)+1)).toNat,BR s,IntKind.i64.wrap (pos s (c::t)+1),b,l.length,l.map qb))=_
     rw [hx,qMJ,w1])]
   exact qGj hs b l res k t _ M (by omega) (qOC h) (by simp;omega) (by omega) hr
theorem qRe {s:List UInt8} (hs:s.length≤1000) (q:PS) (h:q.1<:+s) (hn:q.2.2.length≤5000):Ev (qEb · (BR s) (pos s q.1) q.2.1 q.2.2.length (q.2.2.map qb)) (qCI s (match qBy [] q.1 with
  |none=>(0,[],true,q.2.2)
  |some (w,t)=>qDk (nd1 (2,0,BR w)) (t,q.2))):=by
 have hl:=qC3 h
 cases hq:qBy [] q.1 with
 |none=>
  refine ⟨q.1.length+2,fun n hn=>?_⟩
  obtain ⟨k,rfl,hm⟩:=up1 hn
  have lp:=qGj hs (n:=k) q.2.1 q.2.2 (0,q) q.1.length q.1 [] k (Nat.le_refl _) h (by simp;omega) (by omega) (fun w t e=>by rw [hq] at e;cases e)
  rw [hq] at lp
  exact qA lp rfl
 |some wt=>
  obtain ⟨w,t⟩:=wt
  have hw:=qGJ _ _ _ (Nat.le_refl _) hq
  simp only [List.length_nil] at hw
  obtain ⟨n1,h1⟩:=qJR (s:=s) (nd1 (2,0,BR w)) (t,q.2) hn ⟨by simp [kd,nd1],by simp only [nd1,qc];omega⟩
  refine ⟨n1+q.1.length+2,fun n hn=>?_⟩
  obtain ⟨k,rfl,hm⟩:=up1 hn
  have lp:=qGj hs (n:=k) q.2.1 q.2.2 (qDk (nd1 (2,0,BR w)) (t,q.2)) q.1.length q.1 [] k (Nat.le_refl _) h (by simp;omega) (by omega) (fun w' t' e=>by rw [hq] at e;cases e;exact h1 k (by omega))
  rw [hq] at lp
  exact qA lp rfl
theorem qPf:∀o∈qB1,(qAK o).toList≠ []∧(qAK o).size≤2:=by decide+kernel
theorem qRf:∀o∈qB1,1≤o∧o≤11:=by decide
def opR:List (List PV):=qB1.map qA3
def rsL (level:Int) (r:List UInt8):List Int→List UInt8
 | []=>r
 |o::l=>if lvl o=level then rsL level (tb r) l else rsL level r l
theorem qMM {s:List UInt8} (hs:s.length≤1000) {n:Nat} (level:Int) (R:List UInt8) (hR:tb R=R) (m:Nat) (rows:List (List PV))
  (h1:∀o∈qB1,qB8 n o=some (lvl o)) (h2:∀o∈qB1,qCX n o=some (qAK o)):
  ∀(k i:Nat) (r:List UInt8) (M:Nat),i+k=11→k+1≤M→tb r=R→
  (∀r',tb r'=R→(r'=r∨r'=R)→∀o∈qB1,qAB n (qAK o) (BR s) (pos s r') false m rows=some (if (qAK o).toList.isPrefixOf R=true then (true,BR s,pos s (R.drop (qAK o).size),false,m,rows) else (false,BR s,pos s R,false,m,rows)))→
  zC (qEC n) M (level,11,(i:Int),opR,BR s,pos s r,false,m,rows)=some (if qDS level R (qB1.drop i)=0 then .inr (BR s,pos s (rsL level r (qB1.drop i)),false,m,rows) else .inl (qDS level R (qB1.drop i),BR s,pos s (R.drop (qAK (qDS level R (qB1.drop i))).size),false,m,rows))
 |k,i,r,0,_,h,_,_=>by omega
 |0,i,r,M+1,hk,_,_,_=>by
  have hi:i=11:=by omega
  subst hi
  exact qP (qO rfl rfl)
 |k+1,i,r,M+1,hk,hM,hr,h3=>by
  have hi:i<qB1.length:=by simp [qB1];omega
  obtain ⟨o,ho⟩:∃o,qB1[i]?=some o:=⟨_,List.getElem?_eq_getElem hi⟩
  have hin:=List.mem_of_getElem? ho
  have hR2:opR[i]?=some [PV.i .i64 o]:=by simp [opR,List.getElem?_map,ho,qA3]
  have hc:zE .i64 [PV.i .i64 o] 0=some o:=rfl
  have hd:qB1.drop i=o::qB1.drop (i+1):=qEm ho
  have w5:IntKind.i64.wrap ((i:Int)+1)=((i+1:Nat):Int):=by rw [qa (by omega)];omega
  have g1:decide ((i:Int)<((11:Nat):Int))=true:=decide_eq_true (by omega)
  have g2:decide (11=opR.length∧0≤(i:Int)∧(i:Int)<((11:Nat):Int))=true:=decide_eq_true ⟨rfl,by omega,by omega⟩
  have h0:o≠0:=by have:=qRf o hin;omega
  rw [hd]
  by_cases hl:lvl o=level
  ·have is:=h3 r hr (.inl rfl) o hin
   by_cases hp:(qAK o).toList.isPrefixOf R=true
   ·have e:qDS level R (o::qB1.drop (i+1))=o:=by unfold qDS;rw [if_pos ⟨hl,hp⟩]
    rw [e,if_neg h0]
    rw [if_pos hp] at is
    exact qP (qD g1 (qD g2 (qA hR2 (qA hc (qA (h1 o hin) (qD (beq_iff_eq.2 hl) (qD g2 (qA hR2 (qA hc (qA (h2 o hin) (qA is (qD rfl (qD g2 (qA hR2 (qA hc rfl)))))))))))))))
   ·have e:qDS level R (o::qB1.drop (i+1))=qDS level R (qB1.drop (i+1)):=by
     conv=>lhs;unfold qDS
     rw [if_neg (fun h=>hp h.2)]
    have e2:rsL level r (o::qB1.drop (i+1))=rsL level R (qB1.drop (i+1)):=by
     conv=>lhs;unfold rsL
     rw [if_pos hl,hr]
    rw [e,e2]
    rw [if_neg hp] at is
    rw [qX (v':=(level,11,((i+1:Nat):Int),opR,BR s,pos s R,false,m,rows)) (by
     refine qD g1 (qD g2 (qA hR2 (qA hc (qA (h1 o hin) (qD (beq_iff_eq.2 hl) (qD g2 (qA hR2 (qA hc (qA (h2 o hin) (qA is (qO rfl ?_)))))))))))
     rw [qC,w5])]
    exact qMM hs level R hR m rows h1 h2 k (i+1) R M (by omega) (by omega) hR (fun r' a b=>h3 r' a (.inr (b.elim id id)))
  ·have e:qDS level R (o::qB1.drop (i+1))=qDS level R (qB1.drop (i+1)):=by
    conv=>lhs;unfold qDS
    rw [if_neg (fun h=>hl h.1)]
   have e2:rsL level r (o::qB1.drop (i+1))=rsL level r (qB1.drop (i+1)):=by
    conv=>lhs;unfold rsL
    rw [if_neg hl]
   rw [e,e2]
   rw [qX (v':=(level,11,((i+1:Nat):Int),opR,BR s,pos s r,false,m,rows)) (by
    refine qD g1 (qD g2 (qA hR2 (qA hc (qA (h1 o hin) (qO (beq_eq_false_iff_ne.2 hl) ?_)))))
    rw [qC,w5])]
   exact qMM hs level R hR m rows h1 h2 k (i+1) r M (by omega) (by omega) hr h3
theorem qSU {level:Int} (h:1≤level∧level≤4) (r:List UInt8):rsL level r qB1=tb r:=by
 have c:level=1∨level=2∨level=3∨level=4:=by omega
 rcases c with rfl|rfl|rfl|rfl<;>simp [rsL,qB1,lvl,qCH]
theorem qSV {s:List UInt8} (hs:s.length≤1000) {level:Int} (hl:1≤level∧level≤4) (q:PS) (hb:q.2.1=false) (h:q.1<:+s):Ev (qED · level (BR s) (pos s q.1) q.2.1 q.2.2.length (q.2.2.map qb)) (qCI s (sOp level q)):=by
 obtain ⟨n1,h1⟩:=qBI (F:=fun o n=>qB8 n o) (f:=lvl) qB1 (fun o _=>qIU o)
 obtain ⟨n2,h2⟩:=qBI (F:=fun o n=>qCX n o) (f:=qAK) qB1 (fun o ho=>qJL o (qRf o ho))
 obtain ⟨n3,h3⟩:=qBI (F:=fun o n=>qAB n (qAK o) (BR s) (pos s q.1) q.2.1 q.2.2.length (q.2.2.map qb)) (f:=fun o=>((sIs (qAK o).toList q).1,qCd s (sIs (qAK o).toList q).2)) qB1 (fun o ho=>by
  have:=qGK hs (qAK o).toList (by rw [qAQ];have:=(qPf o ho).2;omega) q h
  rwa [qIW] at this)
 obtain ⟨n4,h4⟩:=qBI (F:=fun o n=>qAB n (qAK o) (BR s) (pos s (tb q.1)) q.2.1 q.2.2.length (q.2.2.map qb)) (f:=fun o=>((sIs (qAK o).toList (tb q.1,q.2)).1,qCd s (sIs (qAK o).toList (tb q.1,q.2)).2)) qB1 (fun o ho=>by
  have:=qGK hs (qAK o).toList (by rw [qAQ];have:=(qPf o ho).2;omega) (tb q.1,q.2) (qQX h)
  rwa [qIW] at this)
 refine ⟨n1+n2+n3+n4+13,fun n hn=>?_⟩
 obtain ⟨k,rfl,hm⟩:=up1 hn
 have lp:=qMM hs (n:=k) level (tb q.1) (qCH q.1) q.2.2.length (q.2.2.map qb) (h1 k (by omega)) (h2 k (by omega)) 11 0 q.1 k (by omega) (by omega) rfl (fun r' _ hr' o ho=>by
  rcases hr' with rfl|rfl
  ·have:=h3 k (by omega) o ho
   rw [hb] at this
   refine this.trans ?_
   unfold sIs
   rw [if_neg (by rw [hb];simp)]
   by_cases hp:(qAK o).toList.isPrefixOf (tb q.1)=true
   ·rw [if_pos hp,if_pos hp,qAQ];simp only [qCd,hb]
   ·rw [if_neg hp,if_neg hp];simp only [qCd,hb]
  ·have:=h4 k (by omega) o ho
   rw [hb] at this
   refine this.trans ?_
   unfold sIs
   rw [if_neg (by rw [hb];simp)]
   simp only [qCH]
   by_cases hp:(qAK o).toList.isPrefixOf (tb q.1)=true
   ·rw [if_pos hp,if_pos hp,qAQ];simp only [qCd,hb]
   ·rw [if_neg hp,if_neg hp];simp only [qCd,hb])
 rw [List.drop_zero,qSU hl] at lp
 unfold sOp
 rw [if_neg (by rw [hb];simp)]
 show qED (k+1) level (BR s) (pos s q.1) q.2.1 q.2.2.length (q.2.2.map qb)=_
 rw [hb]
 by_cases h0:qDS level (tb q.1) qB1=0
 ·rw [if_pos h0] at lp
  rw [if_pos h0]
  refine qA lp ?_
  simp only [qCI,qCd,hb,h0]
  rfl
 ·rw [if_neg h0] at lp
  rw [if_neg h0]
  refine qA lp ?_
  simp only [qCI,qCd,hb]
  rfl
theorem qOE {s:List UInt8} (hs:s.length≤1000) {n:Nat} (r:List UInt8) (hr:r<:+s) (b:Bool) (l:List Nd)
  (h1:∀i,1≤i∧i≤5→qBK n i=some (qf i)) (h2:∀i,1≤i∧i≤5→qCj n i=some (4,i,em))
  (h4:∀i,1≤i∧i≤5→qp n 1 0 4 i em 0 0 false false 0 0 false false [] (BR s) (pos s (r.drop ((qf i).size-1))) b l.length (l.map qb)=some (qCI s (qDk (nd1 (4,i,em)) (r.drop ((qf i).size-1),b,l)))):
  ∀(k:Nat) (i:Int) (M:Nat),1≤i→i+k=6→k+1≤M→zC (qCM n) M (i,BR s,pos s r,b,l.length,l.map qb)=some (match qPz r i k with
   |some e=> .inl (qCI s (qDk (nd1 (4,e,em)) (r.drop ((qf e).size-1),b,l)))
   |none=> .inr (BR s,pos s r,b,l.length,l.map qb))
 |k,i,0,_,_,h=>by omega
 |0,i,M+1,hi,hk,h=>by
  exact qP (qO (decide_eq_false (show ¬i≤5 by omega)) rfl)
 |k+1,i,M+1,hi,hk,h=>by
  have hi5:1≤i∧i≤5:=⟨hi,by omega⟩
  have hsz:1≤(qf i).size∧(qf i).size≤7:=by
   have c:i=1∨i=2∨i=3∨i=4∨i=5:=by omega
   rcases c with rfl|rfl|rfl|rfl|rfl<;>decide+kernel
  have hx:(qf i).extract ((1:Int)).toNat (((qf i).size:Nat):Int).toNat=BR (qf i).toList.tail:=by
   conv=>lhs;rw [←qIW (qf i)]
   rw [qFK,qc,qAQ]
   congr 1
   rw [Int.toNat_natCast,List.take_of_length_le (by rw [qAQ];omega)]
   exact List.drop_one
  have hxs:((qf i).extract ((1:Int)).toNat (((qf i).size:Nat):Int).toNat).size=(qf i).size-1:=by
   rw [hx,qc,List.length_tail,qAQ]
  have hl:=qC3 hr
  have w1:IntKind.i64.wrap (pos s r+(((qf i).extract ((1:Int)).toNat (((qf i).size:Nat):Int).toNat).size:Int))=pos s r+(((qf i).size-1:Nat):Int):=by
   rw [hxs];exact qa (by unfold pos;omega)
  have w2:IntKind.i64.wrap (i+1)=i+1:=qa (by omega)
  have ih:=qOE hs r hr b l h1 h2 h4 k (i+1) M (by omega) (by omega) (by omega)
  unfold qPz
  by_cases hf:pos s r+(((qf i).size-1:Nat):Int)≤(s.length:Int)
  ·have hk2:(qf i).size-1≤r.length:=by unfold pos at hf;omega
   have cmp:(((BR s).extract (pos s r).toNat (IntKind.i64.wrap (pos s r+(((qf i).extract ((1:Int)).toNat (((qf i).size:Nat):Int).toNat).size:Int))).toNat).toList==((qf i).extract ((1:Int)).toNat (((qf i).size:Nat):Int).toNat).toList)=true↔(qf i).toList.tail.isPrefixOf r=true:=by
    rw [w1,qNJ hr,hx,qAL,qAL,beq_iff_eq,List.isPrefixOf_iff_prefix,List.prefix_iff_eq_take,List.length_tail,qAQ]
    exact ⟨fun e=>e.symm,fun e=>e.symm⟩
   have g1:decide (IntKind.i64.wrap (pos s r+(((qf i).extract ((1:Int)).toNat (((qf i).size:Nat):Int).toNat).size:Int))≤((BR s).size:Int))=true:=decide_eq_true (by rw [w1,qc];exact hf)
   have g2:decide (0≤pos s r∧pos s r≤IntKind.i64.wrap (pos s r+(((qf i).extract ((1:Int)).toNat (((qf i).size:Nat):Int).toNat).size:Int))∧IntKind.i64.wrap (pos s r+(((qf i).extract ((1:Int)).toNat (((qf i).size:Nat):Int).toNat).size:Int))≤((BR s).size:Int))=true:=decide_eq_true (by rw [w1,qc];exact ⟨qKE _ _,by omega,hf⟩)
   by_cases hp:(qf i).toList.tail.isPrefixOf r=true
   ·rw [if_pos hp]
    have h4:=h4 i hi5
    rw [←qJb hr rfl hk2,←w1] at h4
    exact qP (qD (decide_eq_true (show i≤5 by omega)) (qA (h1 i hi5) (qD (decide_eq_true ⟨by decide,by omega,Int.le_refl _⟩) (qD g1 (qD g2 (qD (cmp.2 hp) (qA (h2 i hi5) (qA h4 rfl))))))))
   ·rw [if_neg hp]
    rw [qX (v':=(i+1,BR s,pos s r,b,l.length,l.map qb)) (by
     refine qD (decide_eq_true (show i≤5 by omega)) (qA (h1 i hi5) (qD (decide_eq_true ⟨by decide,by omega,Int.le_refl _⟩) (qD g1 (qD g2 (qO (by rw [Bool.eq_false_iff];exact fun e=>hp (cmp.1 e)) ?_)))))
     rw [qC,w2])]
    exact ih
  ·have hp:¬(qf i).toList.tail.isPrefixOf r=true:=by
    intro e
    have:=(List.isPrefixOf_iff_prefix.1 e).length_le
    rw [List.length_tail,qAQ] at this
    unfold pos at hf
    omega
   rw [if_neg hp]
   rw [qX (v':=(i+1,BR s,pos s r,b,l.length,l.map qb)) (by
    refine qD (decide_eq_true (show i≤5 by omega)) (qA (h1 i hi5) (qD (decide_eq_true ⟨by decide,by omega,Int.le_refl _⟩) (qO (decide_eq_false (by rw [w1,qc];exact hf)) ?_)))
    rw [qC,w2])]
   exact ih
theorem qR9 {s:List UInt8} (hs:s.length≤1000) (r:List UInt8) (hr:r<:+s) (b:Bool) (l:List Nd) (hl:l.length≤5000):∃n0,∀n,n0≤n→∀M,n0≤M→zC (qCM n) M (1,BR s,pos s r,b,l.length,l.map qb)=some (match qPz r 1 5 with
   |some e=> .inl (qCI s (qDk (nd1 (4,e,em)) (r.drop ((qf e).size-1),b,l)))
   |none=> .inr (BR s,pos s r,b,l.length,l.map qb)):=by
 obtain ⟨n1,h1⟩:=qFV (F:=qBK) (f:=qf) (lo:=1) (by decide) (fun i hi=>qGD i ⟨by omega,hi.2⟩)
 obtain ⟨n2,h2⟩:=qFV (F:=qCj) (f:=fun i=>(4,i,em)) (lo:=1) (by decide) (fun i _=>qM7 i)
 obtain ⟨n4,h4⟩:=qFV (F:=fun n i=>qp n 1 0 4 i em 0 0 false false 0 0 false false [] (BR s) (pos s (r.drop ((qf i).size-1))) b l.length (l.map qb)) (f:=fun i=>qCI s (qDk (nd1 (4,i,em)) (r.drop ((qf i).size-1),b,l))) (lo:=1) (by decide) (fun i _=>qJR (s:=s) (nd1 (4,i,em)) (r.drop ((qf i).size-1),b,l) hl ⟨by simp [kd,nd1],by simp [nd1,em];decide⟩)
 exact ⟨n1+n2+n4+7,fun n hn M hM=>qOE hs r hr b l (h1 n (by omega)) (h2 n (by omega)) (h4 n (by omega)) 5 1 M (by omega) (by omega) (by omega)⟩
theorem qSA:∃n0,∀n,n0≤n→∀i,1≤i∧i≤10→qCK n i=some (fnS i):=by
 obtain ⟨n1,h1⟩:=qBI (F:=fun (i:Nat) n=>qCK n ((i:Int)+1)) (f:=fun i=>fnS ((i:Int)+1)) (List.range 10) (fun i hi=>qLJ _ (by have:=List.mem_range.1 hi;omega))
 refine ⟨n1,fun n hn i hi=>?_⟩
 have:=h1 n hn (i-1).toNat (List.mem_range.2 (by omega))
 rwa [show (((i-1).toNat:Nat):Int)+1=i by omega] at this
theorem qSW {i j:Int} (hi:1≤i∧i≤10) (hj:1≤j∧j≤10) (h:(fnS i).toList=(fnS j).toList):i=j:=by
 have t:∀a:Fin 10,∀b:Fin 10,(fnS (((a.val:Nat):Int)+1)).toList=(fnS (((b.val:Nat):Int)+1)).toList→a=b:=by decide+kernel
 have:=t ⟨(i-1).toNat,by omega⟩ ⟨(j-1).toNat,by omega⟩ (by
  simp only
  rw [show (((i-1).toNat:Nat):Int)+1=i by omega,show (((j-1).toNat:Nat):Int)+1=j by omega]
  exact h)
 have:=congrArg Fin.val this
 simp only at this
 omega
theorem qO9 {g:G_spec_l3Rd_row} {n:Nat} {s:List UInt8} (w:List UInt8) (q:PS) (h1:∀i,1≤i∧i≤10→qCK n i=some (fnS i)):
  ∀(k:Nat) (i:Int) (M:Nat),1≤i→i+k=11→k+1≤M→(∀j,i≤j∧j≤10→(fnS j).toList≠w)→zC (qCw g n) M (BR w,i,qCd s q)=some (.inr (BR w,qCd s q))
 |k,i,0,_,_,h,_=>by omega
 |0,i,M+1,hi,hk,h,_=>qP (qO (decide_eq_false (show ¬i≤10 by omega)) rfl)
 |k+1,i,M+1,hi,hk,h,hn=>by
  have w1:IntKind.i64.wrap (i+1)=i+1:=qa (by omega)
  rw [qX (v':=(BR w,i+1,qCd s q)) (by
   refine qD (decide_eq_true (show i≤10 by omega)) (qA (h1 i ⟨hi,by omega⟩) (qO (by rw [beq_eq_false_iff_ne];show (fnS i).toList≠(BR w).toList;rw [qAL];exact hn i ⟨Int.le_refl _,by omega⟩) ?_))
   rw [qC,w1])]
  exact qO9 w q h1 k (i+1) M (by omega) (by omega) (by omega) (fun j hj=>hn j ⟨by omega,hj.2⟩)
theorem qJc {g:G_spec_l3Rd_row} {n:Nat} {s:List UInt8} (w:List UInt8) (q:PS) (res:Int→Int×PS) (h1:∀i,1≤i∧i≤10→qCK n i=some (fnS i))
  (h2:qAB n ⟨#[40]⟩ (BR s) (pos s q.1) q.2.1 q.2.2.length (q.2.2.map qb)=some ((sIs [40] q).1,qCd s (sIs [40] q).2)):
  ∀(k:Nat) (i:Int) (M:Nat),1≤i→i+k=11→k+1≤M→(∀op,qFX w i k=some op→(sIs [40] q).1=true→g.spec_l3Rd_call op (BR s) (pos s (sIs [40] q).2.1) (sIs [40] q).2.2.1 (sIs [40] q).2.2.2.length ((sIs [40] q).2.2.2.map qb)=some (qCI s (res op)))→
   zC (qCw g n) M (BR w,i,qCd s q)=some (match qFX w i k with
   |some op=>if (sIs [40] q).1=true then .inl (qCI s (res op)) else .inr (BR w,qCd s (sIs [40] q).2)
   |none=> .inr (BR w,qCd s q))
 |k,i,0,_,_,h,_=>by omega
 |0,i,M+1,hi,hk,h,_=>qP (qO (decide_eq_false (show ¬i≤10 by omega)) rfl)
 |k+1,i,M+1,hi,hk,h,hc=>by
  have w1:IntKind.i64.wrap (i+1)=i+1:=qa (by omega)
  unfold qFX at hc⊢
  by_cases hq:(fnS i).toList=w
  ·rw [if_pos hq] at hc⊢
   have hqb:((fnS i).toList==(BR w).toList)=true:=by rw [beq_iff_eq,qAL];exact hq
   simp only
   cases hi2:(sIs [40] q).1 with
   |true=>
    rw [if_pos rfl]
    exact qP (qD (decide_eq_true (show i≤10 by omega)) (qA (h1 i ⟨hi,by omega⟩) (qD hqb (qA h2 (qD hi2 (qA (hc i rfl hi2) rfl))))))
   |false=>
    rw [if_neg (by simp)]
    rw [qX (v':=(BR w,i+1,qCd s (sIs [40] q).2)) (by
     refine qD (decide_eq_true (show i≤10 by omega)) (qA (h1 i ⟨hi,by omega⟩) (qD hqb (qA h2 (qO hi2 ?_))))
     rw [qC,w1])]
    exact qO9 w _ h1 k (i+1) M (by omega) (by omega) (by omega) (fun j hj e=>by
     have:=qSW (i:=i) (j:=j) ⟨hi,by omega⟩ ⟨by omega,hj.2⟩ (hq.trans e.symm)
     omega)
  ·rw [if_neg hq] at hc⊢
   rw [qX (v':=(BR w,i+1,qCd s q)) (by
    refine qD (decide_eq_true (show i≤10 by omega)) (qA (h1 i ⟨hi,by omega⟩) (qO (by rw [beq_eq_false_iff_ne];show (fnS i).toList≠(BR w).toList;rw [qAL];exact hq) ?_))
    rw [qC,w1])]
   exact qJc w q res h1 h2 k (i+1) M (by omega) (by omega) (by omega) hc
structure Go (k:Nat) (q q':PS):Prop where
 suf:q'.1<:+q.1
 sum:q'.2.2.length+q'.1.length+k≤q.2.2.length+q.1.length
 sm:(∀x∈q.2.2,qOm x)→∀x∈q'.2.2,qOm x
theorem Go.refl (q:PS):Go 0 q q:=⟨List.suffix_rfl,Nat.le_refl _,id⟩
theorem Go.trans {a b:Nat} {p q r:PS} (h:Go a p q) (h':Go b q r):Go (a+b) p r:=⟨h'.suf.trans h.suf,by have:=h.sum;have:=h'.sum;omega,fun e=>h'.sm (h.sm e)⟩
theorem Go.tr0 {p q r:PS} (h:Go 0 p q) (h':Go 0 q r):Go 0 p r:=h.trans h'
theorem Go.add {p q:PS} {x:Nd} (h:Go 1 p q) (hx:qOm x):Go 0 p (qDk x q).2:=by
 refine ⟨h.suf,?_,fun e y hy=>?_⟩
 ·have:=h.sum
  simp only [qDk,List.length_append,List.length_singleton]
  omega
 ·simp only [qDk,List.mem_append,List.mem_singleton] at hy
  rcases hy with hy|rfl
  ·exact h.sm e y hy
  ·exact hx
theorem Go.weak {k:Nat} {p q:PS} (h:Go k p q):Go 0 p q:=⟨h.suf,by have:=h.sum;omega,h.sm⟩
theorem Go.of (q:PS) {r:List UInt8} (b:Bool) {k:Nat} (h:r<:+q.1) (hk:r.length+k≤q.1.length):Go k q (r,b,q.2.2):=⟨h,by simp only;omega,id⟩
theorem qLS (q:PS):Go 0 q (tb q.1,q.2):=⟨List.dropWhile_suffix _,by have:=qx q.1;simp only;omega,id⟩
theorem qPA (q:PS):Go 0 q (wr (tb q.1),q.2):=⟨(List.dropWhile_suffix _).trans (List.dropWhile_suffix _),by have:=qx q.1;have:=qGH (tb q.1);simp only;omega,id⟩
theorem qRg (q:PS) (h:wd (tb q.1)≠ []):Go 1 q (wr (tb q.1),q.2):=⟨(List.dropWhile_suffix _).trans (List.dropWhile_suffix _),by
 have:=qx q.1
 have e:=congrArg List.length (wdr (tb q.1))
 have:=List.length_pos_iff.2 h
 simp only [List.length_append] at e
 simp only;omega,id⟩
theorem qKF {w:List UInt8} {q:PS} (h:(sIs w q).1=true):w<+:tb q.1∧(sIs w q).2=((tb q.1).drop w.length,q.2)∧q.2.1=false:=by
 unfold sIs at h⊢
 split at h
 ·cases h
 ·rename_i hb
  rw [if_neg hb]
  split at h
  ·rename_i hp
   rw [if_pos hp]
   exact ⟨List.isPrefixOf_iff_prefix.1 hp,rfl,by rw [Bool.eq_false_iff];exact hb⟩
  ·cases h
theorem qPB {w:List UInt8} {q:PS} (h:(sIs w q).1=false):(sIs w q).2=(tb q.1,q.2):=by
 unfold sIs at h⊢
 split at h
 ·rename_i hb;rw [if_pos hb]
 ·rename_i hb
  rw [if_neg hb]
  split at h
  ·cases h
  ·rename_i hp;rw [if_neg hp]
theorem qJS (w:List UInt8) (q:PS):Go 0 q (sIs w q).2:=by
 cases h:(sIs w q).1 with
 |true=>
  obtain ⟨_,h2,_⟩:=qKF h
  rw [h2]
  exact Go.tr0 (qLS q) ⟨List.drop_suffix _ _,by simp,id⟩
 |false=>rw [qPB h];exact qLS q
theorem qEU {w:List UInt8} (hw:w≠ []) {q:PS} (h:(sIs w q).1=true):Go 1 q (sIs w q).2:=by
 obtain ⟨h1,h2,_⟩:=qKF h
 rw [h2]
 have l1:=h1.length_le
 have l2:=List.length_pos_iff.2 hw
 have:=qx q.1
 exact ⟨(List.drop_suffix _ _).trans (List.dropWhile_suffix _),by simp;omega,id⟩
theorem qOF {k:Nat} {p q:PS} (h:Go k p q):Go k p (qKl q):=⟨h.suf,h.sum,h.sm⟩
theorem qRh:∀(t r:List UInt8),(tb r).length≤(tb (t++r)).length
 | [],r=>Nat.le_refl _
 |c::t,r=>by
  have ih:=qRh t r
  have:=qx (t++r)
  by_cases hc:c=32
  ·rw [show tb (c::t++r)=tb (t++r) by simp [tb,hc]];exact ih
  ·rw [show tb (c::t++r)=c::(t++r) by simp [tb,hc]]
   simp only [List.length_cons];omega
theorem Go.tb {k:Nat} {p q:PS} (h:Go k p q):(tb q.1).length≤(tb p.1).length:=by
 obtain ⟨t,ht⟩:=h.suf
 rw [←ht];exact qRh t q.1
theorem qQz {w:List UInt8} (hw:w≠ []) {q:PS} (h:(sIs w q).1=true):(tb (sIs w q).2.1).length<(tb q.1).length:=by
 obtain ⟨h1,h2,_⟩:=qKF h
 rw [h2]
 exact qPd hw h1
theorem qQ0 (level:Int) (r:List UInt8):∀l:List Int,qDS level r l≠0→qDS level r l∈l∧(qAK (qDS level r l)).toList<+:r
 | [],h=>absurd rfl h
 |o::l,h=>by
  unfold qDS at h⊢
  split at h
  ·rename_i hc
   rw [if_pos hc]
   exact ⟨List.mem_cons_self ..,List.isPrefixOf_iff_prefix.1 hc.2⟩
  ·rename_i hc
   rw [if_neg hc]
   have:=qQ0 level r l h
   exact ⟨List.mem_cons_of_mem _ this.1,this.2⟩
theorem qSG (level:Int) (q:PS):Go 0 q (sOp level q).2∧((sOp level q).1≠0→Go 1 q (sOp level q).2∧(tb (sOp level q).2.1).length<(tb q.1).length):=by
 unfold sOp
 split
 ·exact ⟨qLS q,fun h=>absurd rfl h⟩
 ·simp only
  by_cases h:qDS level (tb q.1) qB1=0
  ·rw [if_pos h]
   exact ⟨qLS q,fun e=>absurd h e⟩
  ·rw [if_neg h]
   obtain ⟨h1,h2⟩:=qQ0 level (tb q.1) qB1 h
   have ne:=(qPf _ h1).1
   have l1:=h2.length_le
   have l2:=List.length_pos_iff.2 ne
   rw [qAQ] at l1 l2
   have l3:=qx q.1
   have g:Go 1 q ((tb q.1).drop (qAK (qDS level (tb q.1) qB1)).size,q.2):=⟨(List.drop_suffix _ _).trans (List.dropWhile_suffix _),by simp;omega,id⟩
   have t:=qPd ne h2
   rw [qAQ] at t
   exact ⟨g.weak,fun _=>⟨g,t⟩⟩
theorem qMN:∀(k:Nat) (acc r:List UInt8) {w t:List UInt8},r.length≤k→qBy acc r=some (w,t)→t<:+r
 |k,acc,[],w,t,hk,h=>by simp [qBy] at h
 |0,acc,c::r,w,t,hk,h=>by simp at hk
 |k+1,acc,c::r,w,t,hk,h=>by
  simp only [List.length_cons] at hk
  by_cases hc:c=34
  ·subst hc
   by_cases hq:r.head?=some 34
   ·obtain ⟨u,rfl⟩:=qJa hq
    rw [qSM] at h
    simp only [List.length_cons] at hk
    have:=qMN k _ u (by omega) h
    exact this.trans ((List.suffix_cons 34 u).trans (List.suffix_cons 34 _))
   ·rw [qSN acc r hq] at h
    cases h
    exact List.suffix_cons 34 _
  ·rw [qSO acc r hc] at h
   exact (qMN k _ r (by omega) h).trans (List.suffix_cons c _)
def Ks:SJ→PS→Prop
 | .call _ kids,q=>q.2.1=true∨kids.length+q.1.length≤1500
 |_,_=>True
theorem qH4 {k op:Int} {kids:List Int} (h:kids.length≤2000):qOm (ndK k op kids):=⟨h,by simp [ndK,em];decide⟩
theorem qBn {k:Nat} {p q:PS} (h:Go k p q):q.1.length≤p.1.length:=h.suf.length_le
theorem qEZ (H:RdOK):∀(f:Nat) (j:SJ) (q:PS),q.1.length≤1000→Ks j q→Go 0 q (sP f j q).2
 |0,j,q,_,_=>Go.refl q
 |f+1,.row level,q,hr,_=>by
  unfold sP
  split
  ·exact Go.refl q
  ·split
   ·exact qEZ H f .one q hr trivial
   ·have a:=qEZ H f (.row (level+1)) q hr trivial
    exact a.tr0 (qEZ H f (.rl level _) _ (Nat.le_trans (qBn a) hr) trivial)
 |f+1,.rl level a,q,hr,_=>by
  unfold sP
  split
  ·exact Go.refl q
  ·simp only
   have o:=qSG level q
   split
   ·exact o.1
   ·rename_i h0
    have o1:=(o.2 h0).1
    have b:=qEZ H f (.row (level+1)) (sOp level q).2 (Nat.le_trans (qBn o1) hr) trivial
    have c:=Go.add (x:=ndK 5 (sOp level q).1 [a,(sP f (.row (level+1)) (sOp level q).2).1]) (o1.trans b) (qH4 (by simp))
    exact c.tr0 (qEZ H f (.rl level _) _ (Nat.le_trans (qBn c) hr) trivial)
 |f+1,.one,q,hr,_=>by
  unfold sP
  split
  ·rename_i h
   have a:=qEU (by simp) h
   have b:=qEZ H f (.row 5) (sIs [45] q).2 (Nat.le_trans (qBn a) hr) trivial
   exact Go.add (a.trans b) (qH4 (by simp))
  ·have a:=qJS [45] q
   split
   ·rename_i h
    have c:=a.tr0 (qEU (by simp) h).weak
    have b:=qEZ H f (.row 1) (sIs [40] (sIs [45] q).2).2 (Nat.le_trans (qBn c) hr) trivial
    have d:=(c.tr0 b).tr0 (qJS [41] _)
    simp only
    split
    ·exact d
    ·exact qOF d
   ·simp only
    have t:=qLS q
    split
    ·rename_i h
     have c:=qEU (by simp) h
     obtain ⟨_,e,_⟩:=qKF h
     split
     ·exact ⟨List.nil_suffix,by simp,id⟩
     ·rename_i w u hq
      have d:=qMN _ _ _ (Nat.le_refl _) hq
      have d2:=d.length_le
      have dz:=qGJ _ _ _ (Nat.le_refl _) hq
      have g:=t.trans c
      have l:=qBn g
      have sg:=g.sum
      have eq:(sIs [34] (tb q.1,q.2)).2.2=q.2:=by rw [e]
      rw [eq] at sg
      simp only [List.length_nil] at dz
      exact Go.add (q:=(u,q.2)) ⟨d.trans g.suf,by simp only;omega,id⟩ ⟨by simp [kd,nd1],by simp only [nd1,qc];omega⟩
    ·split
     ·rename_i h
      have c:=qEU (by simp) h
      obtain ⟨_,e,_⟩:=qKF h
      have g:=t.trans c
      have l:=qBn g
      have sg:=g.sum
      have eq:(sIs [35] (tb q.1,q.2)).2.2=q.2:=by rw [e]
      rw [eq] at sg
      split
      ·exact Go.add (q:=(_,q.2)) ⟨(List.drop_suffix _ _).trans g.suf,by simp;omega,id⟩ ⟨by simp [kd,nd1],by simp [nd1,em];decide⟩
      ·exact ⟨g.suf,by simp only;omega,id⟩
     ·have w:=qPA q
      split
      ·split
       ·have c:=w.tr0 (qJS [40] _)
        exact c.tr0 (qEZ H f (.call _ []) _ (Nat.le_trans (qBn c) hr) (.inr (by have:=qBn c;simp only [List.length_nil];omega)))
       ·exact qOF (w.tr0 (qJS [40] _))
      ·split
       ·rename_i hv
        exact Go.add (qRg q hv.2) ⟨by simp [kd,nd1],qJQ hv.1 (H.v _ (qQT _) hv.2 hv.1)⟩
       ·split
        ·rename_i hp
         exact Go.add (qRg q (fun e=>by rw [e,H.p0] at hp;cases hp)) ⟨by simp [kd,ndC],by simp [ndC,em];decide⟩
        ·exact qOF w
 |f+1,.call op kids,q,hr,hk=>by
  unfold sP
  split
  ·exact Go.refl q
  ·rename_i hb
   have hk:kids.length+q.1.length≤1500:=hk.elim (fun h=>absurd h hb) id
   have a:=qEZ H f .arg q hr trivial
   simp only
   split
   ·rename_i h
    exact Go.add (a.trans (qEU (by simp) h)) (qH4 (by simp;omega))
   ·have c:=a.tr0 (qJS [41] _)
    split
    ·rename_i h
     have d:=c.trans (qEU (by simp) h)
     obtain ⟨e1,e2,_⟩:=qKF h
     have l:=e1.length_le
     have l2:=qBn c
     have l3:=qx (sIs [41] (sP f .arg q).2).2.1
     simp only [List.length_cons,List.length_nil] at l
     exact d.weak.tr0 (qEZ H f (.call op _) _ (Nat.le_trans (qBn d) hr) (.inr (by rw [e2];simp;omega)))
    ·have d:=qOF (c.tr0 (qJS [44] _))
     exact d.tr0 (qEZ H f (.call op _) _ (Nat.le_trans (qBn d) hr) (.inl rfl))
 |f+1,.arg,q,hr,_=>by
  unfold sP
  simp only
  have w:=qPA q
  split
  ·rename_i h
   have c:=w.trans (qEU (by simp) h.2)
   have d:=c.trans (qPA _)
   split
   ·exact Go.add d ⟨by simp [kd,ndA],by simp [ndA,em];decide⟩
   ·exact ⟨d.suf,by have:=d.sum;simp only at this⊢;omega,d.sm⟩
  ·have t:=qLS q
   exact t.tr0 (qEZ H f (.row 1) _ (Nat.le_trans (qBn t) hr) trivial)
def As (f:Nat):SJ→PS→Prop
 | .row level,q=>((20*(tb q.1).length+10:Nat):Int)-level≤f∧1≤level∧level≤5
 | .rl level _,q=>20*(tb q.1).length+5≤f∧1≤level∧level≤4
 | .one,q=>20*(tb q.1).length+4≤f∧q.2.1=false
 | .call _ _,q=>(q.2.1=true∧1≤f)∨20*(tb q.1).length+12≤f
 | .arg,q=>20*(tb q.1).length+10≤f
def Iv (s:List UInt8) (q:PS):Prop:=q.1<:+s∧q.2.2.length+q.1.length≤2000
theorem Iv.go {s:List UInt8} {k:Nat} {q q':PS} (h:Iv s q) (g:Go k q q'):Iv s q':=⟨g.suf.trans h.1,by have:=g.sum;have:=h.2;omega⟩
def Ws (s:List UInt8):SJ→PS→Int×PS→Prop
 | .row level,q,r=>Ev (qDn · level (BR s) (pos s q.1) q.2.1 q.2.2.length (q.2.2.map qb)) (qCI s r)
 | .rl level a,q,r=>∃x,(x= .inl (qCI s r)∨x= .inr (qCI s r))∧∃n0,∀n,n0≤n→∀M,n0≤M→zC (qDr (qd n) n) M (level,a,qCd s q)=some x
 | .one,q,r=>Ev (qIF · (BR s) (pos s q.1) q.2.1 q.2.2.length (q.2.2.map qb)) (qCI s r)
 | .call op kids,q,r=>∃x,(x= .inl (qCI s r)∨(x= .inr (qCd s r.2)∧r.1=0))∧∃n0,∀n,n0≤n→∀M,n0≤M→zC (qDY (qd n) n) M (op,kids.length,kids.map qA3,qCd s q)=some x
 | .arg,q,r=>Ev (qIG · (BR s) (pos s q.1) q.2.1 q.2.2.length (q.2.2.map qb)) (qCI s r)
theorem srp (r:List UInt8) (h:r.length≤1000):Ev (qAl · (BR (wd r))) (qAw (BR (wd r))):=qLG _ (by rw [qc];have:=qPc r;omega)
theorem srv (r:List UInt8) (h:r.length≤1000):Ev (qAE · (BR (wd r))) (qh (BR (wd r))):=qGf _ (by rw [qc];have:=qPc r;omega)
theorem qSs {r:List UInt8} (h:wd r≠ []):(tb (wr r)).length<r.length:=by
 have e:=congrArg List.length (wdr r)
 have:=List.length_pos_iff.2 h
 have:=qx (wr r)
 simp only [List.length_append] at e
 omega
def qPg (n:Nat) (w:ByteArray) (c:ByteArray×Int×Bool×Nat×List (List PV)):Tr (Int×ByteArray×Int×Bool×Nat×List (List PV)):=
 (.opt (qAl n w) fun r=>(.ask (!r.2.2.2.2) (.done (0,c.1,c.2.1,true,c.2.2.2.1,c.2.2.2.2))
  (.opt (qp n 2 0 0 0 ⟨#[]⟩ r.1 r.2.1 r.2.2.1 r.2.2.2.1 0 0 false false [] c.1 c.2.1 c.2.2.1 c.2.2.2.1 c.2.2.2.2) fun t=> .done (t.1,t.2.1,t.2.2.1,t.2.2.2.1,t.2.2.2.2.1,t.2.2.2.2.2))))
def qSX (n:Nat) (w:ByteArray) (c:ByteArray×Int×Bool×Nat×List (List PV)):Tr (Int×ByteArray×Int×Bool×Nat×List (List PV)):=
 (.opt (qAE n w) fun r=>(.ask r.2.2.2
  (.ask (!(w.toList==(⟨#[]⟩:ByteArray).toList))
   (.opt (qp n 1 0 r.1 r.2.1 r.2.2.1 0 0 false false 0 0 false false [] c.1 c.2.1 c.2.2.1 c.2.2.2.1 c.2.2.2.2) fun t=> .done (t.1,t.2.1,t.2.2.1,t.2.2.2.1,t.2.2.2.2.1,t.2.2.2.2.2))
   (qPg n w c))
  (qPg n w c)))
def qOG (w:List UInt8) (q3:PS):Int×PS:=
 if (qh (BR w)).2.2.2=true∧w≠ [] then qDk (nd1 ((qh (BR w)).1,(qh (BR w)).2.1,(qh (BR w)).2.2.1)) q3
 else if (qAw (BR w)).2.2.2.2=true then qDk (ndC (qAw (BR w))) q3
 else (0,qKl q3)
theorem qPC (H:RdOK) {s:List UInt8} (r:List UInt8) (q:PS) (hr:r.length≤1000) (hn:q.2.2.length≤5000):∃n0,∀n,n0≤n→(qSX n (BR (wd r)) (qCd s q)).run=some (qCI s (qOG (wd r) q)):=by
 obtain ⟨n1,h1⟩:=srv r hr
 obtain ⟨n2,h2⟩:=srp r hr
 obtain ⟨n4,h4⟩:=qJR (s:=s) (ndC (qAw (BR (wd r)))) q hn ⟨by simp [kd,ndC],by simp [ndC,em];decide⟩
 have place:∃n0,∀n,n0≤n→(qPg n (BR (wd r)) (qCd s q)).run=some (qCI s (if (qAw (BR (wd r))).2.2.2.2=true then qDk (ndC (qAw (BR (wd r)))) q else (0,qKl q))):=by
  refine ⟨n2+n4,fun n hn=>?_⟩
  cases hp:(qAw (BR (wd r))).2.2.2.2 with
  |true=>rw [if_pos rfl];exact qA (h2 n (by omega)) (qO (qCu hp) (qA (h4 n (by omega)) rfl))
  |false=>rw [if_neg (by simp)];exact qA (h2 n (by omega)) (qD (qDU hp) rfl)
 obtain ⟨n5,h5⟩:=place
 by_cases hv:(qh (BR (wd r))).2.2.2=true∧wd r≠ []
 ·obtain ⟨n3,h3⟩:=qJR (s:=s) (nd1 ((qh (BR (wd r))).1,(qh (BR (wd r))).2.1,(qh (BR (wd r))).2.2.1)) q hn ⟨by simp [kd,nd1],qJQ hv.1 (H.v _ (qQT _) hv.2 hv.1)⟩
  refine ⟨n1+n3,fun n hn=>?_⟩
  unfold qOG
  rw [if_pos hv]
  exact qA (h1 n (by omega)) (qD hv.1 (qD (qDU (by rw [beq_eq_false_iff_ne,qAL,q9];exact hv.2)) (qA (h3 n (by omega)) rfl)))
 ·refine ⟨n1+n5,fun n hn=>?_⟩
  unfold qOG
  rw [if_neg hv]
  refine qA (h1 n (by omega)) ?_
  by_cases ho:(qh (BR (wd r))).2.2.2=true
  ·have e:wd r= []:=Classical.byContradiction fun e=>hv ⟨ho,e⟩
   exact qD ho (qO (qCu (by rw [beq_iff_eq,qAL,q9];exact e)) (h5 n (by omega)))
  ·exact qO (by rw [Bool.eq_false_iff];exact ho) (h5 n (by omega))
theorem qEp (H:RdOK) {s:List UInt8} (hs:s.length≤1000):∀(f:Nat) (j:SJ) (q:PS),As f j q→Iv s q→Ks j q→Ws s j q (sP f j q)
 |0,j,q,ha,_,_=>by cases j<;>simp [As] at ha<;>omega
 |f+1,.row level,q,ha,hi,_=>by
  obtain ⟨ha,hl1,hl5⟩:=ha
  have hr:q.1.length≤1000:=Nat.le_trans (qC3 hi.1) hs
  unfold sP
  by_cases hb:q.2.1=true
  ·rw [if_pos hb]
   refine ⟨1,fun n hn=>?_⟩
   obtain ⟨k,rfl,hm⟩:=up1 hn
   exact qD hb rfl
  ·have hb:q.2.1=false:=by rw [Bool.eq_false_iff];exact hb
   rw [if_neg (by rw [hb];simp)]
   by_cases h5:level=5
   ·rw [if_pos h5]
    obtain ⟨n1,h1⟩:=qEp H hs f .one q ⟨by omega,hb⟩ hi trivial
    refine ⟨n1+1,fun n hn=>?_⟩
    obtain ⟨k,rfl,hm⟩:=up1 hn
    exact qO hb (qD (beq_iff_eq.2 h5) (qA (h1 k (by omega)) rfl))
   ·rw [if_neg h5]
    have g:=qEZ H f (.row (level+1)) q hr trivial
    have gl:=g.tb
    obtain ⟨n1,h1⟩:=qEp H hs f (.row (level+1)) q ⟨by omega,by omega,by omega⟩ hi trivial
    generalize sP f (.row (level+1)) q=Q at g gl h1⊢
    obtain ⟨x,hx,n2,h2⟩:=qEp H hs f (.rl level Q.1) Q.2 ⟨by omega,by omega,by omega⟩ (hi.go g) trivial
    refine ⟨n1+n2+1,fun n hn=>?_⟩
    obtain ⟨k,rfl,hm⟩:=up1 hn
    have w1:IntKind.i64.wrap (level+1)=level+1:=qa (by omega)
    have h1:=h1 k (by omega)
    rw [←w1] at h1
    have h2:=h2 k (by omega) k (by omega)
    rcases hx with rfl|rfl
    ·exact qO hb (qO (beq_eq_false_iff_ne.2 h5) (qA h1 (qA h2 rfl)))
    ·exact qO hb (qO (beq_eq_false_iff_ne.2 h5) (qA h1 (qA h2 rfl)))
 |f+1,.rl level a,q,ha,hi,_=>by
  obtain ⟨ha,hl1,hl4⟩:=ha
  have hr:q.1.length≤1000:=Nat.le_trans (qC3 hi.1) hs
  unfold sP
  by_cases hb:q.2.1=true
  ·rw [if_pos hb]
   refine ⟨.inr (qCI s (a,q)),.inr rfl,1,fun n hn M hM=>?_⟩
   obtain ⟨M,rfl,hM⟩:=up1 hM
   exact qP (qO (qCu hb) rfl)
  ·have hb:q.2.1=false:=by rw [Bool.eq_false_iff];exact hb
   rw [if_neg (by rw [hb];simp)]
   simp only
   obtain ⟨n1,h1⟩:=qSV hs (level:=level) ⟨hl1,hl4⟩ q hb hi.1
   have o:=qSG level q
   generalize sOp level q=O at h1 o⊢
   by_cases h0:O.1=0
   ·rw [if_pos h0]
    refine ⟨.inl (qCI s (a,O.2)),.inl rfl,n1+1,fun n hn M hM=>?_⟩
    obtain ⟨M,rfl,hM⟩:=up1 hM
    exact qP (qD (qDU hb) (qA (h1 n (by omega)) (qD (beq_iff_eq.2 h0) rfl)))
   ·rw [if_neg h0]
    obtain ⟨o1,o2⟩:=o.2 h0
    have b:=qEZ H f (.row (level+1)) O.2 (Nat.le_trans (qBn o1) hr) trivial
    obtain ⟨n2,h2⟩:=qEp H hs f (.row (level+1)) O.2 ⟨by omega,by omega,by omega⟩ (hi.go o1) trivial
    have ib:=(hi.go o1).go b
    have tbb:=b.tb
    have c:=Go.add (x:=ndK 5 O.1 [a,(sP f (.row (level+1)) O.2).1]) (o1.trans b) (qH4 (by simp))
    generalize sP f (.row (level+1)) O.2=Q at h2 b ib tbb c⊢
    obtain ⟨n3,h3⟩:=qJR (s:=s) (ndK 5 O.1 [a,Q.1]) Q.2 (by have:=ib.2;omega) (qH4 (by simp))
    have rest:(qDk (ndK 5 O.1 [a,Q.1]) Q.2).2.1=Q.2.1:=rfl
    generalize qDk (ndK 5 O.1 [a,Q.1]) Q.2=C at h3 c rest⊢
    obtain ⟨x,hx,n4,h4⟩:=qEp H hs f (.rl level C.1) C.2 ⟨by rw [rest];omega,hl1,hl4⟩ (hi.go c) trivial
    refine ⟨x,hx,n1+n2+n3+n4+1,fun n hn M hM=>?_⟩
    obtain ⟨M,rfl,hM⟩:=up1 hM
    have w1:IntKind.i64.wrap (level+1)=level+1:=qa (by omega)
    have h2:=h2 n (by omega)
    rw [←w1] at h2
    rw [qX (v':=(level,C.1,qCd s C.2)) (by
     exact qD (qDU hb) (qA (h1 n (by omega)) (qO (beq_eq_false_iff_ne.2 h0) (qA h2 (qD rfl (qA (h3 n (by omega)) rfl))))))]
    exact h4 n (by omega) M (by omega)
 |f+1,.one,q,ha,hi,_=>by
  obtain ⟨ha,hb⟩:=ha
  have hr:q.1.length≤1000:=Nat.le_trans (qC3 hi.1) hs
  unfold sP
  obtain ⟨n1,h1⟩:=qGK hs [45] (by simp) q hi.1
  cases c1:(sIs [45] q).1 with
  |true=>
   rw [if_pos rfl]
   have a:=qEU (by simp) c1
   have al:=qQz (by simp) c1
   have b:=qEZ H f (.row 5) (sIs [45] q).2 (Nat.le_trans (qBn a) hr) trivial
   obtain ⟨n2,h2⟩:=qEp H hs f (.row 5) (sIs [45] q).2 ⟨by omega,by omega,by omega⟩ (hi.go a) trivial
   have ib:=(hi.go a).go b
   simp only
   generalize sP f (.row 5) (sIs [45] q).2=Q at h2 ib⊢
   obtain ⟨n3,h3⟩:=qJR (s:=s) (ndK 4 0 [Q.1]) Q.2 (by have:=ib.2;omega) (qH4 (by simp))
   refine ⟨n1+n2+n3+1,fun n hn=>?_⟩
   obtain ⟨k,rfl,hm⟩:=up1 hn
   exact qA (h1 k (by omega)) (qD c1 (qA (h2 k (by omega)) (qD rfl (qA (h3 k (by omega)) rfl))))
  |false=>
   rw [if_neg (by simp)]
   have a:=qJS [45] q
   obtain ⟨n2,h2⟩:=qGK hs [40] (by simp) (sIs [45] q).2 (hi.go a).1
   cases c2:(sIs [40] (sIs [45] q).2).1 with
   |true=>
    rw [if_pos rfl]
    have b:=qEU (by simp) c2
    have al:=qQz (by simp) c2
    have atb:=a.tb
    have g1:=a.trans b
    have b2:=qEZ H f (.row 1) (sIs [40] (sIs [45] q).2).2 (Nat.le_trans (qBn g1) hr) trivial
    obtain ⟨n3,h3⟩:=qEp H hs f (.row 1) (sIs [40] (sIs [45] q).2).2 ⟨by omega,by omega,by omega⟩ (hi.go g1) trivial
    have ib:=(hi.go g1).go b2
    simp only
    generalize sP f (.row 1) (sIs [40] (sIs [45] q).2).2=Q at h3 ib⊢
    obtain ⟨n4,h4⟩:=qGK hs [41] (by simp) Q.2 ib.1
    refine ⟨n1+n2+n3+n4+1,fun n hn=>?_⟩
    obtain ⟨k,rfl,hm⟩:=up1 hn
    refine qA (h1 k (by omega)) (qO c1 (qA (h2 k (by omega)) (qD c2 (qA (h3 k (by omega)) (qA (h4 k (by omega)) ?_)))))
    cases c3:(sIs [41] Q.2).1 with
    |true=>rw [if_pos rfl];exact qO rfl rfl
    |false=>rw [if_neg (by simp)];exact qD rfl rfl
   |false=>
    rw [if_neg (by simp)]
    have e2:(sIs [40] (sIs [45] q).2).2=(tb q.1,q.2):=by
     rw [qPB c2,qPB c1];simp only [qCH]
    rw [e2] at h2
    have t:=qLS q
    have it:=hi.go t
    obtain ⟨n3,h3⟩:=qGK hs [34] (by simp) (tb q.1,q.2) it.1
    simp only
    cases c3:(sIs [34] (tb q.1,q.2)).1 with
    |true=>
     rw [if_pos rfl]
     have b:=qEU (by simp) c3
     have ib:=it.go b
     have eq2:(sIs [34] (tb q.1,q.2)).2.2=q.2:=by obtain ⟨_,e,_⟩:=qKF c3;rw [e]
     obtain ⟨n4,h4⟩:=qRe hs (sIs [34] (tb q.1,q.2)).2 ib.1 (by have:=ib.2;omega)
     refine ⟨n1+n2+n3+n4+1,fun n hn=>?_⟩
     obtain ⟨k,rfl,hm⟩:=up1 hn
     refine qA (h1 k (by omega)) (qO c1 (qA (h2 k (by omega)) (qO c2 (qA (h3 k (by omega)) (qD c3 (qA (h4 k (by omega)) ?_))))))
     rw [qC,eq2]
     all_goals (cases qBy [] (sIs [34] (tb q.1,q.2)).2.1<;>rfl)
    |false=>
     rw [if_neg (by simp)]
     have e3:(sIs [34] (tb q.1,q.2)).2=(tb q.1,q.2):=by rw [qPB c3];simp only [qCH]
     rw [e3] at h3
     obtain ⟨n4,h4⟩:=qGK hs [35] (by simp) (tb q.1,q.2) it.1
     cases c4:(sIs [35] (tb q.1,q.2)).1 with
     |true=>
      rw [if_pos rfl]
      have b:=qEU (by simp) c4
      have ib:=it.go b
      have eq2:(sIs [35] (tb q.1,q.2)).2.2=q.2:=by obtain ⟨_,e,_⟩:=qKF c4;rw [e]
      obtain ⟨n5,h5⟩:=qR9 hs (sIs [35] (tb q.1,q.2)).2.1 ib.1 q.2.1 q.2.2 (by have:=hi.2;omega)
      have h4:=fun k hk=>h4 k hk
      refine ⟨n1+n2+n3+n4+n5+1,fun n hn=>?_⟩
      obtain ⟨k,rfl,hm⟩:=up1 hn
      have h4:=h4 k (by omega)
      have h5:=h5 k (by omega) k (by omega)
      have e4:qCd s (sIs [35] (tb q.1,q.2)).2=(BR s,pos s (sIs [35] (tb q.1,q.2)).2.1,q.2.1,q.2.2.length,q.2.2.map qb):=by unfold qCd;rw [eq2]
      rw [e4] at h4
      refine qA (h1 k (by omega)) (qO c1 (qA (h2 k (by omega)) (qO c2 (qA (h3 k (by omega)) (qO c3 (qA h4 (qD c4 (qA h5 ?_))))))))
      cases qPz (sIs [35] (tb q.1,q.2)).2.1 1 5<;>rfl
     |false=>
      rw [if_neg (by simp)]
      have e4:(sIs [35] (tb q.1,q.2)).2=(tb q.1,q.2):=by rw [qPB c4];simp only [qCH]
      rw [e4] at h4
      obtain ⟨n5,h5⟩:=qOD hs (tb q.1,q.2) it.1
      have w:=qPA q
      have iw:=hi.go w
      have htl:=qx q.1
      obtain ⟨n6,h6⟩:=qGK hs [40] (by simp) (wr (tb q.1),q.2) iw.1
      obtain ⟨n7,h7⟩:=qSA
      obtain ⟨n9,h9⟩:=qPC H (s:=s) (tb q.1) (wr (tb q.1),q.2) (by omega) (by have:=hi.2;simp only;omega)
      have gi:=qJS [40] (wr (tb q.1),q.2)
      cases hf:qFX (wd (tb q.1)) 1 10 with
      |none=>
       simp only
       refine ⟨n1+n2+n3+n4+n5+n6+n7+n9+12+1,fun n hn=>?_⟩
       obtain ⟨k,rfl,hm⟩:=up1 hn
       have lp:=qJc (g:=qd k) (s:=s) (wd (tb q.1)) (wr (tb q.1),q.2) (fun _=>(0,q)) (h7 k (by omega)) (h6 k (by omega)) 10 1 k (by omega) (by omega) (by omega) (fun op h=>by rw [hf] at h;cases h)
       rw [hf] at lp
       exact qA (h1 k (by omega)) (qO c1 (qA (h2 k (by omega)) (qO c2 (qA (h3 k (by omega)) (qO c3 (qA (h4 k (by omega)) (qO c4 (qA (h5 k (by omega)) (qA lp (h9 k (by omega)))))))))))
      |some op=>
       have wne:wd (tb q.1)≠ []:=fun e=>by rw [e,H.f0] at hf;cases hf
       have wlt:=qSs wne
       simp only
       cases c5:(sIs [40] (wr (tb q.1),q.2)).1 with
       |true=>
        rw [if_pos rfl]
        have il:=qQz (by simp) c5
        simp only at il
        obtain ⟨x,hx,n8,h8⟩:=qEp H hs f (.call op []) (sIs [40] (wr (tb q.1),q.2)).2 (.inr (by omega)) (iw.go gi) (.inr (by have:=qBn (w.tr0 gi);simp only [List.length_nil];omega))
        have hcall:Ev (qHK · op (BR s) (pos s (sIs [40] (wr (tb q.1),q.2)).2.1) (sIs [40] (wr (tb q.1),q.2)).2.2.1 (sIs [40] (wr (tb q.1),q.2)).2.2.2.length ((sIs [40] (wr (tb q.1),q.2)).2.2.2.map qb)) (qCI s (sP f (.call op []) (sIs [40] (wr (tb q.1),q.2)).2)):=by
         refine ⟨n8+1,fun n hn=>?_⟩
         obtain ⟨k,rfl,hm⟩:=up1 hn
         have h8:=h8 k (by omega) k (by omega)
         rcases hx with rfl|⟨rfl,hz⟩
         ·exact qA h8 rfl
         ·refine qA h8 ?_
          show some ((0:Int),qCd s _)=some (_,qCd s _)
          rw [hz]
        obtain ⟨n10,h10⟩:=hcall
        refine ⟨n1+n2+n3+n4+n5+n6+n7+n10+12+1,fun n hn=>?_⟩
        obtain ⟨k,rfl,hm⟩:=up1 hn
        have lp:=qJc (g:=qd k) (s:=s) (wd (tb q.1)) (wr (tb q.1),q.2) (fun op=>sP f (.call op []) (sIs [40] (wr (tb q.1),q.2)).2) (h7 k (by omega)) (h6 k (by omega)) 10 1 k (by omega) (by omega) (by omega) (fun op' h _=>by rw [hf] at h;cases h;exact h10 k (by omega))
        rw [hf] at lp
        simp only at lp
        rw [if_pos c5] at lp
        exact qA (h1 k (by omega)) (qO c1 (qA (h2 k (by omega)) (qO c2 (qA (h3 k (by omega)) (qO c3 (qA (h4 k (by omega)) (qO c4 (qA (h5 k (by omega)) (qA lp rfl)))))))))
       |false=>
        rw [if_neg (by simp)]
        obtain ⟨v1,v2⟩:=H.f _ _ hf
        obtain ⟨n9,h9⟩:=qPC H (s:=s) (tb q.1) (sIs [40] (wr (tb q.1),q.2)).2 (by omega) (by have:=(iw.go gi).2;omega)
        have er:qOG (wd (tb q.1)) (sIs [40] (wr (tb q.1),q.2)).2=(0,qKl (sIs [40] (wr (tb q.1),q.2)).2):=by
         unfold qOG
         rw [if_neg (fun h=>by rw [v1] at h;cases h.1),if_neg (by rw [v2];simp)]
        rw [er] at h9
        refine ⟨n1+n2+n3+n4+n5+n6+n7+n9+12+1,fun n hn=>?_⟩
        obtain ⟨k,rfl,hm⟩:=up1 hn
        have lp:=qJc (g:=qd k) (s:=s) (wd (tb q.1)) (wr (tb q.1),q.2) (fun _=>(0,q)) (h7 k (by omega)) (h6 k (by omega)) 10 1 k (by omega) (by omega) (by omega) (fun op' h h'=>by rw [c5] at h';cases h')
        rw [hf] at lp
        simp only at lp
        rw [if_neg (by rw [c5];simp)] at lp
        exact qA (h1 k (by omega)) (qO c1 (qA (h2 k (by omega)) (qO c2 (qA (h3 k (by omega)) (qO c3 (qA (h4 k (by omega)) (qO c4 (qA (h5 k (by omega)) (qA lp (h9 k (by omega)))))))))))
 |f+1,.call op kids,q,ha,hi,hk=>by
  have hr:q.1.length≤1000:=Nat.le_trans (qC3 hi.1) hs
  unfold sP
  by_cases hb:q.2.1=true
  ·rw [if_pos hb]
   refine ⟨.inr (qCd s q),.inr ⟨rfl,rfl⟩,1,fun n hn M hM=>?_⟩
   obtain ⟨M,rfl,hM⟩:=up1 hM
   exact qP (qO (qCu hb) rfl)
  ·have hk:kids.length+q.1.length≤1500:=hk.elim (fun h=>absurd h hb) id
   have ha:20*(tb q.1).length+12≤f+1:=ha.elim (fun h=>absurd h.1 hb) id
   have hb:q.2.1=false:=by rw [Bool.eq_false_iff];exact hb
   rw [if_neg (by rw [hb];simp)]
   simp only
   have a:=qEZ H f .arg q hr trivial
   obtain ⟨n1,h1⟩:=qEp H hs f .arg q (by show 20*_+10≤f;omega) hi trivial
   generalize sP f .arg q=A at a h1⊢
   have ia:=hi.go a
   have ta:=a.tb
   have ra:=qBn a
   obtain ⟨n2,h2⟩:=qGK hs [41] (by simp) A.2 ia.1
   have kl:decide (kids.length=(kids.map qA3).length∧0<1∧0<8∧(kids.length+([[(PV.i .i64 A.1)]]:List (List PV)).length)*8≤140737488355328∧([[(PV.i .i64 A.1)]]:List (List PV)).all (fun e=>e.length==1)=true)=true:=decide_eq_true ⟨by simp,by decide,by decide,by simp;omega,rfl⟩
   have k1:(kids++ [A.1]).length=kids.length+1:=by simp
   have k2:(kids++ [A.1]).map qA3=kids.map qA3++ [[PV.i .i64 A.1]]:=by simp [qA3]
   cases c1:(sIs [41] A.2).1 with
   |true=>
    rw [if_pos rfl]
    have g:=a.trans (qEU (by simp) c1)
    obtain ⟨n3,h3⟩:=qJR (s:=s) (ndK 6 op (kids++ [A.1])) (sIs [41] A.2).2 (by have:=(hi.go g).2;omega) (qH4 (by simp;omega))
    refine ⟨.inl (qCI s (qDk (ndK 6 op (kids++ [A.1])) (sIs [41] A.2).2)),.inl rfl,n1+n2+n3+1,fun n hn M hM=>?_⟩
    obtain ⟨M,rfl,hM⟩:=up1 hM
    have h3:_=some _:=h3 n (by omega)
    simp only [ndK,kd] at h3
    rw [k2] at h3
    exact qP (qD (qDU hb) (qA (h1 n (by omega)) (qD rfl (qD kl (qA (h2 n (by omega)) (qD c1 (qD (decide_eq_true (by simp)) (qA h3 rfl))))))))
   |false=>
    rw [if_neg (by simp)]
    have g:=a.tr0 (qJS [41] A.2)
    have gt:=(qJS [41] A.2).tb
    have i2:=hi.go g
    obtain ⟨n3,h3⟩:=qGK hs [44] (by simp) (sIs [41] A.2).2 i2.1
    cases c2:(sIs [44] (sIs [41] A.2).2).1 with
    |true=>
     rw [if_pos rfl]
     have b:=qEU (by simp) c2
     have bl:=qQz (by simp) c2
     have bs:=qBn (g.trans b)
     have b1:=b.sum
     have eq3:(sIs [44] (sIs [41] A.2).2).2.2=(sIs [41] A.2).2.2:=by obtain ⟨_,e,_⟩:=qKF c2;rw [e]
     rw [eq3] at b1
     have g0:=qBn g
     obtain ⟨x,hx,n4,h4⟩:=qEp H hs f (.call op (kids++ [A.1])) (sIs [44] (sIs [41] A.2).2).2 (.inr (by omega)) (i2.go b) (.inr (by rw [k1];omega))
     refine ⟨x,hx,n1+n2+n3+n4+1,fun n hn M hM=>?_⟩
     obtain ⟨M,rfl,hM⟩:=up1 hM
     have h4:=h4 n (by omega) M (by omega)
     rw [k1,k2] at h4
     rw [qX (v':=(op,kids.length+1,kids.map qA3++ [[PV.i .i64 A.1]],qCd s (sIs [44] (sIs [41] A.2).2).2)) (by
      exact qD (qDU hb) (qA (h1 n (by omega)) (qD rfl (qD kl (qA (h2 n (by omega)) (qO c1 (qA (h3 n (by omega)) (qO (qCu c2) rfl))))))))]
     exact h4
    |false=>
     rw [if_neg (by simp)]
     have b:=qJS [44] (sIs [41] A.2).2
     obtain ⟨x,hx,n4,h4⟩:=qEp H hs f (.call op (kids++ [A.1])) (qKl (sIs [44] (sIs [41] A.2).2).2) (.inl ⟨rfl,by omega⟩) (i2.go (qOF b)) (.inl rfl)
     refine ⟨x,hx,n1+n2+n3+n4+1,fun n hn M hM=>?_⟩
     obtain ⟨M,rfl,hM⟩:=up1 hM
     have h4:=h4 n (by omega) M (by omega)
     rw [k1,k2] at h4
     rw [qX (v':=(op,kids.length+1,kids.map qA3++ [[PV.i .i64 A.1]],qCd s (qKl (sIs [44] (sIs [41] A.2).2).2))) (by
      exact qD (qDU hb) (qA (h1 n (by omega)) (qD rfl (qD kl (qA (h2 n (by omega)) (qO c1 (qA (h3 n (by omega)) (qD (qDU c2) rfl))))))))]
     exact h4
 |f+1,.arg,q,ha,hi,_=>by
  replace ha:20*(tb q.1).length+10≤f+1:=ha
  have hr:q.1.length≤1000:=Nat.le_trans (qC3 hi.1) hs
  have htl:=qx q.1
  unfold sP
  simp only
  have t:=qLS q
  have it:=hi.go t
  have w:=qPA q
  have iw:=hi.go w
  obtain ⟨n1,h1⟩:=qPe hs q hi.1
  obtain ⟨n2,h2⟩:=qOD hs (tb q.1,q.2) it.1
  obtain ⟨n3,h3⟩:=srp (tb q.1) (by omega)
  obtain ⟨n4,h4⟩:=qGK hs [58] (by simp) (wr (tb q.1),q.2) iw.1
  have eq2:(sIs [58] (wr (tb q.1),q.2)).2.2=q.2:=by
   cases c:(sIs [58] (wr (tb q.1),q.2)).1 with
   |true=>obtain ⟨_,e,_⟩:=qKF c;rw [e]
   |false=>rw [qPB c]
  by_cases hc:(qAw (BR (wd (tb q.1)))).2.2.2.2=true∧(sIs [58] (wr (tb q.1),q.2)).1=true
  ·rw [if_pos hc]
   have g:=w.trans (qEU (by simp) hc.2)
   have ig:=hi.go g
   have rg:=qBn g
   generalize sIs [58] (wr (tb q.1),q.2)=I at*
   have gt:=qLS I.2
   have gw:=qPA I.2
   have il:=qx I.2.1
   obtain ⟨n5,h5⟩:=qPe hs I.2 ig.1
   obtain ⟨n6,h6⟩:=qOD hs (tb I.2.1,I.2.2) (ig.go gt).1
   obtain ⟨n7,h7⟩:=srp (tb I.2.1) (by omega)
   cases hp:(qAw (BR (wd (tb I.2.1)))).2.2.2.2 with
   |true=>
    rw [if_pos rfl]
    obtain ⟨n8,h8⟩:=qJR (s:=s) (ndA (qAw (BR (wd (tb q.1)))) (qAw (BR (wd (tb I.2.1))))) (wr (tb I.2.1),I.2.2) (by have:=(ig.go gw).2;simp only at this⊢;omega) ⟨by simp [kd,ndA],by simp [ndA,em];decide⟩
    refine ⟨n1+n2+n3+n4+n5+n6+n7+n8+1,fun n hn=>?_⟩
    obtain ⟨k,rfl,hm⟩:=up1 hn
    exact qA (h1 k (by omega)) (qA (h2 k (by omega)) (qA (h3 k (by omega)) (qD hc.1 (qA (h4 k (by omega)) (qD hc.2 (qA (h5 k (by omega)) (qA (h6 k (by omega)) (qA (h7 k (by omega)) (qO (qCu hp) (qA (h8 k (by omega)) rfl))))))))))
   |false=>
    rw [if_neg (by simp)]
    refine ⟨n1+n2+n3+n4+n5+n6+n7+1,fun n hn=>?_⟩
    obtain ⟨k,rfl,hm⟩:=up1 hn
    exact qA (h1 k (by omega)) (qA (h2 k (by omega)) (qA (h3 k (by omega)) (qD hc.1 (qA (h4 k (by omega)) (qD hc.2 (qA (h5 k (by omega)) (qA (h6 k (by omega)) (qA (h7 k (by omega)) (qD (qDU hp) rfl)))))))))
  ·rw [if_neg hc]
   obtain ⟨n5,h5⟩:=qEp H hs f (.row 1) (tb q.1,q.2) ⟨by simp only [qCH];omega,by omega,by omega⟩ it trivial
   refine ⟨n1+n2+n3+n4+n5+1,fun n hn=>?_⟩
   obtain ⟨k,rfl,hm⟩:=up1 hn
   cases hp:(qAw (BR (wd (tb q.1)))).2.2.2.2 with
   |true=>
    have ht:(sIs [58] (wr (tb q.1),q.2)).1=false:=by rw [Bool.eq_false_iff];exact fun e=>hc ⟨hp,e⟩
    have h4:=h4 k (by omega)
    have e4:qCd s (sIs [58] (wr (tb q.1),q.2)).2=(BR s,pos s (sIs [58] (wr (tb q.1),q.2)).2.1,q.2.1,q.2.2.length,q.2.2.map qb):=by unfold qCd;rw [eq2]
    rw [e4] at h4
    exact qA (h1 k (by omega)) (qA (h2 k (by omega)) (qA (h3 k (by omega)) (qD hp (qA h4 (qO ht (qA (h5 k (by omega)) rfl))))))
   |false=>exact qA (h1 k (by omega)) (qA (h2 k (by omega)) (qA (h3 k (by omega)) (qO hp (qA (h5 k (by omega)) rfl))))
theorem qRF {w:List UInt8} (h:w.all wch=true) (hn:w≠ []):(qBD (BR w)).1=1∨(qBD (BR w)).1=3:=by
 cases w with
 |nil=>exact absurd rfl hn
 |cons c t=>
  simp only [List.all_cons,Bool.and_eq_true] at h
  have h39:¬(c::t).head?=some 39:=by
   intro e;simp at e;rw [e] at h;exact absurd h.1 (by decide)
  have h35:¬(c::t).head?=some 35:=by
   intro e;simp at e;rw [e] at h;exact absurd h.1 (by decide)
  unfold qBD
  rw [qAL,if_neg h39]
  split
  ·exact .inr rfl
  ·split
   ·exact .inr rfl
   ·exact .inl rfl
theorem qSY:RdOK where
 v:=fun w h hn ho=>by
  have c:=qRF h hn
  unfold qh at ho⊢
  split at ho
  ·rename_i hc;rw [if_pos hc];exact c
  ·cases ho
 v0:=by
  have:(qh (BR [])).1=0:=by
   have:(qh ⟨#[]⟩).1=0:=by decide+kernel
   exact this
  rw [this];decide
 p0:=by
  have:(qAw ⟨#[]⟩).2.2.2.2=false:=by decide+kernel
  exact this
 f:=fun w op h=>by
  have t:∀a:Fin 10,(qh (fnS (((a.val:Nat):Int)+1))).2.2.2=false∧(qAw (fnS (((a.val:Nat):Int)+1))).2.2.2.2=false:=by decide+kernel
  have e:∀(k:Nat) (i:Int),1≤i→i+k≤11→qFX w i k=some op→∃j:Int,1≤j∧j≤10∧(fnS j).toList=w:=by
   intro k
   induction k with
   |zero=>intro i _ _ h;cases h
   |succ k ih=>
    intro i h1 h2 h
    unfold qFX at h
    split at h
    ·rename_i hq;exact ⟨i,h1,by omega,hq⟩
    ·exact ih (i+1) (by omega) (by omega) h
  obtain ⟨j,j1,j2,rfl⟩:=e 10 1 (by omega) (by omega) h
  rw [qIW]
  have:=t ⟨(j-1).toNat,by omega⟩
  simp only at this
  rwa [show (((j-1).toNat:Nat):Int)+1=j by omega] at this
 f0:=by decide+kernel
 n:=fun n hn=>by
  have c:n=1∨n=2∨n=3∨n=4∨n=5:=by omega
  rcases c with rfl|rfl|rfl|rfl|rfl
  ·exact ⟨[68,73,86,33],by decide+kernel⟩
  ·exact ⟨[84,89,80,69,33],by decide+kernel⟩
  ·exact ⟨[82,69,70,33],by decide+kernel⟩
  ·exact ⟨[79,86,69,82,33],by decide+kernel⟩
  ·exact ⟨[67,89,67,76,69,33],by decide+kernel⟩
def qPD (s:ByteArray):PS:=(pP 4050 (.bin 1 0) (s.toList,false,[])).2
def qBW (s:ByteArray):List Nd×Bool:=
 if qBt s 200=true∧(qPD s).2.1=false∧tb (qPD s).1= []∧qE8 (qPD s).2.2=true then ((qPD s).2.2,true) else ([],false)
theorem qJd {s:ByteArray} (h:qBt s 200=true):s.toList.length≤200:=by
 unfold qBt at h
 simp only [Bool.and_eq_true,decide_eq_true_eq] at h
 rw [qAQ];omega
theorem qQY {s:ByteArray} (h:qBt s 200=true):Gd (s.toList,false,[]):=⟨by have:=qJd h;simp only;omega,by simp,fun x hx=>by cases hx⟩
theorem qJe {l:List Nd} (h:∀x∈l,qOm x):∀c∈l,(kd c).length≤140737488351232∧c.2.2.2.2.1.size≤140737488351232:=fun c hc=>by
 have:=h c hc
 exact ⟨by have:=this.1;omega,by have:=this.2;omega⟩
theorem qJ1 (s:ByteArray) (hb:s.size≤140737488351232):Ev (qDv · s) ((qBW s).1.map qb,(qBW s).2):=by
 obtain ⟨n1,h1⟩:=qJF s 200 hb
 by_cases hp:qBt s 200=true
 ·have hl:=qJd hp
  have htb:=qx s.toList
  have hg:=qQY hp
  obtain ⟨n2,h2⟩:=qEo 4050 (.bin 1 0) (s.toList,false,[]) (by show 20*(tb s.toList).length+6≤4050;omega) ⟨by decide,by decide⟩ hg trivial
  have g:=(qEY 4050 (.bin 1 0) (s.toList,false,[]) hg trivial).1
  have e0:(pP 4050 (.bin 1 0) (s.toList,false,[])).2=qPD s:=rfl
  rw [e0] at g
  generalize pP 4050 (.bin 1 0) (s.toList,false,[])=P at h2 e0
  rw [qIW] at h2
  unfold qBW
  rw [←e0] at g⊢
  obtain ⟨n3,h3⟩:=qGi P.2.1 P.2.2.2.length P.2.2.1 (P.2.2.2.map qb)
  obtain ⟨n4,h4⟩:=qGh P.2.2.2 (by have:=g.n;omega) (qJe g.s)
  refine ⟨n1+n2+n3+n4+1,fun n hn=>?_⟩
  obtain ⟨k,rfl,hm⟩:=up1 hn
  have h1:=h1 k (by omega)
  rw [hp] at h1
  refine qA h1 (qO rfl (qA (h2 k (by omega)) (qA (h3 k (by omega)) ?_)))
  by_cases hbad:P.2.2.1=true
  ·rw [if_neg (fun h=>by rw [hbad] at h;cases h.2.1)]
   exact qD hbad (qD rfl rfl)
  ·have hbad:P.2.2.1=false:=by rw [Bool.eq_false_iff];exact hbad
   refine qO hbad ?_
   by_cases hr:tb P.2.1= []
   ·refine qO (qCu (by rw [beq_iff_eq,q9];show (BR (tb P.2.1)).toList= [];rw [qAL];exact hr)) (qD (decide_eq_true (by simp)) (qA (h4 k (by omega)) (qD (qF _) ?_)))
    cases ho:qE8 P.2.2.2 with
    |true=>
     rw [if_pos ⟨hp,hbad,hr,rfl⟩]
     exact qO rfl (qD (decide_eq_true (by simp)) rfl)
    |false=>
     rw [if_neg (fun h=>by cases h.2.2.2)]
     exact qD rfl (qD rfl rfl)
   ·rw [if_neg (fun h=>hr h.2.2.1)]
    exact qD (qDU (by rw [beq_eq_false_iff_ne,q9];show (BR (tb P.2.1)).toList≠ [];rw [qAL];exact hr)) (qD rfl rfl)
 ·refine ⟨n1+1,fun n hn=>?_⟩
  obtain ⟨k,rfl,hm⟩:=up1 hn
  unfold qBW
  rw [if_neg (fun h=>hp h.1)]
  exact qA (h1 k (by omega)) (qD (qDU (by rw [Bool.eq_false_iff];exact hp)) (qD rfl rfl))
theorem qRG {l:List Nd} (h:∃x∈l,qEX x=false):qE8 l=false:=by
 obtain ⟨x,hx,hb⟩:=h
 rw [Bool.eq_false_iff]
 intro ho
 unfold qE8 at ho
 simp only [Bool.and_eq_true] at ho
 obtain ⟨i,hi⟩:=List.mem_iff_getElem?.1 hx
 have hil:=(List.getElem?_eq_some_iff.1 hi).1
 have:=(qE7.1 ho.2.1 (i:Int) (by omega) (by omega)).1
 unfold qFW at this
 have e:ndi l (i:Int)=x:=by unfold ndi;simp [hi]
 rw [e,hb] at this
 cases this
theorem qJ2 (s:ByteArray) (hb:s.size≤140737488351232):Ev (qDs · s) ((qBW s).1.map qb,(qBW s).2):=by
 obtain ⟨n1,h1⟩:=qIQ s hb
 by_cases hp:qBt s 200=true
 ·have hl:=qJd hp
  have hs:s.toList.length≤1000:=by omega
  have htb:=qx s.toList
  have hg:=qQY hp
  have gi:=(qEY 4050 (.bin 1 0) (s.toList,false,[]) hg trivial).1
  have sim:=(qR5 qSY (tb s.toList).length).2.2.1 (s.toList,false,[]) (s.toList,false,[]) 0 4 4050 4050 (by omega) ⟨rfl,rfl,rfl,rfl⟩ rfl (by omega) (by omega) (by omega) (by omega)
  rw [show (5:Int)-((4:Nat):Int)=1 from rfl] at sim
  have iv:Iv s.toList (s.toList,false,[]):=⟨List.suffix_rfl,by simp;omega⟩
  obtain ⟨n2,h2⟩:=qEp qSY hs 4050 (.row 1) (s.toList,false,[]) ⟨by simp only;omega,by omega,by omega⟩ iv trivial
  have g:=qEZ qSY 4050 (.row 1) (s.toList,false,[]) hs trivial
  have e0:(pP 4050 (.bin 1 0) (s.toList,false,[])).2=qPD s:=rfl
  generalize pP 4050 (.bin 1 0) (s.toList,false,[])=P at sim e0 gi
  generalize sP 4050 (.row 1) (s.toList,false,[])=Q at sim h2 g
  unfold qBW
  rw [←e0]
  obtain ⟨n3,h3⟩:=qPe hs Q.2 (iv.go g).1
  obtain ⟨n4,h4⟩:=qGg Q.2.2.2 (qJe (g.sm (fun x hx=>by cases hx)))
  have p0:pos s.toList s.toList=0:=by unfold pos;simp
  simp only [qIW,p0] at h2 h3
  have g2:=(qQX (iv.go g).1)
  refine ⟨n1+n2+n3+n4+1,fun n hn=>?_⟩
  obtain ⟨k,rfl,hm⟩:=up1 hn
  have h1:=h1 k (by omega)
  rw [hp] at h1
  have h2:=h2 k (by omega)
  have h3:=h3 k (by omega)
  have e1:qCI s.toList Q=(Q.1,s,pos s.toList Q.2.1,Q.2.2.1,Q.2.2.2.length,Q.2.2.2.map qb):=by unfold qCI qCd;rw [qIW]
  have e2:qCd s.toList (tb Q.2.1,Q.2.2)=(s,pos s.toList (tb Q.2.1),Q.2.2.1,Q.2.2.2.length,Q.2.2.2.map qb):=by unfold qCd;rw [qIW]
  rw [e1] at h2
  rw [e2] at h3
  refine qA h1 (qO rfl (qA h2 (qA h3 ?_)))
  rcases sim with ⟨_,hk,_⟩|⟨hbad,hd⟩
  ·obtain ⟨k1,k2,k3,k4⟩:=hk
   rw [k1,k3,k4]
   refine qO k2 ?_
   by_cases hr:tb Q.2.1= []
   ·refine qO (decide_eq_false (show ¬pos s.toList (tb Q.2.1)<(s.size:Int) by rw [hr];unfold pos;simp [qAQ])) (qD (decide_eq_true (by simp)) (qA (h4 k (by omega)) (qD (qF _) ?_)))
    cases ho:qE8 Q.2.2.2 with
    |true=>
     rw [if_pos ⟨hp,rfl,hr,rfl⟩]
     exact qO rfl (qD (decide_eq_true (by simp)) rfl)
    |false=>
     rw [if_neg (fun h=>by cases h.2.2.2)]
     exact qD rfl (qD rfl rfl)
   ·rw [if_neg (fun h=>hr h.2.2.1)]
    have hlp:=List.length_pos_iff.2 hr
    have hsl:=qC3 g2
    exact qD (decide_eq_true (show pos s.toList (tb Q.2.1)<(s.size:Int) by rw [qAQ] at hsl;unfold pos;rw [qAQ];omega)) (qD rfl rfl)
  ·rw [if_neg (fun h=>by
    rcases hd with hd|hd
    ·rw [hd] at h;cases h.2.1
    ·rw [qRG hd] at h;cases h.2.2.2)]
   exact qD hbad (qD rfl rfl)
 ·refine ⟨n1+1,fun n hn=>?_⟩
  obtain ⟨k,rfl,hm⟩:=up1 hn
  unfold qBW
  rw [if_neg (fun h=>hp h.1)]
  exact qA (h1 k (by omega)) (qD (qDU (by rw [Bool.eq_false_iff];exact hp)) (qD rfl rfl))
theorem qLT (s:ByteArray):(qBW s).1.length≤60∧∀x∈(qBW s).1,qOm x:=by
 unfold qBW
 split
 ·rename_i h
  have g:=(qEY 4050 (.bin 1 0) (s.toList,false,[]) (qQY h.1) trivial).1
  exact ⟨g.n,g.s⟩
 ·exact ⟨by simp,fun x hx=>by cases hx⟩
theorem qOH:∀(l:List UInt8) (acc:Nat) {u:Nat},l.all qA2=true→Lib.parseUintM (2^64-1) acc l= .ok u→u=qAc acc l
 | [],acc,u,_,h=>by simp only [Lib.parseUintM] at h;cases h;rfl
 |c::r,acc,u,hd,h=>by
  simp only [List.all_cons,Bool.and_eq_true] at hd
  have hc:=hd.1
  simp only [qA2,Bool.and_eq_true,decide_eq_true_eq] at hc
  unfold Lib.parseUintM at h
  rw [qDR]
  rw [if_pos hc] at h
  by_cases h1:1844674407370955162≤acc
  ·rw [if_pos h1] at h;cases h
  ·rw [if_neg h1] at h
   by_cases h2:2^64-1<acc*10+(c.toNat-48)
   ·rw [if_pos h2] at h;cases h
   ·rw [if_neg h2] at h
    exact qOH r _ hd.2 h
theorem qQZ {p:UInt8→Bool}:∀l:List UInt8,(l.dropWhile p= [])↔l.all p=true
 | []=>by simp
 |c::r=>by
  rw [List.dropWhile_cons,List.all_cons]
  by_cases h:p c=true
  ·rw [if_pos h,h,Bool.true_and];exact qQZ r
  ·rw [if_neg h];simp [h]
theorem qQ1 {p:UInt8→Bool}:∀(l:List UInt8) {a:UInt8} {r:List UInt8},l.dropWhile p=a::r→p a=false
 | [],a,r,h=>by simp at h
 |c::l,a,r,h=>by
  rw [List.dropWhile_cons] at h
  by_cases hc:p c=true
  ·rw [if_pos hc] at h;exact qQ1 l h
  ·rw [if_neg hc] at h
   cases h
   rw [Bool.eq_false_iff];exact hc
theorem qRi:∀i:Fin 256,((⟨#[48,49,50,51,52,53,54,55,56,57]⟩:ByteArray).data.toList.contains (UInt8.ofNat i.val))=qA2 (UInt8.ofNat i.val):=by decide+kernel
theorem qQB {p:UInt8→Bool} {t:List UInt8}:((t.reverse.dropWhile p).reverse.dropWhile p= [])↔t.all p=true:=by
 rw [qQZ]
 constructor
 ·intro h
  cases hx:t.reverse.dropWhile p with
  |nil=>
   rw [qQZ] at hx
   rw [List.all_eq_true] at hx⊢
   exact fun x hx'=>hx x (by simpa using hx')
  |cons a r=>
   rw [List.all_eq_true] at h
   have h1:=h a (by rw [hx];simp)
   rw [qQ1 _ hx] at h1
   cases h1
 ·intro h
  rw [List.all_eq_true] at h⊢
  intro x hx
  rw [List.mem_reverse] at hx
  exact h x (by simpa using (List.dropWhile_suffix p).subset hx)
def qGP (s:List UInt8):List UInt8:=if s.head?=some 45 then s.tail else s
def qJT (s:List UInt8):Int:=if s.head?=some 45 then-((qAc 0 (qGP s):Nat):Int) else ((qAc 0 (qGP s):Nat):Int)
def qOn (s:List UInt8):Bool:=decide (qGP s≠ [])&&(qGP s).all qA2
def qEV (s:List UInt8):Bool:=qOn s&&okV 1 (qJT s) em
theorem qRj (s:List UInt8):(qGP s).length≤s.length:=by unfold qGP;split<;>simp
theorem qQC (s:List UInt8) (h:s.length≤1000):Ev (qDp · (BR s)) (qOn s):=by
 refine ⟨10,fun n hn=>?_⟩
 obtain ⟨k,rfl⟩:∃k,n=k+5:=⟨n-5,by omega⟩
 have tp:qDH (k+4) (BR s) ⟨#[45]⟩=some (BR (qGP s)):=by
  have hp:qz (k+2) (BR s) ⟨#[45]⟩=some (List.isPrefixOf [45] s):=by
   have:=qBV (k+1) s [45]
   simp only [qk,qBv,qC,qE,qG,qH,qJ,qK,Option.bind_some,qF,qM,qN] at this
   have e:∀o:Option Bool,(o.bind fun x=>some x)=o:=fun o=>by cases o<;>rfl
   rw [e] at this
   exact this
  have inner:qBJ (k+3) (BR s) ⟨#[45]⟩=some (BR (qGP s)):=by
   by_cases hh:s.head?=some 45
   ·rw [(qET 45 s).2 hh] at hp
    obtain ⟨t,rfl⟩:=qJa hh
    unfold qGP
    rw [if_pos hh]
    refine qA hp (qD rfl (qD (decide_eq_true ⟨by decide,by rw [qc];show (1:Int)≤_;simp;omega,Int.le_refl _⟩) ?_))
    rw [qC]
    show some ((BR (45::t)).extract 1 ((((BR (45::t)).size:Nat):Int)).toNat)=_
    rw [qFK,qc]
    simp
   ·have e:List.isPrefixOf [45] s=false:=by rw [Bool.eq_false_iff];exact fun e=>hh ((qET 45 s).1 e)
    rw [e] at hp
    unfold qGP
    rw [if_neg hh]
    exact qA hp (qO rfl rfl)
  exact qA inner rfl
 have tl:=qRj s
 unfold qOn
 generalize qGP s=t at tp tl⊢
 refine qA tp ?_
 by_cases ht:t= []
 ·subst ht
  refine qO (qCu (by rw [qAL,q9];rfl)) ?_
  rfl
 ·refine qD (qDU (by rw [beq_eq_false_iff_ne,qAL,q9];exact ht)) ?_
  have tr:qF7 (k+4) (BR t) ⟨#[48,49,50,51,52,53,54,55,56,57]⟩=some (BR (((t.reverse.dropWhile qA2).reverse).dropWhile qA2)):=by
   show zAV (BR t) ⟨#[48,49,50,51,52,53,54,55,56,57]⟩=_
   unfold zAV
   rw [if_pos ⟨by rw [qc];omega,by decide,by decide+kernel⟩]
   unfold Lib.trimS Lib.trimLeftS Lib.trimRightS
   have:(fun c=>(⟨#[48,49,50,51,52,53,54,55,56,57]⟩:ByteArray).data.toList.contains c)=qA2:=funext (qQU qRi)
   rw [this,←Go.Lib.toList_data (BR t),qAL]
   rfl
  refine qA tr ?_
  rw [qC]
  congr 1
  have dt:decide (t≠ [])=true:=decide_eq_true ht
  rw [dt,Bool.true_and,qAL,q9]
  by_cases ha:t.all qA2=true
  ·rw [qQB.2 ha,ha];rfl
  ·have hx:¬(t.reverse.dropWhile qA2).reverse.dropWhile qA2= []:=fun e=>ha (qQB.1 e)
   rw [beq_eq_false_iff_ne.2 hx,Bool.eq_false_iff.2 ha]
theorem qSZ {n:Int}:okV 1 n em=true↔-1000000000000000≤n∧n≤1000000000000000:=by
 simp [okV,em,q9]
theorem qMO {s:List UInt8} (h:qOn s=true):(∀n,Lib.parseIntB 64 s= .ok n→n=qJT s)∧(qEV s=true→Lib.parseIntB 64 s= .ok (qJT s)):=by
 have hd:=h
 unfold qOn at hd
 simp only [Bool.and_eq_true,decide_eq_true_eq] at hd
 obtain ⟨h1,h2⟩:=hd
 have p:(2:Nat)^(64-1)=9223372036854775808:=by decide
 have hne:s≠ []:=fun e=>h1 (by rw [e];rfl)
 obtain ⟨c,r,rfl⟩:∃c r,s=c::r:=by
  cases s with
  |nil=>exact absurd rfl hne
  |cons c r=>exact ⟨c,r,rfl⟩
 have c45:(c.toNat=45)↔c=45:=⟨fun e=>UInt8.toNat_inj.1 (show c.toNat=(45:UInt8).toNat from e),fun e=>by rw [e];rfl⟩
 have nt:qGP (c::r)=if c.toNat=43∨c.toNat=45 then r else c::r:=by
  unfold qGP
  by_cases hc:c=45
  ·subst hc;simp
  ·have hc2:¬c.toNat=45:=fun e=>hc (c45.1 e)
   have ht:qGP (c::r)=c::r:=by unfold qGP;rw [if_neg (by simpa using hc)]
   rw [ht] at h2
   simp only [List.all_cons,Bool.and_eq_true,qA2,decide_eq_true_eq] at h2
   rw [if_neg (by simpa using hc),if_neg (by omega)]
 have nv:qJT (c::r)=if c.toNat=45 then-((qAc 0 (qGP (c::r)):Nat):Int) else ((qAc 0 (qGP (c::r)):Nat):Int):=by
  unfold qJT
  by_cases hc:c=45
  ·subst hc;rfl
  ·rw [if_neg (by simpa using hc),if_neg (fun e=>hc (c45.1 e))]
 unfold Lib.parseIntB
 simp only
 rw [←nt]
 unfold Lib.parseUintB
 rw [if_neg h1]
 constructor
 ·intro n hn
  rcases hq:Lib.parseUintM (2^64-1) 0 (qGP (c::r)) with u|_|_
  rotate_left
  ·rw [hq] at hn;cases hn
  ·rw [hq] at hn;cases hn
  ·have hu:=qOH _ 0 h2 hq
   rw [hq] at hn
   simp only at hn
   split at hn
   ·cases hn
   ·split at hn
    ·cases hn
    ·injection hn with hn
     rw [nv,←hu,←hn]
 ·intro ho
  unfold qEV at ho
  simp only [Bool.and_eq_true] at ho
  have hb:=qSZ.1 ho.2
  have hv:qAc 0 (qGP (c::r))≤1000000000000000:=by
   rw [nv] at hb
   split at hb<;>omega
  rw [qMA _ 0 h2 (by omega)]
  simp only
  rw [if_neg (by rw [p];omega),if_neg (by rw [p];omega),nv]
def szL:List UInt8→List UInt8
 | []=> []
 |c::t=>if t≠ []∧c=48 then szL t else c::t
theorem qNK:∀l:List UInt8,qAc 0 (szL l)=qAc 0 l
 | []=>rfl
 |c::t=>by
  unfold szL
  split
  ·rename_i h
   rw [qNK t,qDR,h.2]
   rfl
  ·rfl
theorem qPh:∀l:List UInt8,(szL l).all qA2=l.all qA2
 | []=>rfl
 |c::t=>by
  unfold szL
  split
  ·rename_i h
   rw [qPh t,List.all_cons,h.2]
   simp [qA2]
  ·rfl
theorem qSH:∀l:List UInt8,l≠ []→szL l≠ []
 | [],h=>absurd rfl h
 |c::t,_=>by
  unfold szL
  split
  ·rename_i h;exact qSH t h.1
  ·simp
theorem qPi:∀l:List UInt8,(szL l).head?=some 48→(szL l).length=1
 | [],h=>by cases h
 |c::t,h=>by
  unfold szL at h⊢
  split at h
  ·rename_i hc;rw [if_pos hc];exact qPi t h
  ·rename_i hc
   rw [if_neg hc]
   have h48:c=48:=by simpa using h
   have:t= []:=Classical.byContradiction fun e=>hc ⟨e,h48⟩
   rw [this];rfl
theorem qRk {l:List UInt8} (h:l≠ []):qFR (szL l)=l.all qA2:=by
 unfold qFR
 rw [qPh]
 have h1:(szL l== [])=false:=beq_eq_false_iff_ne.2 (qSH l h)
 rw [h1]
 by_cases e:(szL l).head?=some 48
 ·rw [qPi l e];simp
 ·rw [beq_eq_false_iff_ne.2 e];simp
theorem qQD:∀(l:List UInt8) (acc:Nat),acc*10^l.length≤qAc acc l
 | [],acc=>by rw [qGC];simp
 |c::r,acc=>by
  have:=qQD r (acc*10+(c.toNat-48))
  rw [qDR,List.length_cons,Nat.pow_succ]
  refine Nat.le_trans ?_ this
  rw [show acc*(10^r.length*10)=acc*10*10^r.length by rw [Nat.mul_comm (10^r.length) 10,Nat.mul_assoc]]
  exact Nat.mul_le_mul_right _ (by omega)
theorem qSa {l:List UInt8} (hd:l.all qA2=true) (h:16<(szL l).length):10000000000000000≤qAc 0 l:=by
 rw [←qNK]
 rw [←qPh] at hd
 have hh:=qPi l
 cases hz:szL l with
 |nil=>rw [hz] at h;simp at h
 |cons c r=>
  rw [hz] at h hd hh
  simp only [List.length_cons] at h
  have hc:¬c=48:=fun e=>by
   have:=hh (by rw [e];rfl)
   simp only [List.length_cons] at this
   omega
  simp only [List.all_cons,Bool.and_eq_true,qA2,decide_eq_true_eq] at hd
  have hc2:¬c.toNat=48:=fun e=>hc (UInt8.toNat_inj.1 (show c.toNat=(48:UInt8).toNat from e))
  rw [qDR]
  have a:=qQD r (0*10+(c.toNat-48))
  have p:10^16≤10^r.length:=Nat.pow_le_pow_right (by decide) (by omega)
  have p16:(10:Nat)^16=10000000000000000:=by decide
  have:1*10^r.length≤(0*10+(c.toNat-48))*10^r.length:=Nat.mul_le_mul_right _ (by omega)
  omega
theorem qLU (n:Nat) (neg:Bool) (a b:Int) (e:ByteArray):∀(l:List UInt8) (M:Nat),l.length≤1000→l.length+1≤M→zC (qBd n) M (BR l,neg,a,b,e)=some (BR (szL l),neg,a,b,e)
 |l,0,_,h=>by omega
 | [],M+1,_,_=>qP (qO (decide_eq_false (show ¬((BR []).size:Int)>1 by rw [qc];decide)) rfl)
 |c::t,M+1,hl,h=>by
  simp only [List.length_cons] at h hl
  unfold szL
  by_cases ht:t= []
  ·rw [if_neg (fun h=>h.1 ht)]
   subst ht
   exact qP (qO (decide_eq_false (show ¬((BR [c]).size:Int)>1 by rw [qc];simp)) rfl)
  ·have hpos:=List.length_pos_iff.2 ht
   have g0:decide (((BR (c::t)).size:Int)>1)=true:=decide_eq_true (by rw [qc];simp only [List.length_cons];omega)
   have g1:(BR (c::t)).toList[((0:Int)).toNat]?=some c:=by rw [qAL];rfl
   by_cases hc:c=48
   ·rw [if_pos ⟨ht,hc⟩]
    subst hc
    rw [qX (v':=(BR t,neg,a,b,e)) (by
     refine qD g0 (qD rfl (qA g1 (qD rfl (qD (decide_eq_true ⟨by decide,by rw [qc];simp only [List.length_cons];omega,Int.le_refl _⟩) ?_))))
     rw [qC]
     show some (Sum.inl ((BR (48::t)).extract 1 ((((BR (48::t)).size:Nat):Int)).toNat,neg,a,b,e))=_
     rw [qFK,qc]
     simp)]
    exact qLU n neg a b e t M (by omega) (by omega)
   ·rw [if_neg (fun h=>hc h.2)]
    refine qP (qD g0 (qD rfl (qA g1 (qO ?_ rfl))))
    rw [beq_eq_false_iff_ne]
    intro e
    exact hc (UInt8.toNat_inj.1 (show c.toNat=48 by omega))
theorem qSb {l:List UInt8} (h:l≠ []):l1I (szL l) 16=if (szL l).length≤16∧l.all qA2=true then (((qAc 0 l:Nat):Int),true) else (0,false):=by
 unfold l1I
 rw [qRk h,qNK]
 by_cases hh:(szL l).length≤16∧l.all qA2=true
 ·rw [if_pos hh,if_pos ⟨by have:=hh.1;omega,hh.2⟩]
 ·rw [if_neg hh,if_neg (fun e=>hh ⟨by have:=e.1;omega,e.2⟩)]
theorem qQE (neg:Bool) (t:List UInt8) (ht:t≠ []) (hl:t.length≤1000):∃r:Int×Int×ByteArray×Bool,(r.2.2.2=(t.all qA2&&okV 1 (if neg=true then-((qAc 0 t:Nat):Int) else ((qAc 0 t:Nat):Int)) em))∧(r.2.2.2=true→r=(1,(if neg=true then-((qAc 0 t:Nat):Int) else ((qAc 0 t:Nat):Int)),em,true))∧
  ∃n0,∀n,n0≤n→∃v:ByteArray×Bool×Int×Int×ByteArray,zC (qBd n) n (BR t,neg,0,0,⟨#[]⟩)=some v∧
   (Tr.opt (qr n v.1 16) fun r221=>(.ask (v.2.1)
    (.ask (r221.2) (.opt (qY n 1 (IntKind.i64.wrap (0-r221.1)) ⟨#[]⟩) fun r222=>(.done ((1:Int),(IntKind.i64.wrap (0-r221.1)),(⟨#[]⟩:ByteArray),r222))) (.done ((1:Int),(IntKind.i64.wrap (0-r221.1)),(⟨#[]⟩:ByteArray),false)))
    (.ask (r221.2) (.opt (qY n 1 r221.1 ⟨#[]⟩) fun r223=>(.done ((1:Int),r221.1,(⟨#[]⟩:ByteArray),r223))) (.done ((1:Int),r221.1,(⟨#[]⟩:ByteArray),false))))).run=some r:=by
 have hi:=qDj (BR (szL t)) 16 (by decide)
 rw [qAL,qSb ht] at hi
 obtain ⟨n1,h1⟩:=hi
 by_cases hh:(szL t).length≤16∧t.all qA2=true
 ·have hv:qAc 0 t<10^(0+(szL t).length):=by
   have:=qPS (szL t) 0 0 (by rw [qPh];exact hh.2) (by decide)
   rwa [qNK] at this
  have hp:10^(0+(szL t).length)≤10^16:=Nat.pow_le_pow_right (by decide) (by omega)
  have p16:(10:Nat)^16=10000000000000000:=by decide
  have w1:IntKind.i64.wrap (0-((qAc 0 t:Nat):Int))= -((qAc 0 t:Nat):Int):=by rw [qa (by omega)];omega
  cases neg with
  |true=>
   obtain ⟨n2,h2⟩:=qAA 1 (-((qAc 0 t:Nat):Int)) em (by decide)
   refine ⟨(1,-((qAc 0 t:Nat):Int),em,okV 1 (-((qAc 0 t:Nat):Int)) em),by rw [hh.2];simp,fun e=>?_,n1+n2+t.length+1,fun n hn=>⟨_,qLU n true 0 0 _ t n hl (by omega),?_⟩⟩
   ·simp only at e;rw [e];rfl
   ·have h1:=h1 n (by omega)
    rw [if_pos hh] at h1
    have h2:=h2 n (by omega)
    rw [←w1] at h2
    refine qA h1 (qD rfl (qD rfl (qA h2 ?_)))
    rw [qC,w1];rfl
  |false=>
   obtain ⟨n2,h2⟩:=qAA 1 ((qAc 0 t:Nat):Int) em (by decide)
   refine ⟨(1,((qAc 0 t:Nat):Int),em,okV 1 ((qAc 0 t:Nat):Int) em),by rw [hh.2];simp,fun e=>?_,n1+n2+t.length+1,fun n hn=>⟨_,qLU n false 0 0 _ t n hl (by omega),?_⟩⟩
   ·simp only at e;rw [e];rfl
   ·have h1:=h1 n (by omega)
    rw [if_pos hh] at h1
    exact qA h1 (qO rfl (qD rfl (qA (h2 n (by omega)) rfl)))
 ·have hno:(t.all qA2&&okV 1 (if neg=true then-((qAc 0 t:Nat):Int) else ((qAc 0 t:Nat):Int)) em)=false:=by
   rw [Bool.eq_false_iff]
   intro e
   simp only [Bool.and_eq_true] at e
   have hb:=qSZ.1 e.2
   have:16<(szL t).length:=by
    have:¬(szL t).length≤16:=fun h=>hh ⟨h,e.1⟩
    omega
   have:=qSa e.1 this
   split at hb<;>omega
  cases neg with
  |true=>
   refine ⟨(1,IntKind.i64.wrap (0-0),em,false),hno.symm,(fun e=>by cases e),n1+t.length+1,fun n hn=>⟨_,qLU n true 0 0 _ t n hl (by omega),?_⟩⟩
   have h1:=h1 n (by omega)
   rw [if_neg hh] at h1
   exact qA h1 (qD rfl (qO rfl rfl))
  |false=>
   refine ⟨(1,0,em,false),hno.symm,(fun e=>by cases e),n1+t.length+1,fun n hn=>⟨_,qLU n false 0 0 _ t n hl (by omega),?_⟩⟩
   have h1:=h1 n (by omega)
   rw [if_neg hh] at h1
   exact qA h1 (qO rfl (qO rfl rfl))
theorem qQF (s:List UInt8) (hs:s≠ []) (hl:s.length≤1000):∃r:Int×Int×ByteArray×Bool,r.2.2.2=qEV s∧(qEV s=true→r=(1,qJT s,em,true))∧Ev (qFE · (BR s)) r:=by
 obtain ⟨c,t,rfl⟩:∃c t,s=c::t:=by
  cases s with
  |nil=>exact absurd rfl hs
  |cons c t=>exact ⟨c,t,rfl⟩
 simp only [List.length_cons] at hl
 have g0:decide (((BR (c::t)).size:Int)>0)=true:=decide_eq_true (by rw [qc];simp only [List.length_cons];omega)
 have g1:(BR (c::t)).toList[((0:Int)).toNat]?=some c:=by rw [qAL];rfl
 by_cases hc:c=45
 ·subst hc
  have ext:(BR (45::t)).extract ((1:Int)).toNat ((((BR (45::t)).size:Nat):Int)).toNat=BR t:=by rw [qFK,qc];simp
  have g2:decide (0≤(1:Int)∧(1:Int)≤((BR (45::t)).size:Int)∧((BR (45::t)).size:Int)≤((BR (45::t)).size:Int))=true:=decide_eq_true ⟨by decide,by rw [qc];simp only [List.length_cons];omega,Int.le_refl _⟩
  have nt:qGP (45::t)=t:=rfl
  have nv:qJT (45::t)= -((qAc 0 t:Nat):Int):=rfl
  by_cases ht:t= []
  ·subst ht
   refine ⟨(0,0,⟨#[]⟩,false),by decide+kernel,(fun e=>by revert e;decide+kernel),1,fun n hn=>?_⟩
   obtain ⟨k,rfl,hm⟩:=up1 hn
   exact qD g0 (qD rfl (qA g1 (qD rfl (qD g2 (qD (by rw [ext,qAL,q9];rfl) rfl)))))
  ·obtain ⟨r,r1,r2,n0,h0⟩:=qQE true t ht (by omega)
   have e:qEV (45::t)=(t.all qA2&&okV 1 (-((qAc 0 t:Nat):Int)) em):=by
    unfold qEV qOn
    rw [nt,nv,decide_eq_true ht,Bool.true_and]
   rw [if_pos rfl] at r1 r2
   refine ⟨r,by rw [e];exact r1,fun h=>by rw [nv];exact r2 (by rw [r1,←e];exact h),n0+1,fun n hn=>?_⟩
   obtain ⟨k,rfl,hm⟩:=up1 hn
   obtain ⟨v,lp,fin⟩:=h0 k (by omega)
   rw [←ext] at lp
   exact qD g0 (qD rfl (qA g1 (qD rfl (qD g2 (qO (by rw [ext,beq_eq_false_iff_ne,qAL,q9];exact ht) (qA lp fin))))))
 ·have c45:((c.toNat:Int)==45)=false:=by
   rw [beq_eq_false_iff_ne];intro e
   exact hc (UInt8.toNat_inj.1 (show c.toNat=45 by omega))
  have hh:¬(c::t).head?=some 45:=by simpa using hc
  have nt:qGP (c::t)=c::t:=by unfold qGP;rw [if_neg hh]
  have nv:qJT (c::t)=((qAc 0 (c::t):Nat):Int):=by unfold qJT;rw [if_neg hh,nt]
  obtain ⟨r,r1,r2,n0,h0⟩:=qQE false (c::t) (by simp) (by simp only [List.length_cons];omega)
  have e:qEV (c::t)=((c::t).all qA2&&okV 1 (((qAc 0 (c::t):Nat):Int)) em):=by
   unfold qEV qOn
   rw [nt,nv,decide_eq_true (by simp),Bool.true_and]
  rw [if_neg (by simp)] at r1 r2
  refine ⟨r,by rw [e];exact r1,fun h=>by rw [nv];exact r2 (by rw [r1,←e];exact h),n0+1,fun n hn=>?_⟩
  obtain ⟨k,rfl,hm⟩:=up1 hn
  obtain ⟨v,lp,fin⟩:=h0 k (by omega)
  rw [←c45] at lp
  exact qD g0 (qD rfl (qA g1 (qO c45 (qO (by rw [beq_eq_false_iff_ne,qAL,q9];simp) (qA lp fin)))))
def qDM (s:ByteArray):ByteArray×Bool:=
 if qBt s 200=false then (⟨#[]⟩,false) else if s.toList= [] then (⟨#[]⟩,true) else
 if s.toList.head?=some 61 then (if (qBW (BR s.toList.tail)).2=true∧(qCv (qBW (BR s.toList.tail)).1).toList≠ []∧(qCv (qBW (BR s.toList.tail)).1).size<200 then (⟨#[61]⟩++qCv (qBW (BR s.toList.tail)).1,true) else (⟨#[]⟩,false)) else
 if qEV s.toList=true then (qDz (qJT s.toList),true) else
 if (qh s).2.2.2=true then (s,true) else
 if s.size=200 then (⟨#[]⟩,false) else (⟨#[39]⟩++s,true)
theorem qQa (t:ByteArray):Ev (qBc · ((qBW t).1.map qb)) (qCv (qBW t).1):=qJz _ (by have:=(qLT t).1;omega) (qJe (qLT t).2)
theorem qQb (t:ByteArray):Ev (qBi · ((qBW t).1.map qb)) (qCv (qBW t).1):=qJ0 _ (by have:=(qLT t).1;omega) (qJe (qLT t).2)
theorem qOI (l:List Nd):(qCv l).size≤200:=by
 unfold qCv
 split
 ·split
  ·decide
  ·omega
 ·decide
theorem qGL {s:ByteArray} (h:s.toList≠ []):(s.toList==(⟨#[]⟩:ByteArray).toList)=false:=by rw [q9];exact beq_eq_false_iff_ne.2 h
theorem qOJ {s:ByteArray} (h:s.toList= []):(s.toList==(⟨#[]⟩:ByteArray).toList)=true:=by rw [q9];exact beq_iff_eq.2 h
theorem qQG {s:ByteArray} (h:(qh s).2.2.2=true):okV (qh s).1 (qh s).2.1 (qh s).2.2.1=true∧(qBx (qh s).1 (qh s).2.1 (qh s).2.2.1)=s:=by
 unfold qh at h⊢
 split at h
 ·rename_i hc
  rw [if_pos hc]
  exact ⟨hc.1,qER hc.2⟩
 ·cases h
theorem qS1 {s:ByteArray} (h:qBt s 200=true):okV 2 0 s=true:=by
 unfold okV
 rw [if_pos rfl,h]
 rfl
theorem qH5 {s:ByteArray} (h:qBt s 200=true):s.size≤200:=by have:=qJd h;rw [qAQ] at this;exact this
theorem qRl (s:ByteArray):(qBx 2 0 s).size=s.size+1:=by
 have e:qBx 2 0 s=⟨#[39]⟩++s:=rfl
 rw [e,ByteArray.size_append]
 show 1+s.size=_
 omega
theorem qRH {s:ByteArray} (h:(qh s).2.2.2=true):(qh s).2.2.1.size≤1000:=by
 obtain ⟨h1,h2⟩:=qQG h
 unfold okV at h1
 split at h1
 ·simp only [Bool.and_eq_true] at h1
  have:=qH5 h1.2;omega
 ·simp only [Bool.and_eq_true,beq_iff_eq] at h1
  have:=congrArg List.length h1.1
  rw [qAQ] at this
  simp only [List.length_nil] at this
  omega
theorem qIX (s:ByteArray) (hb:s.size≤140737488355328):Ev (qCo · s) (qDM s):=by
 obtain ⟨n1,h1⟩:=qHW s hb
 unfold qDM
 cases hp:qBt s 200 with
 |false=>
  rw [if_pos rfl]
  refine ⟨n1+1,fun n hn=>?_⟩
  obtain ⟨k,rfl,hm⟩:=up1 hn
  exact qA (h1 k (by omega)) (qD (qDU hp) rfl)
 |true=>
  rw [if_neg (by simp)]
  have hsz:=qH5 hp
  by_cases h0:s.toList= []
  ·rw [if_pos h0]
   refine ⟨n1+1,fun n hn=>?_⟩
   obtain ⟨k,rfl,hm⟩:=up1 hn
   exact qA (h1 k (by omega)) (qO (qCu hp) (qD (qOJ h0) rfl))
  ·rw [if_neg h0]
   obtain ⟨c,t,hct⟩:∃c t,s.toList=c::t:=by
    cases h:s.toList with
    |nil=>exact absurd h h0
    |cons c t=>exact ⟨c,t,rfl⟩
   have g1:s.toList[((0:Int)).toNat]?=some c:=by rw [hct];rfl
   have hl:s.size=t.length+1:=by rw [←qAQ,hct];rfl
   by_cases h61:s.toList.head?=some 61
   ·rw [if_pos h61]
    have hc:c=61:=by rw [hct] at h61;simpa using h61
    subst hc
    have ext:s.extract ((1:Int)).toNat (((s.size:Nat):Int)).toNat=BR s.toList.tail:=by
     conv=>lhs;rw [←qIW s]
     rw [qFK,qc,hct]
     simp
    obtain ⟨n2,h2⟩:=qJ2 (BR s.toList.tail) (by rw [qc,hct];simp;omega)
    obtain ⟨n3,h3⟩:=qQa (BR s.toList.tail)
    rw [←ext] at h2 h3⊢
    have fz:=qOI (qBW (s.extract ((1:Int)).toNat (((s.size:Nat):Int)).toNat)).1
    have w1:IntKind.i64.wrap (((qCv (qBW (s.extract ((1:Int)).toNat (((s.size:Nat):Int)).toNat)).1).size:Int)+1)=((qCv (qBW (s.extract ((1:Int)).toNat (((s.size:Nat):Int)).toNat)).1).size:Int)+1:=qa (by omega)
    refine ⟨n1+n2+n3+1,fun n hn=>?_⟩
    obtain ⟨k,rfl,hm⟩:=up1 hn
    refine qA (h1 k (by omega)) (qO (qCu hp) (qO (qGL h0) (qD rfl (qA g1 (qD rfl (qD (decide_eq_true ⟨by decide,by omega,Int.le_refl _⟩) (qA (h2 k (by omega)) (qA (h3 k (by omega)) ?_))))))))
    by_cases hr:(qBW (s.extract ((1:Int)).toNat (((s.size:Nat):Int)).toNat)).2=true
    ·refine qO (qCu hr) ?_
     by_cases he:(qCv (qBW (s.extract ((1:Int)).toNat (((s.size:Nat):Int)).toNat)).1).toList= []
     ·rw [if_neg (fun h=>h.2.1 he)]
      exact qD (qOJ he) rfl
     ·refine qO (qGL he) ?_
      by_cases hz:(qCv (qBW (s.extract ((1:Int)).toNat (((s.size:Nat):Int)).toNat)).1).size<200
      ·rw [if_pos ⟨hr,he,hz⟩]
       exact qO (decide_eq_false (by rw [w1];omega)) (qD (decide_eq_true (by show 1+(qCv (qBW (s.extract ((1:Int)).toNat (((s.size:Nat):Int)).toNat)).1).size≤9223372036854775807;omega)) rfl)
      ·rw [if_neg (fun h=>hz h.2.2)]
       exact qD (decide_eq_true (by rw [w1];omega)) rfl
    ·rw [if_neg (fun h=>hr h.1)]
     exact qD (qDU (by rw [Bool.eq_false_iff];exact hr)) rfl
   ·rw [if_neg h61]
    have hc:((c.toNat:Int)==61)=false:=by
     rw [beq_eq_false_iff_ne];intro e
     refine h61 ?_
     rw [hct,show c=61 from UInt8.toNat_inj.1 (show c.toNat=61 by omega)];rfl
    obtain ⟨r,r1,r2,n2,h2⟩:=qQF s.toList h0 (by rw [qAQ];omega)
    rw [qIW] at h2
    obtain ⟨n3,h3⟩:=qGf s (by omega)
    cases hn:qEV s.toList with
    |true=>
     rw [if_pos rfl]
     have er:=r2 hn
     subst er
     have hok:okV 1 (qJT s.toList) em=true:=by unfold qEV at hn;simp only [Bool.and_eq_true] at hn;exact hn.2
     obtain ⟨n4,h4⟩:=qC9 1 (qJT s.toList) em (by decide)
     rw [if_pos hok] at h4
     refine ⟨n1+n2+n4+1,fun n hn=>?_⟩
     obtain ⟨k,rfl,hm⟩:=up1 hn
     exact qA (h1 k (by omega)) (qO (qCu hp) (qO (qGL h0) (qD rfl (qA g1 (qO hc (qA (h2 k (by omega)) (qD rfl (qA (h4 k (by omega)) rfl))))))))
    |false=>
     rw [if_neg (by simp)]
     have rf:r.2.2.2=false:=by rw [r1];exact hn
     by_cases hv:(qh s).2.2.2=true
     ·rw [if_pos hv]
      obtain ⟨v1,v2⟩:=qQG hv
      obtain ⟨n4,h4⟩:=qC9 (qh s).1 (qh s).2.1 (qh s).2.2.1 (by have:=qRH hv;omega)
      rw [if_pos v1,v2] at h4
      refine ⟨n1+n2+n3+n4+1,fun n hn=>?_⟩
      obtain ⟨k,rfl,hm⟩:=up1 hn
      exact qA (h1 k (by omega)) (qO (qCu hp) (qO (qGL h0) (qD rfl (qA g1 (qO hc (qA (h2 k (by omega)) (qO rf (qA (h3 k (by omega)) (qO (qCu hv) (qA (h4 k (by omega)) (qO (decide_eq_false (by omega)) rfl)))))))))))
     ·rw [if_neg hv]
      obtain ⟨n4,h4⟩:=qC9 2 0 s (by omega)
      rw [if_pos (qS1 hp)] at h4
      have vz:=qRl s
      refine ⟨n1+n2+n3+n4+1,fun n hn=>?_⟩
      obtain ⟨k,rfl,hm⟩:=up1 hn
      refine qA (h1 k (by omega)) (qO (qCu hp) (qO (qGL h0) (qD rfl (qA g1 (qO hc (qA (h2 k (by omega)) (qO rf (qA (h3 k (by omega)) (qD (qDU (by rw [Bool.eq_false_iff];exact hv)) (qA (h4 k (by omega)) ?_))))))))))
      by_cases hz:s.size=200
      ·rw [if_pos hz]
       exact qD (decide_eq_true (by omega)) rfl
      ·rw [if_neg hz]
       exact qO (decide_eq_false (by omega)) rfl
theorem qQH (X:ByteArray):Ev (qFG · ((qBW X).1.map qb)) (⟨#[61]⟩++qCv (qBW X).1,decide ((qCv (qBW X).1).toList≠ [])&&decide ((qCv (qBW X).1).size<200)):=by
 obtain ⟨n1,h1⟩:=qQb X
 have fz:=qOI (qBW X).1
 refine ⟨n1+1,fun n hn=>?_⟩
 obtain ⟨k,rfl,hm⟩:=up1 hn
 refine qA (h1 k (by omega)) (qD (decide_eq_true (by show 1+(qCv (qBW X).1).size≤9223372036854775807;omega)) ?_)
 by_cases he:(qCv (qBW X).1).toList= []
 ·refine qO (qCu (qOJ he)) ?_
  rw [qC,decide_eq_false (fun h=>h he),Bool.false_and]
 ·refine qD (qDU (qGL he)) ?_
  rw [qC,decide_eq_true he,Bool.true_and]
  have e:decide (((qCv (qBW X).1).size:Int)<200)=decide ((qCv (qBW X).1).size<200):=by rw [decide_eq_decide];omega
  exact congrArg (fun b:Bool=>some ((⟨#[61]⟩:ByteArray)++qCv (qBW X).1,b)) e
theorem qNB (s:ByteArray) (hb:s.size≤140737488355328):Ev (qF8 · s) (qDM s):=by
 obtain ⟨n1,h1⟩:=qIR s 200 hb
 unfold qDM
 cases hp:qBt s 200 with
 |false=>
  rw [if_pos rfl]
  have h0:s.toList≠ []:=fun e=>by
   have:qBt s 200=true:=by
    unfold qBt
    have hz:s.size=0:=by rw [←qAQ,e];rfl
    rw [e,hz];rfl
   rw [hp] at this;cases this
  refine ⟨n1+1,fun n hn=>?_⟩
  obtain ⟨k,rfl,hm⟩:=up1 hn
  refine qA (h1 k (by omega)) (qD (qDU hp) ?_)
  rw [qC,qGL h0]
 |true=>
  rw [if_neg (by simp)]
  have hsz:=qH5 hp
  by_cases h0:s.toList= []
  ·rw [if_pos h0]
   refine ⟨n1+1,fun n hn=>?_⟩
   obtain ⟨k,rfl,hm⟩:=up1 hn
   refine qA (h1 k (by omega)) (qO (qCu hp) (qD (qOJ h0) ?_))
   rw [qC,qOJ h0]
  ·rw [if_neg h0]
   obtain ⟨n2,h2⟩:=qFU s 61
   by_cases h61:s.toList.head?=some 61
   ·rw [if_pos h61]
    rw [if_pos h61] at h2
    obtain ⟨n3,h3⟩:=qJ1 (BR s.toList.tail) (by rw [qc,List.length_tail,qAQ];omega)
    obtain ⟨n4,h4⟩:=qQH (BR s.toList.tail)
    change ∀n,n2≤n→qAC n s ⟨#[61]⟩=some (BR s.toList.tail,true) at h2
    generalize BR s.toList.tail=X at h2 h3 h4⊢
    refine ⟨n1+n2+n3+n4+1,fun n hn=>?_⟩
    obtain ⟨k,rfl,hm⟩:=up1 hn
    have h4:=h4 k (by omega)
    refine qA (h1 k (by omega)) (qO (qCu hp) (qO (qGL h0) (qA (h2 k (by omega)) (qD rfl (qA (h3 k (by omega)) (qA h4 ?_))))))
    by_cases hr:(qBW X).2=true
    ·refine qO (qCu hr) ?_
     by_cases he:(qCv (qBW X).1).toList≠ []∧(qCv (qBW X).1).size<200
     ·rw [if_pos ⟨hr,he⟩]
      exact qO (qCu (by simp only;rw [decide_eq_true he.1,decide_eq_true he.2];rfl)) rfl
     ·rw [if_neg (fun h=>he h.2)]
      exact qD (qDU (by simp only;rw [Bool.eq_false_iff];intro e;simp only [Bool.and_eq_true,decide_eq_true_eq] at e;exact he e)) rfl
    ·rw [if_neg (fun h=>hr h.1)]
     exact qD (qDU (by rw [Bool.eq_false_iff];exact hr)) rfl
   ·rw [if_neg h61]
    rw [if_neg h61] at h2
    obtain ⟨n3,h3⟩:=qGe s (by omega)
    obtain ⟨n4,h4⟩:=qQC s.toList (by rw [qAQ];omega)
    rw [qIW] at h4
    have fin:∀k,n3≤k→(Tr.opt (qe k s) fun r=>(.ask (r.2.2.2) (.done (s,true)) (.ask (((s.size:Int)==(200:Int))) (.done ((⟨#[]⟩:ByteArray),false)) (.ask (decide ((⟨#[39]⟩:ByteArray).size+s.size≤9223372036854775807)) (.done (((⟨#[39]⟩:ByteArray)++s),true)) .fail)))).run=some (if (qh s).2.2.2=true then (s,true) else if s.size=200 then ((⟨#[]⟩:ByteArray),false) else (⟨#[39]⟩++s,true)):=fun k hk=>by
     refine qA (h3 k hk) ?_
     by_cases hv:(qh s).2.2.2=true
     ·rw [if_pos hv];exact qD hv rfl
     ·rw [if_neg hv]
      refine qO (by rw [Bool.eq_false_iff];exact hv) ?_
      by_cases hz:s.size=200
      ·rw [if_pos hz];exact qD (beq_iff_eq.2 (by omega)) rfl
      ·rw [if_neg hz]
       exact qO (beq_eq_false_iff_ne.2 (by omega)) (qD (decide_eq_true (by show 1+s.size≤9223372036854775807;omega)) rfl)
    have hpi:∀k,qAt (k+1) s 10 64=zK s 10 64:=fun k=>rfl
    have hL:zK s 10 64=(match Lib.parseIntB 64 s.toList with
     | .ok v=>some (.inl v)
     | .range=>some (.inr (Lib.intSat 64 s.toList))
     |_=>some (.inr 0)):=by
     unfold zK
     rw [if_pos ⟨rfl,rfl,by omega⟩,Go.Lib.toList_data]
     cases Lib.parseIntB 64 s.data.toList<;>rfl
    rcases hq:Lib.parseIntB 64 s.toList with v|_|_
    rotate_left
    ·have hn:qEV s.toList=false:=by
      rw [Bool.eq_false_iff];intro e
      have hd:qOn s.toList=true:=by unfold qEV at e;simp only [Bool.and_eq_true] at e;exact e.1
      have:=(qMO hd).2 e
      rw [hq] at this;cases this
     rw [hn,if_neg (by simp)]
     rw [hq] at hL
     refine ⟨n1+n2+n3+2,fun n hn=>?_⟩
     obtain ⟨k,rfl,hm⟩:=up1 hn
     obtain ⟨k,rfl,hm⟩:=up1 (show n1+n2+n3+1≤k by omega)
     exact qA (h1 (k+1) (by omega)) (qO (qCu hp) (qO (qGL h0) (qA (h2 (k+1) (by omega)) (qO rfl (qA ((hpi k).trans hL) (qO rfl (fin (k+1) (by omega))))))))
    ·have hn:qEV s.toList=false:=by
      rw [Bool.eq_false_iff];intro e
      have hd:qOn s.toList=true:=by unfold qEV at e;simp only [Bool.and_eq_true] at e;exact e.1
      have:=(qMO hd).2 e
      rw [hq] at this;cases this
     rw [hn,if_neg (by simp)]
     rw [hq] at hL
     refine ⟨n1+n2+n3+2,fun n hn=>?_⟩
     obtain ⟨k,rfl,hm⟩:=up1 hn
     obtain ⟨k,rfl,hm⟩:=up1 (show n1+n2+n3+1≤k by omega)
     exact qA (h1 (k+1) (by omega)) (qO (qCu hp) (qO (qGL h0) (qA (h2 (k+1) (by omega)) (qO rfl (qA ((hpi k).trans hL) (qO rfl (fin (k+1) (by omega))))))))
    ·rw [hq] at hL
     cases hd:qOn s.toList with
     |false=>
      have hn:qEV s.toList=false:=by unfold qEV;rw [hd];rfl
      rw [hn,if_neg (by simp)]
      refine ⟨n1+n2+n3+n4+2,fun n hn=>?_⟩
      obtain ⟨k,rfl,hm⟩:=up1 hn
      obtain ⟨k,rfl,hm⟩:=up1 (show n1+n2+n3+n4+1≤k by omega)
      have h4:=h4 (k+1) (by omega)
      rw [hd] at h4
      exact qA (h1 (k+1) (by omega)) (qO (qCu hp) (qO (qGL h0) (qA (h2 (k+1) (by omega)) (qO rfl (qA ((hpi k).trans hL) (qD rfl (qA h4 (qO rfl (fin (k+1) (by omega))))))))))
     |true=>
      have hv:=(qMO hd).1 v hq
      subst hv
      obtain ⟨n5,h5⟩:=qJG (qJT s.toList)
      obtain ⟨n6,h6⟩:=qFI 1 (qJT s.toList) em (by decide)
      have ei:qEV s.toList=okV 1 (qJT s.toList) em:=by unfold qEV;rw [hd,Bool.true_and]
      rw [ei]
      cases ho:okV 1 (qJT s.toList) em with
      |true=>
       rw [if_pos rfl]
       have hb2:=qSZ.1 ho
       obtain ⟨n7,h7⟩:=qDq (qJT s.toList) (by omega)
       refine ⟨n1+n2+n3+n4+n5+n6+n7+2,fun n hn=>?_⟩
       obtain ⟨k,rfl,hm⟩:=up1 hn
       obtain ⟨k,rfl,hm⟩:=up1 (show n1+n2+n3+n4+n5+n6+n7+1≤k by omega)
       have h4:=h4 (k+1) (by omega)
       rw [hd] at h4
       exact qA (h1 (k+1) (by omega)) (qO (qCu hp) (qO (qGL h0) (qA (h2 (k+1) (by omega)) (qO rfl (qA ((hpi k).trans hL) (qD rfl (qA h4 (qD rfl (qA (h5 (k+1) (by omega)) (qA (h6 (k+1) (by omega)) (qD ho (qA (h7 (k+1) (by omega)) rfl))))))))))))
      |false=>
       rw [if_neg (by simp)]
       refine ⟨n1+n2+n3+n4+n5+n6+2,fun n hn=>?_⟩
       obtain ⟨k,rfl,hm⟩:=up1 hn
       obtain ⟨k,rfl,hm⟩:=up1 (show n1+n2+n3+n4+n5+n6+1≤k by omega)
       have h4:=h4 (k+1) (by omega)
       rw [hd] at h4
       exact qA (h1 (k+1) (by omega)) (qO (qCu hp) (qO (qGL h0) (qA (h2 (k+1) (by omega)) (qO rfl (qA ((hpi k).trans hL) (qD rfl (qA h4 (qD rfl (qA (h5 (k+1) (by omega)) (qA (h6 (k+1) (by omega)) (qO ho (fin (k+1) (by omega)))))))))))))
abbrev Cl:=Int×Int×ByteArray
def qRI (s:ByteArray):Bool:=(qDM s).2&&(decide (s.toList≠ [])&&((qDM s).1.toList==s.toList))
theorem qMY (s:ByteArray) (hb:s.size≤140737488355328):Ev (qC5 · s) (qRI s):=by
 obtain ⟨n1,h1⟩:=qNB s hb
 refine ⟨n1+1,fun n hn=>?_⟩
 obtain ⟨k,rfl,hm⟩:=up1 hn
 refine qA (h1 k (by omega)) ?_
 unfold qRI
 by_cases h2:(qDM s).2=true
 ·refine qD h2 ?_
  rw [h2,Bool.true_and]
  by_cases h3:s.toList= []
  ·refine qO (qCu (qOJ h3)) ?_
   rw [qC,decide_eq_false (fun e=>e h3),Bool.false_and]
  ·refine qD (qDU (qGL h3)) ?_
   rw [qC,decide_eq_true h3,Bool.true_and]
 ·have h2:(qDM s).2=false:=by rw [Bool.eq_false_iff];exact h2
  refine qO h2 ?_
  rw [qC,h2,Bool.false_and]
structure SrcAt (n:Nat) (c:Cl):Prop where
 r1:qy n c.1 c.2.1=some (qA5 c.1 c.2.1)
 r2:qBS n c.1 c.2.1=some (qA5 c.1 c.2.1)
 i1:qCo n c.2.2=some (qDM c.2.2)
 i2:qC5 n c.2.2=some (qRI c.2.2)
def Fo (r:List UInt8):Prop:=∀c,r.head?=some c→c∈([38,43,45,42,47,60,61,62,41,44]:List UInt8)
def Sta (r:List UInt8):Prop:=∃c,r.head?=some c∧(wch c=true∨c=45∨c=40∨c=34∨c=35)
theorem qSc (a b:ByteArray):(a++b).toList=a.toList++b.toList:=by rw [Go.Lib.toList_data,qC2,Go.Lib.toList_data,Go.Lib.toList_data]
def lo (l:List Nd) (i:Int):Int:=qCc (qU l) (i.toNat+1) i
def tx (l:List Nd) (g:Nat) (i t:Int):List UInt8:=(qq l g i t).toList
structure RT (l:List Nd) (g:Nat) (i:Int):Prop where
 s:∀t,Sta (tx l g i t)
 c:∀(t:Int) (r:List UInt8),Fo r→∀d:UInt8,(d=58∨d=32)→(wr (tx l g i t++r)).head?≠some d
 u:∀(r:List UInt8) (deep:Int) (f:Nat),Fo r→0≤deep→deep+g≤400→20*(tx l g i 5++r).length+4≤f→pP f (.un deep) (tx l g i 5++r,false,l.take (lo l i).toNat)=(i,r,false,l.take (i.toNat+1))
 b:∀(t t':Int) (r:List UInt8) (deep:Int) (f:Nat),1≤t→t≤t'→t'≤5→Fo r→(qAq r=0∨lvl (qAq r)≤t')→0≤deep→deep+g≤400→20*(tx l g i t'++r).length+6≤f→
  ∃f2,20*r.length+5≤f2∧pP f (.bin t deep) (tx l g i t'++r,false,l.take (lo l i).toNat)=pP f2 (.loop t deep i) (r,false,l.take (i.toNat+1))
def Dwx {β:Type} (Q:β→Prop) (R:Nat→Tr β):Prop:=∃x,Q x∧Ev (fun n=>(R n).run) x
theorem qDV {α β:Type} {Q:β→Prop} {F:Nat→Option α} {r:α} {K:Nat→α→Tr β} (h:Ev F r) (hk:Dwx Q fun n=>K n r):Dwx Q fun n=> .opt (F n) (K n):=by
 obtain ⟨x,q,n1,h1⟩:=hk
 obtain ⟨n0,h0⟩:=h
 exact ⟨x,q,n0+n1,fun n hn=>qA (h0 n (by omega)) (h1 n (by omega))⟩
theorem qEW {β:Type} {Q:β→Prop} {b:Bool} {t e:Nat→Tr β} (h:b=true) (hk:Dwx Q t):Dwx Q fun n=> .ask b (t n) (e n):=by
 obtain ⟨x,q,n1,h1⟩:=hk
 exact ⟨x,q,n1,fun n hn=>qD h (h1 n hn)⟩
theorem qH6 {β:Type} {Q:β→Prop} {b:Bool} {t e:Nat→Tr β} (h:b=false) (hk:Dwx Q e):Dwx Q fun n=> .ask b (t n) (e n):=by
 obtain ⟨x,q,n1,h1⟩:=hk
 exact ⟨x,q,n1,fun n hn=>qO h (h1 n hn)⟩
theorem qBC {β:Type} {Q:β→Prop} {x:β} (h:Q x):Dwx Q fun _=> .done x:=⟨x,h,0,fun _ _=>rfl⟩
theorem qJU {β:Type} {Q:β→Prop} {F:Nat→Option β} {R:Nat→Tr β} (h:Dwx Q R) (hF:∀n,F (n+1)=(R n).run):∃x,Q x∧Ev F x:=by
 obtain ⟨x,q,n1,h1⟩:=h
 refine ⟨x,q,n1+1,fun n hn=>?_⟩
 obtain ⟨m,rfl,hm⟩:=up1 hn
 rw [hF]
 exact h1 m hm
theorem qMZ {β:Type} {F:Nat→Option β} {x:β} (h:∃y,y=x∧Ev F y):Ev F x:=by
 obtain ⟨y,rfl,h⟩:=h
 exact h
theorem qRm {s:ByteArray} (h:s.toList.all okc=true) (h2:s.size≤200):qBt s 200=true:=by
 unfold qBt
 rw [h,Bool.true_and,decide_eq_true_eq]
 omega
def qOK {α R:Type} (f:Nat→α→Option R):Nat→List α→Option R
 |_,[]=>none
 |i,a::r=>match f i a with
  |some x=>some x
  |none=>qOK f (i+1) r
theorem qSB {V R α:Type} {B:V→Tr (V⊕R)} (st:Nat→V) (l:List α) (f:Nat→α→Option R) (z:R) (hs:∀i a,l[i]?=some a→(B (st i)).run=some (match f i a with|some r=> .inr r|none=> .inl (st (i+1))))
  (he:(B (st l.length)).run=some (.inr z)):∀(M:Nat),l.length+1≤M→zC B M (st 0)=some ((qOK f 0 l).getD z):=by
 have key:∀(r:List α) (i M:Nat),l.drop i=r→i+r.length=l.length→r.length+1≤M→zC B M (st i)=some ((qOK f i r).getD z):=by
  intro r
  induction r with
  |nil=>
   intro i M h1 h2 h3
   obtain ⟨M,rfl⟩:∃q,M=q+1:=⟨M-1,by omega⟩
   have e:i=l.length:=by simpa using h2
   subst e
   rw [qP he]
   rfl
  |cons a r ih=>
   intro i M h1 h2 h3
   obtain ⟨M,rfl⟩:∃q,M=q+1:=⟨M-1,by omega⟩
   have hg:l[i]?=some a:=by rw [←List.head?_drop,h1];rfl
   have hd:l.drop (i+1)=r:=by rw [←List.tail_drop,h1];rfl
   have h4:=hs i a hg
   simp only [List.length_cons] at h2 h3
   unfold qOK
   cases hf:f i a with
   |some x=>rw [hf] at h4;rw [qP h4];rfl
   |none=>rw [hf] at h4;rw [qX h4];exact ih (i+1) M hd (by omega) (by omega)
 exact fun M h=>key l 0 M rfl (by omega) h
def qFZ {α:Type} (p:Nat→α→Bool):Nat→List α→Bool
 |_,[]=>true
 |i,a::r=>p i a&&qFZ p (i+1) r
theorem qOL {α R:Type} {p:Nat→α→Bool} {e:R}:∀{l:List α} {i:Nat},qOK (fun i a=>if p i a=true then none else some e) i l=if qFZ p i l=true then none else some e
 | [],i=>rfl
 |a::r,i=>by
  unfold qOK qFZ
  cases p i a with
  |true=>simp only [if_true,Bool.true_and];exact qOL
  |false=>rfl
theorem qPj {i:Nat} {k:Int} {l:List (List PV)} {e:List PV} (hk:k=(i:Int)) (h:l[i]?=some e):decide (0≤k∧k<l.length)=true∧l[k.toNat]?=some e:=by
 subst hk
 have:=(List.getElem?_eq_some_iff.1 h).1
 exact ⟨decide_eq_true (by omega),by rw [Int.toNat_natCast];exact h⟩
theorem qSt {F:Nat→Option Int} {T:Nat→Tr Bool} (h:∃N,∀n,N≤n→∃r,F n=some r) (hk:Dwx (· =true) T):Dwx (· =true) fun n=> .opt (F n) fun r=> .ask (decide (r<0)) (.done true) (T n):=by
 obtain ⟨x,rfl,n1,h1⟩:=hk
 obtain ⟨n0,h0⟩:=h
 refine ⟨true,rfl,n0+n1,fun n hn=>?_⟩
 obtain ⟨r,hr⟩:=h0 n (by omega)
 refine qA hr ?_
 by_cases h2:r<0
 ·exact qD (decide_eq_true h2) rfl
 ·exact qO (decide_eq_false h2) (h1 n (by omega))
abbrev Sm:=Int×Int×Int×ByteArray×Int
def qBB (c:Sm):List PV:= [.i .i64 c.1,.i .i64 c.2.1,.i .i64 c.2.2.1,.s c.2.2.2.1,.i .i64 c.2.2.2.2]
theorem qSC {rows:List (List PV)} (h:∀e∈rows,okR [.i .i64,.i .i64,.i .i64,.s,.i .i64] e):∃l:List Sm,rows=l.map qBB∧∀c∈l,c.2.2.2.1.size≤140737488351232:=by
 refine qPn (enc:=qBB) (P:=fun c=>c.2.2.2.1.size≤140737488351232) (fun e he=>?_) h
 obtain ⟨a,r1,rfl,p1,g1⟩:=zBb he
 obtain ⟨b,r2,rfl,p2,g2⟩:=zBb g1
 obtain ⟨c,r3,rfl,p3,g3⟩:=zBb g2
 obtain ⟨d,r4,rfl,p4,g4⟩:=zBb g3
 obtain ⟨f,r5,rfl,p5,g5⟩:=zBb g4
 obtain rfl:=zHk g5
 obtain ⟨x1,rfl,_⟩:=zHl p1
 obtain ⟨x2,rfl,_⟩:=zHl p2
 obtain ⟨x3,rfl,_⟩:=zHl p3
 obtain ⟨x4,rfl,w4⟩:=zLH p4
 obtain ⟨x5,rfl,_⟩:=zHl p5
 exact ⟨(x1,x2,x3,x4,x5),rfl,w4⟩
theorem qQc {l:List Sm} {i:Nat} {e:List PV} (h:(l.map qBB)[i]?=some e):∃c,l[i]?=some c∧e=qBB c:=by
 rw [List.getElem?_map] at h
 obtain ⟨c,hc,rfl⟩:=Option.map_eq_some_iff.1 h
 exact ⟨c,hc,rfl⟩
def qNC (s:ByteArray):Bool:=(qDM s).2&&((qDM s).1.toList==s.toList)
def wrS (s:ByteArray):Bool:=qNC (⟨#[61]⟩++s)
def inZ (x lo hi:Int):Bool:=decide (lo≤x∧x≤hi)
def stB (n:Nat) (i:Nat) (c:Sm):Bool:=
 if c.1=1 then qA5 c.2.1 c.2.2.1&&(wrS c.2.2.2.1&&c.2.2.2.2==0) else
 if c.1=2 then qA5 c.2.1 c.2.2.1&&(qNC c.2.2.2.1&&c.2.2.2.2==0) else
 if c.1=3 then (c.2.1==0&&c.2.2.1==0)&&(wrS c.2.2.2.1&&inZ c.2.2.2.2 1 ((n:Int)-1-(i:Int))) else
 if c.1=4 then (c.2.1==0&&c.2.2.1==0)&&(wrS c.2.2.2.1&&inZ c.2.2.2.2 1 (i:Int)) else
 if c.1=5 then (c.2.1==0&&c.2.2.1==0)&&(wrS c.2.2.2.1&&c.2.2.2.2==0) else false
def qGM (l:List Sm):Bool:=qFZ (stB l.length) 0 l&&decide ((l.length:Int)≤30)
theorem qSu (s:ByteArray):(⟨#[61]⟩++s:ByteArray).toList≠ []:=by
 have e:(⟨#[61]⟩:ByteArray).toList= [61]:=by decide+kernel
 rw [qSc,e]
 exact List.cons_ne_nil _ _
theorem qQI {s:ByteArray} (hb:s.size≤140737488351232):(⟨#[61]⟩++s:ByteArray).size≤140737488355328∧decide ((⟨#[61]⟩:ByteArray).size+s.size≤9223372036854775807)=true:=by
 have e:(⟨#[61]⟩:ByteArray).size=1:=rfl
 rw [ByteArray.size_append,e]
 exact ⟨by omega,decide_eq_true (by omega)⟩
theorem qPk (s:ByteArray) (hb:s.size≤140737488351232):Ev (qB5 · s) (wrS s):=by
 refine qMZ (qJU (R:=fun n=>qEh n s) (qEW (qQI hb).2 (qDV (qMY _ (qQI hb).1) (qBC ?_))) fun n=>rfl)
 unfold qRI wrS qNC
 rw [decide_eq_true (qSu s),Bool.true_and]
theorem qOo (s:ByteArray) (hb:s.size≤140737488351232):Ev (qBR · s) (wrS s):=by
 refine qMZ (qJU (R:=fun n=>qEF n s) (qEW (qQI hb).2 (qDV (qIX _ (qQI hb).1) ?_)) fun n=>rfl)
 unfold wrS qNC
 cases h:(qDM (⟨#[61]⟩++s)).2 with
 |true=>exact qEW rfl (qEW (qQI hb).2 (qBC rfl))
 |false=>exact qH6 rfl (qBC rfl)
theorem qMa (x a b:Int):Ev (qAD · x a b) (inZ x a b):=by
 have h:=qAF x a b
 have e:inZ x a b=decide (a≤x∧x≤b):=rfl
 rw [e]
 exact h
theorem qMb (x a b:Int):Ev (qAb · x a b) (inZ x a b):=by
 have h:=qB0 x a b
 have e:inZ x a b=decide (a≤x∧x≤b):=rfl
 rw [e]
 exact h
theorem nb {a b:Int} (h:¬a=b):(a==b)=false:=beq_eq_false_iff_ne.2 h
theorem qRJ (n:Nat) (c:Sm) (i:Nat) (hb:c.2.2.2.1.size≤140737488351232):Ev (qC1 · c.1 c.2.1 c.2.2.1 c.2.2.2.1 c.2.2.2.2 (i:Int) ((n:Int)-1-(i:Int))) (stB n i c):=by
 obtain ⟨k,a,b,s,m⟩:=c
 refine qMZ (qJU (R:=fun q=>qDy q k a b s m (i:Int) ((n:Int)-1-(i:Int))) ?_ fun q=>rfl)
 unfold stB
 dsimp only
 have w:=qPk s hb
 by_cases k1:k=1
 ·subst k1
  refine qEW rfl (qDV (qCb a b) ?_)
  rw [if_pos rfl]
  cases qA5 a b with
  |false=>exact qH6 rfl (qBC rfl)
  |true=>
   refine qEW rfl (qDV w ?_)
   cases wrS s with
   |false=>exact qH6 rfl (qBC rfl)
   |true=>exact qEW rfl (qBC rfl)
 rw [if_neg k1]
 refine qH6 (nb k1) ?_
 by_cases k2:k=2
 ·subst k2
  refine qEW rfl (qDV (qCb a b) ?_)
  rw [if_pos rfl]
  cases qA5 a b with
  |false=>exact qH6 rfl (qBC rfl)
  |true=>
   refine qEW rfl ?_
   by_cases hs:s.toList= []
   ·refine qEW (qOJ hs) (qBC ?_)
    have e:qNC s=true:=by
     unfold qNC qDM
     have hp:qBt s 200=true:=qRm (by rw [hs];rfl) (by have:=qAQ s;rw [hs] at this;simp at this;omega)
     rw [if_neg (by rw [hp];simp),if_pos hs,hs]
     show (true&&((⟨#[]⟩:ByteArray).toList== []))=true
     rw [q9]
     rfl
    rw [e]
    simp
   ·refine qH6 (qGL hs) (qDV (qMY s (by have:s.size≤140737488351232:=hb;omega)) ?_)
    have e:qRI s=qNC s:=by unfold qRI qNC;rw [decide_eq_true hs,Bool.true_and]
    rw [e]
    cases qNC s with
    |false=>exact qH6 rfl (qBC rfl)
    |true=>exact qEW rfl (qBC rfl)
 rw [if_neg k2]
 refine qH6 (nb k2) ?_
 have zz:∀{X:Bool} {t:Nat→Tr Bool},Dwx (fun y=>y=X) t→Dwx (fun y=>y=((a==0&&b==0)&&X)) fun q=> .ask ((a==(0:Int))&&((b==(0:Int))&&true)) (t q) (.done false):=fun {X t} h=>by
  rw [Bool.and_true]
  cases a==0&&b==0 with
  |false=>exact qH6 rfl (qBC rfl)
  |true=>exact qEW rfl (by simpa using h)
 by_cases k3:k=3
 ·subst k3
  rw [if_pos rfl]
  refine qEW rfl (zz (qDV w ?_))
  cases wrS s with
  |false=>exact qH6 rfl (qBC rfl)
  |true=>exact qEW rfl (qDV (qMa m 1 _) (qBC rfl))
 rw [if_neg k3]
 refine qH6 (nb k3) ?_
 by_cases k4:k=4
 ·subst k4
  rw [if_pos rfl]
  refine qEW rfl (zz (qDV w ?_))
  cases wrS s with
  |false=>exact qH6 rfl (qBC rfl)
  |true=>exact qEW rfl (qDV (qMa m 1 _) (qBC rfl))
 rw [if_neg k4]
 refine qH6 (nb k4) ?_
 by_cases k5:k=5
 ·subst k5
  rw [if_pos rfl]
  refine qEW rfl (zz (qDV w ?_))
  cases wrS s with
  |false=>exact qH6 rfl (qBC rfl)
  |true=>exact qEW rfl (qBC rfl)
 rw [if_neg k5]
 exact qH6 (nb k5) (qBC rfl)
theorem qQ2 {α R:Type} {F:Nat→α→Nat→Option R} {f:Nat→α→R}:∀(l:List α) (i:Nat),(∀i,∀c∈l,Ev (F i c) (f i c))→∃n0,∀n,n0≤n→∀j c,l[j]?=some c→F (i+j) c n=some (f (i+j) c)
 | [],i,_=>⟨0,fun n _ j c hc=>by simp at hc⟩
 |a::l,i,h=>by
  obtain ⟨n1,h1⟩:=h i a (List.mem_cons_self ..)
  obtain ⟨n2,h2⟩:=qQ2 l (i+1) fun i c hc=>h i c (List.mem_cons_of_mem _ hc)
  refine ⟨n1+n2,fun n hn j c hc=>?_⟩
  cases j with
  |zero=>simp at hc;subst hc;exact h1 n (by omega)
  |succ j=>have:=h2 n (by omega) j c (by simpa using hc);rw [show i+(j+1)=i+1+j by omega];exact this
theorem qND (l:List Sm) (hb:l.length≤140737488351232) (hs:∀c∈l,c.2.2.2.1.size≤140737488351232):Ev (qF9 · (l.map qBB)) (qGM l):=by
 obtain ⟨n0,h0⟩:=qQ2 (F:=fun i (c:Sm) n=>qC1 n c.1 c.2.1 c.2.2.1 c.2.2.2.1 c.2.2.2.2 (i:Int) ((l.length:Int)-1-(i:Int))) (f:=stB l.length) l 0 fun i c hc=>qRJ l.length c i (hs c hc)
 refine ⟨n0+l.length+3,fun n hn=>?_⟩
 obtain ⟨m,rfl,hm⟩:=up1 hn
 have h:=qSB (B:=qEP m) (fun i=>(l.map qBB,l.map qBB,((l.map qBB).length:Int),(i:Int))) l (fun i c=>if stB l.length i c=true then none else some (.inl false)) (.inr (l.map qBB))
  (fun i c he=>by
   have hi:=(List.getElem?_eq_some_iff.1 he).1
   have hg:(l.map qBB)[i]?=some (qBB c):=by rw [List.getElem?_map,he];rfl
   obtain ⟨a1,a2⟩:=qPj rfl hg
   have h1:=h0 m (by omega) i c he
   rw [Nat.zero_add] at h1
   have w1:IntKind.i64.wrap (IntKind.i64.wrap (((l.map qBB).length:Int)-1)-(i:Int))=(l.length:Int)-1-(i:Int):=by
    rw [List.length_map,qa (x:=(l.length:Int)-1) (by omega),qa (by omega)]
   refine qD (decide_eq_true (by simpa using hi)) (qD a1 (qA a2 (qD rfl (qA rfl (qA rfl (qA rfl (qA rfl (qA rfl ?_))))))))
   rw [w1]
   refine qA h1 ?_
   cases stB l.length i c with
   |true=>refine qO rfl ?_;dsimp only;rw [qa (by omega)];rfl
   |false=>exact qD rfl rfl)
  (qO (decide_eq_false (by simp)) rfl) m (by omega)
 refine qA h ?_
 rw [qOL]
 unfold qGM
 cases qFZ (stB l.length) 0 l with
 |true=>simp [qC,qE,qG,qH,qJ,qK,Option.bind_some,qF,qM,qN]
 |false=>rfl
theorem qNE (l:List Sm) (hb:l.length≤140737488351232) (hs:∀c∈l,c.2.2.2.1.size≤140737488351232):Ev (qFq · (l.map qBB)) (qGM l):=by
 by_cases h30:(l.length:Int)>30
 ·refine qMZ (qJU (R:=fun q=>qFp q (l.map qBB)) (qEW (decide_eq_true (by simpa using h30)) (qBC ?_)) fun q=>rfl)
  unfold qGM
  rw [decide_eq_false (by omega),Bool.and_false]
 obtain ⟨n1,h1⟩:=qBI (F:=fun (c:Sm) n=>qy n c.2.1 c.2.2.1) (f:=fun c=>qA5 c.2.1 c.2.2.1) l fun c hc=>qCa c.2.1 c.2.2.1
 obtain ⟨n2,h2⟩:=qBI (F:=fun (c:Sm) n=>qBR n c.2.2.2.1) (f:=fun c=>wrS c.2.2.2.1) l fun c hc=>qOo c.2.2.2.1 (hs c hc)
 obtain ⟨n3,h3⟩:=qBI (F:=fun (c:Sm) n=>qCo n c.2.2.2.1) (f:=fun c=>qDM c.2.2.2.1) l fun c hc=>qIX c.2.2.2.1 (by have:=hs c hc;omega)
 obtain ⟨n4,h4⟩:=qQ2 (F:=fun i (c:Sm) n=>qAb n c.2.2.2.2 1 ((l.length:Int)-1-(i:Int))) (f:=fun i c=>inZ c.2.2.2.2 1 ((l.length:Int)-1-(i:Int))) l 0 fun i c hc=>qMb c.2.2.2.2 1 ((l.length:Int)-1-(i:Int))
 obtain ⟨n5,h5⟩:=qQ2 (F:=fun i (c:Sm) n=>qAb n c.2.2.2.2 1 (i:Int)) (f:=fun i c=>inZ c.2.2.2.2 1 (i:Int)) l 0 fun i c hc=>qMb c.2.2.2.2 1 (i:Int)
 refine ⟨n1+n2+n3+n4+n5+l.length+3,fun n hn=>?_⟩
 obtain ⟨m,rfl,hm⟩:=up1 hn
 have h:=qSB (B:=qEG m) (fun i=>(l.map qBB,(i:Int))) l (fun i c=>if stB l.length i c=true then none else some (.inl false)) (.inr ())
  (fun i c he=>by
   have hi:=(List.getElem?_eq_some_iff.1 he).1
   have hmem:=List.mem_of_getElem? he
   have hg:(l.map qBB)[i]?=some (qBB c):=by rw [List.getElem?_map,he];rfl
   obtain ⟨a1,a2⟩:=qPj rfl hg
   have h1:=h1 m (by omega) c hmem
   have h2:=h2 m (by omega) c hmem
   have h3:=h3 m (by omega) c hmem
   have h4:=h4 m (by omega) i c he
   have h5:=h5 m (by omega) i c he
   rw [Nat.zero_add] at h4 h5
   obtain ⟨k,a,b,s,q⟩:=c
   dsimp only at h1 h2 h3 h4 h5
   have w1:IntKind.i64.wrap (IntKind.i64.wrap (((l.map qBB).length:Int)-1)-(i:Int))=(l.length:Int)-1-(i:Int):=by
    rw [List.length_map,qa (x:=(l.length:Int)-1) (by omega),qa (by omega)]
   have w2:IntKind.i64.wrap ((i:Int)+1)=((i+1:Nat):Int):=by rw [qa (by omega)];omega
   refine qD (decide_eq_true (by simpa using hi)) (qD a1 (qA a2 (qD rfl (qA rfl (qA rfl (qA rfl (qA rfl (qA rfl ?_))))))))
   dsimp only
   rw [w1,w2]
   unfold stB
   dsimp only
   by_cases k1:k=1
   ·subst k1
    refine qD rfl (qA h1 ?_)
    rw [if_pos rfl]
    cases qA5 a b with
    |false=>exact qD rfl rfl
    |true=>
     refine qO rfl ?_
     by_cases q0:q=0
     ·subst q0
      refine qO rfl (qA h2 ?_)
      cases wrS s with
      |false=>exact qD rfl rfl
      |true=>exact qO rfl rfl
     ·refine qD (bne_iff_ne.2 q0) ?_
      rw [nb q0,Bool.and_false,Bool.and_false]
      rfl
   rw [if_neg k1]
   refine qO (nb k1) ?_
   by_cases k2:k=2
   ·subst k2
    refine qD rfl (qA h3 (qA h1 ?_))
    rw [if_pos rfl]
    cases qA5 a b with
    |false=>exact qD rfl rfl
    |true=>
     refine qO rfl ?_
     by_cases q0:q=0
     ·subst q0
      refine qO rfl ?_
      unfold qNC
      cases hq:(qDM s).2 with
      |false=>exact qD rfl rfl
      |true=>
       refine qO rfl ?_
       cases hq2:(qDM s).1.toList==s.toList with
       |false=>exact qD rfl rfl
       |true=>exact qO rfl rfl
     ·refine qD (bne_iff_ne.2 q0) ?_
      rw [nb q0,Bool.and_false,Bool.and_false]
      rfl
   rw [if_neg k2]
   refine qO (nb k2) ?_
   rw [Bool.and_true]
   by_cases k3:k=3
   ·subst k3
    rw [if_pos rfl]
    refine qD rfl ?_
    cases a==0&&b==0 with
    |false=>exact qD rfl rfl
    |true=>
     refine qO rfl (qA h4 ?_)
     cases inZ q 1 ((l.length:Int)-1-(i:Int)) with
     |false=>refine qD rfl ?_;rw [Bool.and_false,Bool.and_false];rfl
     |true=>
      refine qO rfl (qA h2 ?_)
      cases wrS s with
      |false=>exact qD rfl rfl
      |true=>exact qO rfl rfl
   rw [if_neg k3]
   refine qO (nb k3) ?_
   by_cases k4:k=4
   ·subst k4
    rw [if_pos rfl]
    refine qD rfl ?_
    cases a==0&&b==0 with
    |false=>exact qD rfl rfl
    |true=>
     refine qO rfl (qA h5 ?_)
     cases inZ q 1 (i:Int) with
     |false=>refine qD rfl ?_;rw [Bool.and_false,Bool.and_false];rfl
     |true=>
      refine qO rfl (qA h2 ?_)
      cases wrS s with
      |false=>exact qD rfl rfl
      |true=>exact qO rfl rfl
   rw [if_neg k4]
   refine qO (nb k4) ?_
   by_cases k5:k=5
   ·subst k5
    rw [if_pos rfl]
    refine qD rfl ?_
    cases a==0&&b==0 with
    |false=>exact qD rfl rfl
    |true=>
     refine qO rfl ?_
     by_cases q0:q=0
     ·subst q0
      refine qO rfl (qA h2 ?_)
      cases wrS s with
      |false=>exact qD rfl rfl
      |true=>exact qO rfl rfl
     ·refine qD (bne_iff_ne.2 q0) ?_
      rw [nb q0,Bool.and_false,Bool.and_false]
      rfl
   rw [if_neg k5]
   exact qO (nb k5) rfl)
  (qO (decide_eq_false (by simp)) rfl) m (by omega)
 refine qO (decide_eq_false (by simpa using h30)) (qA h ?_)
 rw [qOL]
 unfold qGM
 rw [decide_eq_true (by omega),Bool.and_true]
 cases qFZ (stB l.length) 0 l<;>rfl
theorem qNF (l:List Sm) (hb:l.length≤140737488351232) (left:Int):∀n,l.length+5≤n→∃r,qD9 n (l.map qBB) left=some r:=by
 intro n hn
 obtain ⟨m,rfl,hm⟩:=up1 hn
 obtain ⟨q,rfl⟩:∃q,m=q+2:=⟨m-2,by omega⟩
 have un:∀(a b c:Int) (s:ByteArray) (d left:Int),∃r,qEr (q+2) a b c s d left=some r:=fun a b c s d left=>by
  simp only [qEr,qGk,qC,qE,qG,qH,qJ,qK,Option.bind_some,qF,qM,qN]
  by_cases h:IntKind.i64.wrap (left-s.size)<0
  ·exact ⟨-1,by simp [h]⟩
  ·exact ⟨IntKind.i64.wrap (left-s.size),by simp [h]⟩
 simp only [qD9,qFb,qC,qE,qG,qH,qJ,qK,Option.bind_some,qF,qM,qN]
 obtain ⟨r,h⟩:=qQh (B:=qBq (q+2)) (rows:=l.map qBB)
  (fun i e x he=>by
   obtain ⟨c,hc,rfl⟩:=qQc he
   have hi:i<l.length:=(List.getElem?_eq_some_iff.1 hc).1
   have hi':(i:Int)<l.length:=by omega
   have hw:IntKind.i64.wrap ((i:Int)+1)=(i:Int)+1:=qa (by omega)
   obtain ⟨r,hr⟩:=un c.1 c.2.1 c.2.2.1 c.2.2.2.1 c.2.2.2.2 x
   by_cases h0:r<0
   ·exact .inr ⟨.inl (-1),by simp [qBq,qC,qE,qG,qH,qJ,qK,Option.bind_some,qF,qM,qN,hi',hc,qBB,zE,zh,hr,h0]⟩
   ·exact .inl ⟨r,by simp [qBq,qC,qE,qG,qH,qJ,qK,Option.bind_some,qF,qM,qN,hi',hc,qBB,zE,zh,hr,h0,hw]⟩)
  (fun x=>⟨.inr x,by simp [qBq,qC,qE,qG,qH,qJ,qK,Option.bind_some,qF,qM,qN]⟩) l.length 0 (q+2) (IntKind.i64.wrap (left-l.length)) (by simp) (by omega)
 simp only [Int.natCast_zero] at h
 by_cases h0:IntKind.i64.wrap (left-l.length)<0
 ·exact ⟨-1,by simp [h0]⟩
 ·rcases r with r|r
  ·exact ⟨r,by simp [h0,h,qC,qE,qG,qH,qJ,qK,Option.bind_some,qF,qM,qN]⟩
  ·exact ⟨r,by simp [h0,h,qC,qE,qG,qH,qJ,qK,Option.bind_some,qF,qM,qN]⟩
theorem qNG (l:List Sm) (hb:l.length*48≤140737488351232):Ev (qCh · (l.map qBB)) (l.length,l.map qBB):=by
 refine ⟨l.length+5,fun n hn=>?_⟩
 obtain ⟨m,rfl,hm⟩:=up1 hn
 simp only [qCh,qFc,qC,qE,qG,qH,qJ,qK,Option.bind_some,qF,qM,qN]
 have h:=qRL (B:=qCJ m) (rows:=l.map qBB) (z:= [.i .i64 0,.i .i64 0,.i .i64 0,.s ⟨#[]⟩,.i .i64 0]) (r:=fun acc=>((l.map qBB).length,acc)) (M:=m)
  (fun i acc e he ha hz=>by
   obtain ⟨c,hc,rfl⟩:=qQc he
   have hi:i<l.length:=(List.getElem?_eq_some_iff.1 hc).1
   have hi':(i:Int)<l.length:=by omega
   obtain ⟨q,rfl⟩:∃q,m=q+2:=⟨m-2,by omega⟩
   have hw:IntKind.i64.wrap ((i:Int)+1)=(i:Int)+1:=qa (by omega)
   have ha':acc.length=l.length:=by simpa using ha
   have un:∀(a b c:Int) (s:ByteArray) (d:Int),qEs (q+2) a b c s d=some (a,b,c,s,d):=fun a b c s d=>by simp only [qEs,qGl,qHg,qHf,qC,qE,qG,qH,qJ,qK,Option.bind_some,qF,qM,qN]
   simp [qCJ,qC,qE,qG,qH,qJ,qK,Option.bind_some,qF,qM,qN,hi',hc,qBB,zE,zh,un,hz,ha',hw,zAL])
  (fun acc ha=>by
   have ha':acc.length=l.length:=by simpa using ha
   simp [qCJ,qC,qE,qG,qH,qJ,qK,Option.bind_some,qF,qM,qN])
  (by simp;omega)
 simp only [List.length_map,Int.toNat_natCast] at h⊢
 rw [h]
 have h1:(48:Int)*(l.length:Int)≤140737488355328:=by omega
 have h2:(l.length:Int)≤9223372036854775807:=by omega
 simp [qC,qE,qG,qH,qJ,qK,Option.bind_some,qF,qM,qN,h1,h2]
theorem qNH (l:List Sm) (hb:l.length≤140737488351232):Ev (qEQ · (l.map qBB) (l.map qBB)) true:=by
 refine ⟨l.length+5,fun n hn=>?_⟩
 obtain ⟨m,rfl,hm⟩:=up1 hn
 simp only [qEQ,qGB,qC,qE,qG,qH,qJ,qK,Option.bind_some,qF,qM,qN]
 have h:=qQg (B:=qCS m) (rows:=l.map qBB) (r:= .inr ())
  (fun i e he=>by
   obtain ⟨c,hc,rfl⟩:=qQc he
   have hi:i<l.length:=(List.getElem?_eq_some_iff.1 hc).1
   have hi':(i:Int)<l.length:=by omega
   obtain ⟨q,rfl⟩:∃q,m=q+2:=⟨m-2,by omega⟩
   have hw:IntKind.i64.wrap ((i:Int)+1)=(i:Int)+1:=qa (by omega)
   have un:∀(a b c:Int) (s:ByteArray) (d:Int),qEx (q+2) a b c s d a b c s d=some true:=fun a b c s d=>by simp [qEx,qG5,qHy,qHx,qC,qE,qG,qH,qJ,qK,Option.bind_some,qF,qM,qN]
   simp [qCS,qC,qE,qG,qH,qJ,qK,Option.bind_some,qF,qM,qN,hi',hc,qBB,zE,zh,un,hw])
  (by simp [qCS,qC,qE,qG,qH,qJ,qK,Option.bind_some,qF,qM,qN]) l.length 0 m (by simp) (by omega)
 simp only [Int.natCast_zero] at h
 simp [h,qC,qE,qG,qH,qJ,qK,Option.bind_some,qF,qM,qN]
theorem qMP {α R:Type}:∀(l:List α) (i:Nat),qOK (fun (_:Nat) (_:α)=>(none:Option R)) i l=none
 | [],i=>rfl
 |a::l,i=>qMP l (i+1)
def plB (c:Nd):Bool:=if c.1=2 then qA5 c.2.2.2.2.2.1 c.2.2.2.2.2.2.1 else if c.1=3 then qFJ c.2.2.2.2.2.1 c.2.2.2.2.2.2.1 c.2.2.2.2.2.2.2.2.2.1 c.2.2.2.2.2.2.2.2.2.2.1 else true
structure PlaceCh (f:Nd→Nd):Prop where
 k:∀c,(f c).1=c.1
 n:∀c,qEX c=true→c.1=2∨c.1=3→qEX (f c)=plB (f c)
 kd:∀c,kd (f c)=kd c
abbrev Vs:=Int×List Int×List Cl
abbrev Br:=ByteArray×Int
theorem qSI {α:Type} {enc:α→List PV} {l:List α} {i:Nat} {a:α} (h:l[i]?=some a):(l.map enc)[i]?=some (enc a):=by rw [List.getElem?_map,h];rfl
inductive Rch (sc:Nat→List Nat) (a:Nat):Nat→Prop
 |one {j:Nat}:j∈sc a→Rch sc a j
 |more {i j:Nat}:Rch sc a i→j∈sc i→Rch sc a j
def qH7 (Q:List Nat):List Nat→List Nat
 | []=>Q
 |x::M=>qH7 (if Q.contains x=true then Q else Q++ [x]) M
theorem qEq {x:Nat}:∀(M Q:List Nat),x∈qH7 Q M↔x∈Q∨x∈M
 | [],Q=>by simp [qH7]
 |y::M,Q=>by
  unfold qH7
  rw [qEq M]
  by_cases h:Q.contains y=true
  ·rw [if_pos h]
   have hy:y∈Q:=by simpa using h
   rw [List.mem_cons]
   constructor
   ·rintro (h|h)
    ·exact .inl h
    ·exact .inr (.inr h)
   ·rintro (h|rfl|h)
    ·exact .inl h
    ·exact .inl hy
    ·exact .inr h
  ·rw [if_neg h,List.mem_append,List.mem_singleton,List.mem_cons,or_assoc]
theorem qLV:∀(M Q:List Nat),Q.Nodup→(qH7 Q M).Nodup
 | [],Q,h=>h
 |y::M,Q,h=>by
  unfold qH7
  refine qLV M _ ?_
  by_cases hy:Q.contains y=true
  ·rw [if_pos hy];exact h
  ·rw [if_neg hy]
   have hy':y∉Q:=by simpa using hy
   rw [List.nodup_append]
   refine ⟨h,by simp,fun a ha b hb=>?_⟩
   rw [List.mem_singleton] at hb
   subst hb
   rintro rfl
   exact hy' ha
theorem qKm:∀(M Q:List Nat) (k:Nat),k<Q.length→(qH7 Q M)[k]?=Q[k]?
 | [],Q,k,h=>rfl
 |y::M,Q,k,h=>by
  unfold qH7
  by_cases hy:Q.contains y=true
  ·rw [if_pos hy];exact qKm M Q k h
  ·rw [if_neg hy,qKm M _ k (by simp;omega),List.getElem?_append_left h]
theorem qQd:∀(n:Nat) (l:List Nat),l.Nodup→(∀x∈l,x<n)→l.length≤n
 |0,l,_,h=>by
  cases l with
  |nil=>simp
  |cons a l=>exact absurd (h a (List.mem_cons_self ..)) (Nat.not_lt_zero a)
 |n+1,l,hd,h=>by
  by_cases hn:n∈l
  ·have h1:=qQd n (l.erase n) (hd.erase n) fun x hx=>by
    have h2:=(hd.mem_erase_iff).1 hx
    have:=h x h2.2
    omega
   rw [List.length_erase_of_mem hn] at h1
   omega
  ·have:=qQd n l hd fun x hx=>by
    have h2:=h x hx
    have h3:x≠n:=fun e=>hn (e▸hx)
    omega
   omega
structure QI (sc:Nat→List Nat) (a n:Nat) (Q:List Nat) (k:Nat):Prop where
 nd:Q.Nodup
 lt:∀x∈Q,x<n
 rc:∀x∈Q,Rch sc a x
 st:∀j∈sc a,j∈Q
 dn:∀i q,i<k→Q[i]?=some q→q≠a∧∀j∈sc q,j∈Q
theorem QI.len {sc:Nat→List Nat} {a n:Nat} {Q:List Nat} {k:Nat} (h:QI sc a n Q k):Q.length≤n:=qQd n Q h.nd h.lt
theorem QI.all {sc:Nat→List Nat} {a n:Nat} {Q:List Nat} (h:QI sc a n Q Q.length):¬Rch sc a a:=by
 have key:∀x,Rch sc a x→x∈Q:=fun x hx=>by
  induction hx with
  |one h1=>exact h.st _ h1
  |more h1 h2 ih=>
   obtain ⟨i,hi,e⟩:=List.mem_iff_getElem.1 ih
   exact (h.dn i _ hi (by rw [List.getElem?_eq_getElem hi,e])).2 _ h2
 intro hr
 obtain ⟨i,hi,e⟩:=List.mem_iff_getElem.1 (key a hr)
 exact (h.dn i _ hi (by rw [List.getElem?_eq_getElem hi,e])).1 rfl
theorem QI.next {sc:Nat→List Nat} {a n:Nat} {Q:List Nat} {k q:Nat} (h:QI sc a n Q k) (hq:Q[k]?=some q) (hne:q≠a) (hs:∀j∈sc q,j<n):QI sc a n (qH7 Q (sc q)) (k+1):=by
 have hk:=(List.getElem?_eq_some_iff.1 hq).1
 have hm:=List.mem_of_getElem? hq
 refine ⟨qLV _ _ h.nd,fun x hx=>?_,fun x hx=>?_,fun j hj=>(qEq _ _).2 (.inl (h.st j hj)),fun i r hi hr=>?_⟩
 ·rcases (qEq _ _).1 hx with hx|hx
  ·exact h.lt x hx
  ·exact hs x hx
 ·rcases (qEq _ _).1 hx with hx|hx
  ·exact h.rc x hx
  ·exact .more (h.rc q hm) hx
 ·rw [qKm _ _ i (by omega)] at hr
  by_cases e:i=k
  ·subst e
   rw [hq] at hr
   cases hr
   exact ⟨hne,fun j hj=>(qEq _ _).2 (.inr hj)⟩
  ·obtain ⟨h1,h2⟩:=h.dn i r (by omega) hr
   exact ⟨h1,fun j hj=>(qEq _ _).2 (.inl (h2 j hj))⟩
theorem QI.start {sc:Nat→List Nat} {a n:Nat} (hd:(sc a).Nodup) (hs:∀j∈sc a,j<n):QI sc a n (sc a) 0:=⟨hd,hs,fun x hx=> .one hx,fun j hj=>hj,fun i q hi=>absurd hi (Nat.not_lt_zero i)⟩
structure MI (sc:Nat→List Nat) (a n:Nat) (met:List Bool) (Q:List Nat) (k:Nat):Prop where
 ln:met.length=n
 kl:k≤Q.length
 lt:∀x∈Q,x<n
 rc:∀x∈Q,Rch sc a x
 st:∀j∈sc a,j∈Q
 mt:∀i,met[i]?=some true→∀j∈sc i,j∈Q
 dn:∀i q,i<k→Q[i]?=some q→q≠a∧met[q]?=some true
theorem MI.all {sc:Nat→List Nat} {a n:Nat} {met:List Bool} {Q:List Nat} (h:MI sc a n met Q Q.length):¬Rch sc a a:=by
 have key:∀x,Rch sc a x→x∈Q:=fun x hx=>by
  induction hx with
  |one h1=>exact h.st _ h1
  |more h1 h2 ih=>
   obtain ⟨i,hi,e⟩:=List.mem_iff_getElem.1 ih
   exact h.mt _ (h.dn i _ hi (by rw [List.getElem?_eq_getElem hi,e])).2 _ h2
 intro hr
 obtain ⟨i,hi,e⟩:=List.mem_iff_getElem.1 (key a hr)
 exact (h.dn i _ hi (by rw [List.getElem?_eq_getElem hi,e])).1 rfl
theorem MI.start {sc:Nat→List Nat} {a n:Nat} (hs:∀j∈sc a,j<n):MI sc a n (List.replicate n false) (sc a) 0:=⟨by simp,Nat.zero_le _,hs,fun x hx=> .one hx,fun j hj=>hj,fun i hi=>by
 obtain ⟨h1,h2⟩:=List.getElem?_eq_some_iff.1 hi
 simp at h2,fun i q hi=>absurd hi (Nat.not_lt_zero i)⟩
inductive Tch (bs:Nat→Prop) (sc:Nat→List Nat):Nat→Prop
 |zero {i:Nat}:bs i→Tch bs sc i
 |lean {i k:Nat}:k∈sc i→Tch bs sc k→Tch bs sc i
structure TI (bs:Nat→Prop) (sc:Nat→List Nat) (n:Nat) (o:List Bool):Prop where
 ln:o.length=n
 ok:∀i,o[i]?=some true→Tch bs sc i
 st:∀i,i<n→bs i→o[i]?=some true
theorem TI.set {bs:Nat→Prop} {sc:Nat→List Nat} {n:Nat} {o:List Bool} (h:TI bs sc n o) {i k:Nat} (hk:k∈sc i) (ho:o[k]?=some true):TI bs sc n (o.set i true):=by
 refine ⟨by rw [List.length_set];exact h.ln,fun j hj=>?_,fun j hj hb=>?_⟩
 ·by_cases e:i=j
  ·subst e;exact .lean hk (h.ok k ho)
  ·rw [List.getElem?_set_ne e] at hj;exact h.ok j hj
 ·by_cases e:i=j
  ·subst e;exact List.getElem?_set_self (by rw [h.ln];exact hj)
  ·rw [List.getElem?_set_ne e];exact h.st j hj hb
theorem TI.all {bs:Nat→Prop} {sc:Nat→List Nat} {n:Nat} {o:List Bool} (h:TI bs sc n o) (hn:∀i,∀k∈sc i,k<n) (hc:∀i,i<n→∀k∈sc i,o[k]?=some true→o[i]?=some true) {i:Nat} (hi:i<n):o[i]?=some true↔Tch bs sc i:=by
 refine ⟨h.ok i,fun ht=>?_⟩
 induction ht with
 |zero hb=>exact h.st _ hi hb
 |lean hk _ ih=>exact hc _ hi _ hk (ih (hn _ _ hk))
structure SI (hr b2:Nat→Bool) (sc:Nat→List Nat) (n:Nat) (A:List Nat):Prop where
 nd:A.Nodup
 lt:∀a∈A,a<n
 ok:∀a∈A,Tch (fun i=>hr i=true∨b2 i=true) sc a
theorem SI.add {hr b2:Nat→Bool} {sc:Nat→List Nat} {n:Nat} {A:List Nat} {i:Nat} (h:SI hr b2 sc n A) (hi:i<n) (h1:¬(hr i||A.contains i)=true) (h2:(b2 i||A.any fun k=>(sc i).contains k)=true):SI hr b2 sc n (A++ [i]):=by
 have hn:i∉A:=fun hi=>h1 (by rw [Bool.or_eq_true];exact .inr (by simpa using hi))
 refine ⟨?_,fun a ha=>?_,fun a ha=>?_⟩
 ·rw [List.nodup_append]
  refine ⟨h.nd,by simp,fun a ha b hb=>?_⟩
  rw [List.mem_singleton] at hb
  subst hb
  rintro rfl
  exact hn ha
 ·rcases List.mem_append.1 ha with ha|ha
  ·exact h.lt a ha
  ·rw [List.mem_singleton] at ha;omega
 ·rcases List.mem_append.1 ha with ha|ha
  ·exact h.ok a ha
  ·rw [List.mem_singleton] at ha
   subst ha
   rcases Bool.or_eq_true_iff.1 h2 with hb|hb
   ·exact .zero (.inr hb)
   ·obtain ⟨k,hk,hc⟩:=List.any_eq_true.1 hb
    exact .lean (by simpa using hc) (h.ok k hk)
theorem SI.all {hr b2:Nat→Bool} {sc:Nat→List Nat} {n:Nat} {A:List Nat} (h:SI hr b2 sc n A) (hn:∀i,∀k∈sc i,k<n) (hb:∀i,∀k∈sc i,hr k=true→b2 i=true)
  (hc:∀i,i<n→(b2 i||A.any fun k=>(sc i).contains k)=true→(hr i||A.contains i)=true) {i:Nat} (hi:i<n):(hr i||A.contains i)=true↔Tch (fun i=>hr i=true∨b2 i=true) sc i:=by
 constructor
 ·intro h1
  rcases Bool.or_eq_true_iff.1 h1 with h1|h1
  ·exact .zero (.inl h1)
  ·exact h.ok i (by simpa using h1)
 ·intro ht
  induction ht with
  |zero hq=>
   rcases hq with hq|hq
   ·rw [hq];rfl
   ·exact hc _ hi (by rw [hq];rfl)
  | @lean i k hk _ ih=>
   refine hc i hi ?_
   rw [Bool.or_eq_true]
   rcases Bool.or_eq_true_iff.1 (ih (hn _ _ hk)) with h1|h1
   ·exact .inl (hb i k hk h1)
   ·exact .inr (List.any_eq_true.2 ⟨k,by simpa using h1,by simpa using hk⟩)
theorem qQ3 {α:Type} {p:Nat→α→Bool}:∀{l:List α} {i j:Nat} {c:α},qFZ p i l=true→l[j]?=some c→p (i+j) c=true
 | [],i,j,c,h,hc=>by simp at hc
 |a::l,i,0,c,h,hc=>by
  unfold qFZ at h
  rw [Bool.and_eq_true] at h
  simp only [List.getElem?_cons_zero,Option.some.injEq] at hc
  subst hc
  exact h.1
 |a::l,i,j+1,c,h,hc=>by
  unfold qFZ at h
  rw [Bool.and_eq_true] at h
  have:=qQ3 h.2 (show l[j]?=some c by simpa using hc)
  rwa [show i+(j+1)=i+1+j by omega]
theorem qPE {s:ByteArray} (h:qNC s=true):s.size≤200:=by
 unfold qNC at h
 rw [Bool.and_eq_true] at h
 have h1:=h.1
 unfold qDM at h1
 split at h1
 ·cases h1
 ·rename_i hp
  exact qH5 (by cases hq:qBt s 200 with|true=>rfl|false=>exact absurd hq hp)
theorem qLW {s:ByteArray} (h:wrS s=true):s.size≤200:=by
 have:=qPE h
 rw [ByteArray.size_append] at this
 omega
structure StOk (n:Nat) (c:Sm):Prop where
 k:c.1=1∨c.1=2∨c.1=3∨c.1=4∨c.1=5
 s:c.2.2.2.1.size≤200
 m:c.1=3∨c.1=4→1≤c.2.2.2.2∧c.2.2.2.2≤n
theorem qSv {n i:Nat} {c:Sm} (hi:i<n) (h:stB n i c=true):StOk n c:=by
 unfold stB at h
 by_cases k1:c.1=1
 ·rw [if_pos k1] at h
  simp only [Bool.and_eq_true] at h
  exact ⟨.inl k1,qLW h.2.1,fun e=>by omega⟩
 rw [if_neg k1] at h
 by_cases k2:c.1=2
 ·rw [if_pos k2] at h
  simp only [Bool.and_eq_true] at h
  exact ⟨.inr (.inl k2),qPE h.2.1,fun e=>by omega⟩
 rw [if_neg k2] at h
 by_cases k3:c.1=3
 ·rw [if_pos k3] at h
  simp only [Bool.and_eq_true,inZ,decide_eq_true_eq] at h
  exact ⟨.inr (.inr (.inl k3)),qLW h.2.1,fun e=>by omega⟩
 rw [if_neg k3] at h
 by_cases k4:c.1=4
 ·rw [if_pos k4] at h
  simp only [Bool.and_eq_true,inZ,decide_eq_true_eq] at h
  exact ⟨.inr (.inr (.inr (.inl k4))),qLW h.2.1,fun e=>by omega⟩
 rw [if_neg k4] at h
 by_cases k5:c.1=5
 ·rw [if_pos k5] at h
  simp only [Bool.and_eq_true] at h
  exact ⟨.inr (.inr (.inr (.inr k5))),qLW h.2.1,fun e=>by omega⟩
 rw [if_neg k5] at h
 cases h
def qEa (k:Int):ByteArray:=if k=1 then ⟨#[115,101,116]⟩ else if k=2 then ⟨#[112,117,116]⟩ else if k=3 then ⟨#[117,110,108,101,115,115]⟩ else if k=4 then ⟨#[119,104,105,108,101]⟩ else ⟨#[97,98,111,114,116]⟩
def qD8 (c:Sm):ByteArray:=if c.1=1∨c.1=2 then qA8 c.2.1 c.2.2.1 false false++⟨#[32]⟩ else if c.1=5 then ⟨#[]⟩ else qDz c.2.2.2.2++⟨#[32]⟩
def stT (c:Sm):ByteArray:=(qEa c.1++⟨#[32]⟩)++(qD8 c++(c.2.2.2.1++⟨#[10]⟩))
def mcx (l:List Sm):ByteArray:=l.foldl (fun t c=>t++stT c) ⟨#[]⟩
theorem qOM {l:List Sm} {i:Nat} {c:Sm} (h:l[i]?=some c):mcx (l.take (i+1))=mcx (l.take i)++stT c:=by
 unfold mcx
 rw [List.take_add_one,h,List.foldl_append]
 rfl
theorem qON (k:Int):(qEa k).size≤6:=by
 unfold qEa
 split
 ·decide
 ·split
  ·decide
  ·split
   ·decide
   ·split<;>decide
theorem qPF {n:Nat} {c:Sm} (h:StOk n c) (hn:n≤30):(qD8 c).size≤31:=by
 unfold qD8
 split
 ·rw [ByteArray.size_append]
  have:=qDJ c.2.1 c.2.2.1 false false
  show _+1≤31
  omega
 ·split
  ·decide
  ·rename_i k1 k5
   have hm:=h.m (by have:=h.k;omega)
   have:=qFa (x:=c.2.2.2.2) (by omega)
   rw [ByteArray.size_append]
   show _+1≤31
   omega
theorem qRn {n:Nat} {c:Sm} (h:StOk n c) (hn:n≤30):(stT c).size≤300:=by
 have h1:=qON c.1
 have h2:=qPF h hn
 have h3:=h.s
 unfold stT
 simp only [ByteArray.size_append]
 show _+1+(_+(_+1))≤300
 omega
theorem qQJ {l:List Sm} (h:∀c∈l,StOk l.length c) (hn:l.length≤30):∀i,i≤l.length→(mcx (l.take i)).size≤300*i:=by
 intro i
 induction i with
 |zero=>intro _;exact Nat.le_refl _
 |succ i ih=>
  intro hi
  have hg:=List.getElem?_eq_getElem (l:=l) (i:=i) (by omega)
  rw [qOM hg,ByteArray.size_append]
  have h1:=ih (by omega)
  have h2:=qRn (h _ (List.getElem_mem (by omega:i<l.length))) hn
  omega
theorem qQ4 (l:List Sm):mcx (l.take l.length)=mcx l:=by rw [List.take_length]
theorem qOO {l:List Sm} (h:qGM l=true):l.length≤30∧∀c∈l,StOk l.length c:=by
 unfold qGM at h
 rw [Bool.and_eq_true,decide_eq_true_eq] at h
 refine ⟨by omega,fun c hc=>?_⟩
 obtain ⟨j,hj⟩:=List.getElem?_of_mem hc
 have h1:=qQ3 h.1 hj
 rw [Nat.zero_add] at h1
 exact qSv (List.getElem?_eq_some_iff.1 hj).1 h1
def qNI (t:ByteArray):List (List PV):=t.data.toList.map byR
theorem qQK (t:ByteArray):(qNI t).length=t.size:=by
 unfold qNI
 rw [List.length_map]
 exact Array.length_toList
theorem qRo (t s:ByteArray):qNI (t++s)=qNI t++s.data.toList.map byR:=by
 unfold qNI
 rw [qC2,List.map_append]
theorem qQL:∀l:List UInt8,zGb (l.map byR)=true∧bytesOf (l.map byR)=some l
 | []=>⟨rfl,rfl⟩
 |c::l=>by
  obtain ⟨h1,h2⟩:=qQL l
  have hc:c.toNat<256:=c.toNat_lt
  constructor
  ·unfold zGb at h1⊢
   rw [List.map_cons,List.all_cons,h1,Bool.and_true]
   exact decide_eq_true ⟨by omega,by omega⟩
  ·rw [List.map_cons]
   show (bytesOf (l.map byR)).map (UInt8.ofNat ((c.toNat:Int)).toNat:: ·)=_
   rw [h2,Int.toNat_natCast,Option.map_some,UInt8.ofNat_toNat]
theorem bw (t s:ByteArray) (q:Nat) (h:t.size+s.size≤100000000):qT (q+1) s t.size (qNI t)=some ((s.size:Int),(t++s).size,qNI (t++s)):=by
 show zN s t.size (qNI t)=_
 unfold zN
 rw [if_pos ⟨(qQK t).symm,by omega⟩,ByteArray.size_append,qRo]
theorem bs (t:ByteArray) (q:Nat):qBm (q+1) t.size (qNI t)=some (t,[]):=by
 show zW t.size (qNI t)=_
 unfold zW
 obtain ⟨h1,h2⟩:=qQL t.data.toList
 rw [if_pos ⟨(qQK t).symm,h1⟩]
 show (bytesOf (t.data.toList.map byR)).map _=_
 rw [h2,Option.map_some]
theorem qSw {k:Int} (h:k=1∨k=2∨k=3∨k=4∨k=5) (q:Nat):qFH (q+1) k=some (qEa k):=by
 rcases h with rfl|rfl|rfl|rfl|rfl<;>rfl
theorem szd {x y:ByteArray} {a b:Nat} (hx:x.size≤a) (hy:y.size≤b) (hab:a+b≤9223372036854775807):decide (x.size+y.size≤9223372036854775807)=true:=decide_eq_true (by omega)
theorem sza {x y:ByteArray} {a b:Nat} (hx:x.size≤a) (hy:y.size≤b):(x++y).size≤a+b:=by rw [ByteArray.size_append];omega
theorem qIi:(⟨#[32]⟩:ByteArray).size≤1:=Nat.le_refl _
theorem qQe:(⟨#[10]⟩:ByteArray).size≤1:=Nat.le_refl _
theorem qQf (a b:Int):Ev (qDI · a b) (qA8 a b false false):=qMZ (qJU (R:=fun n=>qGA n a b) (qDV (qCT a b false false) (qBC rfl)) fun n=>rfl)
theorem qLX (l:List Sm) (hl:l.length≤30) (hs:∀c∈l,StOk l.length c):Ev (qEj · (l.map qBB)) (mcx l):=by
 obtain ⟨n1,h1⟩:=qBI (F:=fun (c:Sm) n=>qDI n c.2.1 c.2.2.1) (f:=fun c=>qA8 c.2.1 c.2.2.1 false false) l fun c _=>qQf _ _
 obtain ⟨n2,h2⟩:=qBI (F:=fun (c:Sm) n=>if c.1=3∨c.1=4 then qAe n c.2.2.2.2 else some (qDz c.2.2.2.2)) (f:=fun c=>qDz c.2.2.2.2) l fun c hc=>by
  by_cases hk:c.1=3∨c.1=4
  ·have hm:=(hs c hc).m hk
   simp only [if_pos hk]
   exact qDq _ (by omega)
  ·simp only [if_neg hk]
   exact ⟨0,fun n _=>rfl⟩
 refine ⟨n1+n2+l.length+5,fun n hn=>?_⟩
 obtain ⟨m,rfl,hm⟩:=up1 hn
 obtain ⟨q,rfl⟩:∃q,m=q+1:=⟨m-1,by omega⟩
 have h:=qSB (B:=qDf (q+1)) (fun i=>(l.map qBB,((l.map qBB).length:Int),(i:Int),(mcx (l.take i)).size,qNI (mcx (l.take i)))) l (fun _ _=>none) ((mcx l).size,qNI (mcx l))
  (fun i c he=>by
   have hi:=(List.getElem?_eq_some_iff.1 he).1
   have hmem:=List.mem_of_getElem? he
   obtain ⟨a1,a2⟩:=qPj (k:=(i:Int)) rfl (qSI (enc:=qBB) he)
   have h1:=h1 (q+1) (by omega) c hmem
   have h2:=h2 (q+1) (by omega) c hmem
   have hk:=hs c hmem
   have hz:=qQJ hs hl i (by omega)
   have hw:=qSw hk.k q
   have zw:=qON c.1
   have zm:=qPF hk hl
   have zs:=hk.s
   have w:IntKind.i64.wrap ((i:Int)+1)=((i+1:Nat):Int):=by rw [qa (by omega)];omega
   have e:=qOM he
   have zz:=sza zw qIi
   have zt:=sza zs qQe
   generalize mcx (l.take i)=t at*
   have b1:=bw t (qEa c.1++⟨#[32]⟩) q (by omega)
   have z1:(t++(qEa c.1++⟨#[32]⟩)).size≤9100:=by rw [ByteArray.size_append];omega
   have b2:=bw (t++(qEa c.1++⟨#[32]⟩)) (qD8 c) q (by omega)
   have z2:(t++(qEa c.1++⟨#[32]⟩)++qD8 c).size≤9200:=by rw [ByteArray.size_append];omega
   have b3:=bw (t++(qEa c.1++⟨#[32]⟩)++qD8 c) (c.2.2.2.1++⟨#[10]⟩) q (by omega)
   have e2:t++(qEa c.1++⟨#[32]⟩)++qD8 c++(c.2.2.2.1++⟨#[10]⟩)=mcx (l.take (i+1)):=by
    rw [e,stT,ByteArray.append_assoc,ByteArray.append_assoc]
   rw [e2] at b3
   have em0:qD8 c=⟨#[]⟩→t++(qEa c.1++⟨#[32]⟩)++qD8 c=t++(qEa c.1++⟨#[32]⟩):=fun h=>by rw [h];exact ByteArray.append_empty
   refine qD (decide_eq_true (by simpa using hi)) (qD a1 (qA a2 (qD rfl (qA rfl (qA rfl (qA rfl (qA rfl (qA rfl (qA hw (qD (szd zw qIi (by decide)) (qA b1 ?_)))))))))))
   dsimp only
   rw [w]
   have dt:=szd zs qQe (by decide)
   rcases hk.k with k|k|k|k|k
   ·have em:qA8 c.2.1 c.2.2.1 false false++⟨#[32]⟩=qD8 c:=by unfold qD8;rw [if_pos (.inl k)]
    refine qD (beq_iff_eq.2 k) (qA h1 (qD (szd (qDJ _ _ _ _) qIi (by decide)) ?_))
    rw [em]
    exact qA b2 (qD dt (qA b3 rfl))
   ·have em:qA8 c.2.1 c.2.2.1 false false++⟨#[32]⟩=qD8 c:=by unfold qD8;rw [if_pos (.inr k)]
    refine qO (nb (by omega)) (qD (beq_iff_eq.2 k) (qA h1 (qD (szd (qDJ _ _ _ _) qIi (by decide)) ?_)))
    rw [em]
    exact qA b2 (qD dt (qA b3 rfl))
   ·have em:qDz c.2.2.2.2++⟨#[32]⟩=qD8 c:=by unfold qD8;rw [if_neg (by omega),if_neg (by omega)]
    have hm:=hk.m (.inl k)
    simp only [if_pos (show c.1=3∨c.1=4 from .inl k)] at h2
    refine qO (nb (by omega)) (qO (nb (by omega)) (qD (beq_iff_eq.2 k) (qA h2 (qD (szd (qFa (by omega)) qIi (by decide)) ?_))))
    rw [em]
    exact qA b2 (qD dt (qA b3 rfl))
   ·have em:qDz c.2.2.2.2++⟨#[32]⟩=qD8 c:=by unfold qD8;rw [if_neg (by omega),if_neg (by omega)]
    have hm:=hk.m (.inr k)
    simp only [if_pos (show c.1=3∨c.1=4 from .inr k)] at h2
    refine qO (nb (by omega)) (qO (nb (by omega)) (qO (nb (by omega)) (qD (beq_iff_eq.2 k) (qA h2 (qD (szd (qFa (by omega)) qIi (by decide)) ?_)))))
    rw [em]
    exact qA b2 (qD dt (qA b3 rfl))
   ·have em:qD8 c=⟨#[]⟩:=by unfold qD8;rw [if_neg (by omega),if_pos k]
    rw [em0 em] at b3
    exact qO (nb (by omega)) (qO (nb (by omega)) (qO (nb (by omega)) (qO (nb (by omega)) (qD dt (qA b3 rfl))))))
  (qO (decide_eq_false (by simp)) (by rw [qQ4];rfl)) (q+1) (by omega)
 rw [qMP] at h
 refine qA h ?_
 exact qA (bs (mcx l) q) rfl
theorem qLY (l:List Sm) (hb:l.length≤140737488351232) (hs:∀c∈l,c.2.2.2.1.size≤140737488351232):Ev (qEe · (l.map qBB)) (if qGM l=true then mcx l else ⟨#[]⟩):=by
 have hM:=qNE l hb hs
 refine qMZ (qJU (R:=fun n=>qEd n (l.map qBB)) (qDV hM ?_) fun n=>rfl)
 cases hB:qGM l with
 |false=>exact qEW rfl (qBC rfl)
 |true=>
  rw [if_pos rfl]
  obtain ⟨hl,hk⟩:=qOO hB
  obtain ⟨n1,h1⟩:=qBI (F:=fun (c:Sm) n=>qA1 n c.2.1 c.2.2.1 false false) (f:=fun c=>qA8 c.2.1 c.2.2.1 false false) l fun c _=>qDA _ _ _ _
  obtain ⟨n2,h2⟩:=qBI (F:=fun (c:Sm) n=>if c.1=3∨c.1=4 then qAN n c.2.2.2.2 else some (qDz c.2.2.2.2)) (f:=fun c=>qDz c.2.2.2.2) l fun c hc=>by
   by_cases hq:c.1=3∨c.1=4
   ·have hm:=(hk c hc).m hq
    simp only [if_pos hq]
    exact qG7 _ (by omega)
   ·simp only [if_neg hq]
    exact ⟨0,fun n _=>rfl⟩
  refine qH6 rfl (qDV (r:=mcx l) ⟨n1+n2+l.length+5,fun m hm=>?_⟩ (qBC rfl))
  have h:=qSB (B:=qDZ m) (fun i=>(l.map qBB,mcx (l.take i),(i:Int))) l (fun _ _=>none) (mcx l)
   (fun i c he=>by
    have hi:=(List.getElem?_eq_some_iff.1 he).1
    have hmem:=List.mem_of_getElem? he
    obtain ⟨a1,a2⟩:=qPj (k:=(i:Int)) rfl (qSI (enc:=qBB) he)
    have h1:=h1 m (by omega) c hmem
    have h2:=h2 m (by omega) c hmem
    have hk:=hk c hmem
    have hz:=qQJ (fun c hc=>(qOO hB).2 c hc) hl i (by omega)
    have zs:=hk.s
    have w:IntKind.i64.wrap ((i:Int)+1)=((i+1:Nat):Int):=by rw [qa (by omega)];omega
    have e:=qOM he
    generalize mcx (l.take i)=t at*
    have zt:t.size≤9000:=by omega
    refine qD (decide_eq_true (by simpa using hi)) (qD a1 (qA a2 (qD rfl (qA rfl (qA rfl (qA rfl (qA rfl (qA rfl (qA h1 ?_)))))))))
    dsimp only
    rw [w,e]
    have zp:=qDJ c.2.1 c.2.2.1 false false
    have fin:∀{x:ByteArray} {k:Int},qEa c.1++⟨#[32]⟩=x→∀{y:ByteArray},y++⟨#[32]⟩=qD8 c→t++x++y++⟨#[32]⟩++c.2.2.2.1++⟨#[10]⟩=t++stT c:=fun {x k} h1 {y} h2=>by
     rw [stT,h1,←h2]
     simp only [ByteArray.append_assoc]
    rcases hk.k with k|k|k|k|k
    ·have em:qA8 c.2.1 c.2.2.1 false false++⟨#[32]⟩=qD8 c:=by unfold qD8;rw [if_pos (.inl k)]
     have ew:qEa c.1++⟨#[32]⟩=(⟨#[115,101,116,32]⟩:ByteArray):=by rw [k];rfl
     have z4:(⟨#[115,101,116,32]⟩:ByteArray).size≤4:=Nat.le_refl _
     refine qD (beq_iff_eq.2 k) (qD (szd zt z4 (by decide)) (qD (szd (sza zt z4) zp (by decide)) (qD (szd (sza (sza zt z4) zp) qIi (by decide)) (qD (szd (sza (sza (sza zt z4) zp) qIi) zs (by decide)) (qD (szd (sza (sza (sza (sza zt z4) zp) qIi) zs) qQe (by decide)) ?_)))))
     rw [fin (k:=0) ew em]
     rfl
    ·have em:qA8 c.2.1 c.2.2.1 false false++⟨#[32]⟩=qD8 c:=by unfold qD8;rw [if_pos (.inr k)]
     have ew:qEa c.1++⟨#[32]⟩=(⟨#[112,117,116,32]⟩:ByteArray):=by rw [k];rfl
     have z4:(⟨#[112,117,116,32]⟩:ByteArray).size≤4:=Nat.le_refl _
     refine qO (nb (by omega)) (qD (beq_iff_eq.2 k) (qD (szd zt z4 (by decide)) (qD (szd (sza zt z4) zp (by decide)) (qD (szd (sza (sza zt z4) zp) qIi (by decide)) (qD (szd (sza (sza (sza zt z4) zp) qIi) zs (by decide)) (qD (szd (sza (sza (sza (sza zt z4) zp) qIi) zs) qQe (by decide)) ?_))))))
     rw [fin (k:=0) ew em]
     rfl
    ·have em:qDz c.2.2.2.2++⟨#[32]⟩=qD8 c:=by unfold qD8;rw [if_neg (by omega),if_neg (by omega)]
     have hm:=hk.m (.inl k)
     have zp:=qFa (x:=c.2.2.2.2) (by omega)
     have ew:qEa c.1++⟨#[32]⟩=(⟨#[117,110,108,101,115,115,32]⟩:ByteArray):=by rw [k];rfl
     have z4:(⟨#[117,110,108,101,115,115,32]⟩:ByteArray).size≤7:=Nat.le_refl _
     simp only [if_pos (show c.1=3∨c.1=4 from .inl k)] at h2
     refine qO (nb (by omega)) (qO (nb (by omega)) (qD (beq_iff_eq.2 k) (qD (szd zt z4 (by decide)) (qA h2 (qD (szd (sza zt z4) zp (by decide)) (qD (szd (sza (sza zt z4) zp) qIi (by decide)) (qD (szd (sza (sza (sza zt z4) zp) qIi) zs (by decide)) (qD (szd (sza (sza (sza (sza zt z4) zp) qIi) zs) qQe (by decide)) ?_))))))))
     rw [fin (k:=0) ew em]
     rfl
    ·have em:qDz c.2.2.2.2++⟨#[32]⟩=qD8 c:=by unfold qD8;rw [if_neg (by omega),if_neg (by omega)]
     have hm:=hk.m (.inr k)
     have zp:=qFa (x:=c.2.2.2.2) (by omega)
     have ew:qEa c.1++⟨#[32]⟩=(⟨#[119,104,105,108,101,32]⟩:ByteArray):=by rw [k];rfl
     have z4:(⟨#[119,104,105,108,101,32]⟩:ByteArray).size≤6:=Nat.le_refl _
     simp only [if_pos (show c.1=3∨c.1=4 from .inr k)] at h2
     refine qO (nb (by omega)) (qO (nb (by omega)) (qO (nb (by omega)) (qD (beq_iff_eq.2 k) (qD (szd zt z4 (by decide)) (qA h2 (qD (szd (sza zt z4) zp (by decide)) (qD (szd (sza (sza zt z4) zp) qIi (by decide)) (qD (szd (sza (sza (sza zt z4) zp) qIi) zs (by decide)) (qD (szd (sza (sza (sza (sza zt z4) zp) qIi) zs) qQe (by decide)) ?_)))))))))
     rw [fin (k:=0) ew em]
     rfl
    ·have em:qD8 c=⟨#[]⟩:=by unfold qD8;rw [if_neg (by omega),if_pos k]
     have ew:qEa c.1++⟨#[32]⟩=(⟨#[97,98,111,114,116,32]⟩:ByteArray):=by rw [k];rfl
     have z4:(⟨#[97,98,111,114,116,32]⟩:ByteArray).size≤6:=Nat.le_refl _
     have e3:t++⟨#[97,98,111,114,116,32]⟩++c.2.2.2.1++⟨#[10]⟩=t++stT c:=by
      rw [stT,ew,em]
      have e4:(⟨#[]⟩:ByteArray)++(c.2.2.2.1++⟨#[10]⟩)=c.2.2.2.1++⟨#[10]⟩:=ByteArray.empty_append
      rw [e4]
      simp only [ByteArray.append_assoc]
     refine qO (nb (by omega)) (qO (nb (by omega)) (qO (nb (by omega)) (qO (nb (by omega)) (qD (beq_iff_eq.2 k) (qD (szd zt z4 (by decide)) (qD (szd (sza zt z4) zs (by decide)) (qD (szd (sza (sza zt z4) zs) qQe (by decide)) ?_)))))))
     rw [e3]
     rfl)
   (qO (decide_eq_false (by simp)) (by rw [qQ4];rfl)) m (by omega)
  rw [qMP] at h
  exact h
theorem qLZ (l:List Sm) (hb:l.length≤140737488351232) (hs:∀c∈l,c.2.2.2.1.size≤140737488351232):Ev (qEl · (l.map qBB)) (if qGM l=true then mcx l else ⟨#[]⟩):=by
 refine qMZ (qJU (R:=fun n=>qEk n (l.map qBB)) (qDV (qND l hb hs) ?_) fun n=>rfl)
 cases hB:qGM l with
 |false=>exact qEW rfl (qBC rfl)
 |true=>
  rw [if_pos rfl]
  obtain ⟨hl,hk⟩:=qOO hB
  exact qH6 rfl (qDV (qLX l hl hk) (qBC rfl))
theorem law (rows:List (List PV)) (w:rows.length*48≤140737488351232∧∀r∈rows,okR [.i .i64,.i .i64,.i .i64,.s,.i .i64] r):Ev (qD3 · rows) true:=by
 obtain ⟨l,rfl,hs⟩:=qSC w.2
 have hl:l.length*48≤140737488351232:=by simpa using w.1
 have t1:=qNG l hl
 have eL:decide ((l.length:Nat)=(l.map qBB).length)=true:=decide_eq_true (by simp)
 have ap:∀s:ByteArray,zAk (⟨(.c (.p (.s s))),[],[]⟩:Res)=true:=fun s=>rfl
 refine qMZ (qJU (R:=fun n=>qCt n (l.map qBB)) (qSt ⟨_,qNF l (by omega) 1048576⟩ ?_) fun n=>rfl)
 refine qDV t1 (qEW eL (qDV (qLY l (by omega) hs) (qEW (ap _) (qDV t1 (qEW eL (qDV (qLZ l (by omega) hs) (qEW (ap _) (qH6 (by simp) ?_))))))))
 exact qDV t1 (qEW eL (qEW eL (qDV (qNH l (by omega)) (qEW (qF _) (qH6 rfl (qBC rfl))))))
def Sml (x:Int):Prop:=1≤x∧x≤1000000000
structure VerT (v:Vs):Prop where
 id:Sml v.1
 up:∀u∈v.2.1,Sml u
 un:v.2.1.length≤2
 cn:v.2.2.length≤120
 cs:∀c∈v.2.2,c.2.2.size≤200
structure BrT (b:Br):Prop where
 id:Sml b.2
 nm:b.1.size≤12
end Go.Proofs.YtkkkfjgagjdcoaaGreatDoor.KFnExactMacroText

